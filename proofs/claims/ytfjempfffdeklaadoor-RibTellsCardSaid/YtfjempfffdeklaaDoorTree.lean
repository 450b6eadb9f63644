import Derived.Test.YtfjempfffdeklaaDoorMix
namespace Go
section
variable {P : Program} {ops : Array Oper} {C : World → Prop} {w w1 : World} {E : Nat → Bool}

/-- The tail waits for all. -/
def Region.tailT (ops : Array Oper) (T : Array Nat) (n : Nat) : Bool :=
  (List.range ops.size).all fun t => !decide (n ≤ t) || (List.range t).all fun k => (T.getD t 0).testBit k
theorem tailT_spec {T : Array Nat} {n t k : Nat} (h : Region.tailT ops T n = true) (ht : t < ops.size) (hn : n ≤ t) (hk : k < t) : (T.getD t 0).testBit k = true := by
  have h1 := List.all_eq_true.1 h t (List.mem_range.2 ht)
  simp only [decide_eq_true hn, Bool.not_true, Bool.false_or] at h1
  exact List.all_eq_true.1 h1 k (List.mem_range.2 hk)

theorem wpAnyMx_firstT {T : Array Nat} {n i : Nat} {oi : Oper} {v : Value} {L : Array Bool → Act → World → Prop} (hi : ops[i]? = some oi) (hsel : ∀ (j : Nat) (o : Oper) cs b, ops[j]? = some o → o.op ≠ .select cs b)
    (hT : Region.ancOk ops T = true) (hm : Region.tailT ops T n = true) (hin : i < n)
    (hdone : ∀ listed a w, L listed a w → ∀ j ∈ Region.ready .any ops listed, n ≤ j) :
    ∀ (f : Nat) (listed : Array Bool) (a : Act) (w : World), HeadInv .any ops n listed →
      (∀ j oj, ops[j]? = some oj → j ≠ i → listed.getD j true = false → (∀ e ∈ oj.after, Region.binds .any e = true → e.on ≠ i) → oi.apart ops oj = true) →
      i ∈ Region.ready .any ops listed → YC P ops (clsOf C w1 E i) oi v a → (oi.op.quietB = true ∨ Region.wanted oi (yielded ops a.tmps) = false) →
      wpAnyMx P ops C w1 E n L f (listed.setIfInBounds i true) (a.put oi.dst v) w → wpAnyMx P ops C w1 E n L (f + 1) listed a w := by
  have his : i < ops.size := (Array.getElem?_eq_some_iff.1 hi).1
  have headOf : ∀ (listed : Array Bool), HeadInv .any ops n listed → listed.getD i true = false → ∀ j ∈ Region.ready .any ops listed, j < n := by
    intro listed inv hun j hj
    rcases Nat.lt_or_ge j n with h | h
    · exact h
    · have hjs : j < ops.size := (Array.getElem?_eq_some_iff.1 (mem_ready.1 hj).2.choose_spec.1).1
      exact absurd hj (ready_no hT inv his (tailT_spec hm hjs h (by omega)) hun)
  intro f
  induction f with
  | zero =>
    intro listed a w inv _ hr hy hq H
    have hun := (mem_ready.1 hr).1
    refine ⟨fun h => (by rw [h] at hr; cases hr), fun j hj => ?_⟩
    have hjn := headOf listed inv hun j hj
    refine ⟨hjn, ?_⟩
    by_cases hji : j = i
    · subst hji; exact mOp_of_YC hi hy hq H
    · have := hdone _ _ _ H j (ready_mono hj hji)
      omega
  | succ f ih =>
    intro listed a w inv hfree hr hy hq H
    have hun := (mem_ready.1 hr).1
    refine ⟨fun h => (by rw [h] at hr; cases hr), fun j hj => ?_⟩
    have hjn := headOf listed inv hun j hj
    refine ⟨hjn, ?_⟩
    by_cases hji : j = i
    · subst hji; exact mOp_of_YC hi hy hq H
    · have h1 := (H.2 j (ready_mono hj hji)).2
      obtain ⟨hjun, oj, hoj, hall⟩ := mem_ready.1 hj
      have hnot : ∀ e ∈ oj.after, Region.binds .any e = true → e.on ≠ i := fun e he hb heq => by
        have h1 := hall e he hb
        rw [heq, getD_both hun] at h1
        cases h1
      have hap := hfree j oj hoj hji hjun hnot
      have h2 := mOp_put hoj hap (fun cs b => hsel i oi cs b hi) (fun cs b => hsel j oj cs b hoj) hy h1
      have hfree' : ∀ k ok, ops[k]? = some ok → k ≠ i → (listed.setIfInBounds j true).getD k true = false →
          (∀ e ∈ ok.after, Region.binds .any e = true → e.on ≠ i) → oi.apart ops ok = true := fun k ok hk hki hun hno => by
        refine hfree k ok hk hki ?_ hno
        by_cases hjk : j = k
        · subst hjk; exact hjun
        · rw [getD_set_ne true hjk] at hun; exact hun
      have hqk : ∀ a', YC P ops (clsOf C w1 E i) oi v a' → oi.op.quietB = true ∨ Region.wanted oi (yielded ops a.tmps) = false → (Region.wanted oi (yielded ops a'.tmps) = Region.wanted oi (yielded ops a.tmps)) → (oi.op.quietB = true ∨ Region.wanted oi (yielded ops a'.tmps) = false) := fun a' _ h0 he => by rw [he]; exact h0
      -- the guard of 'oi' reads the same in every state that 'j' leaves
      have h2' : mOp P ops C w1 E j (fun a' w' => (YC P ops (clsOf C w1 E i) oi v a' ∧ wpAnyMx P ops C w1 E n L f ((listed.setIfInBounds i true).setIfInBounds j true) (a'.put oi.dst v) w') ∧ Region.wanted oi (yielded ops a'.tmps) = Region.wanted oi (yielded ops a.tmps)) a w := by
        obtain ⟨g1, g2, g3⟩ := Oper.apart_spec hap
        unfold mOp at h2 ⊢
        simp only [hoj] at h2 ⊢
        split
        · rename_i hqq
          simp only [hqq, if_true] at h2
          obtain ⟨u, hu, hn⟩ := h2
          exact ⟨u, hu, hn, wanted_put oi a oj.dst u g3⟩
        · rename_i hqq
          simp only [hqq, Bool.false_eq_true, if_false] at h2
          split
          · rename_i hw
            simp only [hw, if_true] at h2
            exact Oper.effUpon_mono' (fun u w' hk => ⟨hk.1, hk.2, wanted_put oi a oj.dst u g3⟩) h2
          · rename_i hw
            simp only [hw] at h2
            exact ⟨h2, wanted_put oi a oj.dst undef g3⟩
      refine mOp_mono (fun a' w' h3 => ih (listed.setIfInBounds j true) a' w' (inv.set hj hjn) hfree' (ready_mono hr (Ne.symm hji)) h3.1.1 (hqk a' h3.1.1 hq h3.2) ?_) h2'
      rw [Array.setIfInBounds_comm _ _ hji]
      exact h3.1.2


/-- A guarded operation that is wanted: its guard struck. -/
theorem wpList_struck {Q : Exit → Act → World → Prop} {o : Oper} {rest : List Oper} {a : Act} (hw : Region.wanted o (yielded ops a.tmps) = true) (h : wpList P ops Q ({ o with guard := none } :: rest) a w) : wpList P ops Q (o :: rest) a w := by
  unfold wpList at h ⊢
  rw [if_pos hw]
  have h2 : Region.wanted { o with guard := none } (yielded ops a.tmps) = true := rfl
  rw [if_pos h2] at h
  exact h
/-- An effect, as a list of one. -/
theorem effs_of_list {K : Act → World → Prop} {a : Act} {o : Oper}
    (h : wpList P ops (fun e a' w' => e = .normal ∧ a'.defers = a.defers ∧ C w' ∧ K a' w') [o] a w) :
    if Region.wanted o (yielded ops a.tmps) = true then o.effs P a w (fun a' w' => C w' ∧ K a' w') else K (a.put o.dst undef) w := by

  unfold wpList at h
  split
  · rename_i hw
    simp only [hw, if_true] at h
    rcases h with h | ⟨_, a₀, w₀, h, _⟩
    · unfold Oper.effs
      unfold Oper.wp at h
      generalize (execOp a.eval o).run P w = r at *
      cases r with
      | ok n w' =>
        cases n <;> simp only [Oper.upon] at h <;> simp only [Oper.effUpon]
        case value v => exact h.2.2
        case skip => exact h.2.2
        case defer d =>
          have := h.2.1
          generalize o.dst = dd at this
          cases dd <;> simp [Act.put] at this
        case enter f args =>
          refine h.mono fun e w'' he => ?_
          cases e with
          | returned v => exact he.2.2
          | panicked c => exact absurd he.1 (by simp)
          | outgrown => obtain ⟨_, _, h1, _⟩ := he; cases h1
        case row row args => exact Rows.mono h fun v w'' he => he.2.2
      | halt x w' =>
        cases x <;> simp only [Oper.upon] at h
        exact absurd h.1 (by simp)
    · cases h
  · rename_i hw
    simp only [hw] at h
    exact h.2.2.2

def setR (listed : Array Bool) (a : Nat) : Nat → Array Bool
  | 0 => listed
  | m + 1 => setR (listed.setIfInBounds a true) (a + 1) m
/-- What is left of the head, walked whichever order its effects take. -/
def Tr (P : Program) (ops : Array Oper) (C : World → Prop) (w1 : World) (E : Nat → Bool) (n : Nat) (Lq : Act → World → Prop) (f : Nat) (listed : Array Bool) (a : Act) (w : World) : Prop :=
  HeadInv .any ops n listed → wpAnyMx P ops C w1 E n (fun listed' a' w' => Region.seqB .any ops (ops.size - n) n listed' = true ∧ Lq a' w') f listed a w
def Region.pieceB (ops : Array Oper) (n : Nat) : Nat → Nat → Array Bool → Bool
  | _, 0, _ => true
  | a, m + 1, listed => (Region.ready .any ops listed).contains a && Region.free .any ops listed a && decide (a < n) && (match ops[a]? with | some o => o.op.quietB | none => false) && Region.pieceB ops n (a + 1) m (listed.setIfInBounds a true)
/-- What is asked of the region's text. -/
def Region.treeB (ops : Array Oper) (n : Nat) : Bool :=
  Region.noSelect ops && decide (n ≤ ops.size) && Region.ancOk ops (Region.before ops) && Region.tailT ops (Region.before ops) n
variable {n : Nat} {Lq : Act → World → Prop}

/-- A run of quiet operations, numbers k, k + 1, .. -/
theorem tr_quiet (hB : Region.treeB ops n = true) (D : World → Prop) (hD : ∀ i w, clsOf C w1 E i w → D w) : ∀ (l1 : List Oper) (k F : Nat) (listed : Array Bool) (a : Act),
    (∀ j, j < l1.length → l1[j]? = ops[k + j]?) → Region.pieceB ops n k l1.length listed = true →
    wpQuiet P ops D (fun a' => Tr P ops C w1 E n Lq F (setR listed k l1.length) a' w) l1 a → Tr P ops C w1 E n Lq (F + l1.length) listed a w
  | [], k, F, listed, a, _, _, h => h
  | o :: l1, k, F, listed, a, hl, hp, h => by
    intro inv
    have h0 : ops[k]? = some o := by simpa using (hl 0 (by simp)).symm
    simp only [List.length_cons, Region.pieceB, Bool.and_eq_true, h0, decide_eq_true_eq] at hp
    obtain ⟨⟨⟨⟨hr, hf⟩, hk⟩, hq⟩, hp'⟩ := hp
    have hr' : k ∈ Region.ready .any ops listed := by simpa using hr
    simp only [Region.treeB, Bool.and_eq_true, decide_eq_true_eq] at hB
    have hB' := hB
    obtain ⟨⟨⟨hsel, hn⟩, hT⟩, hm⟩ := hB
    have inv' := inv.set hr' hk
    have hl' : ∀ j, j < l1.length → l1[j]? = ops[k + 1 + j]? := fun j hj => by
      have := hl (j + 1) (by simpa using hj)
      simpa [Nat.add_assoc, Nat.add_comm 1] using this
    have next := fun (a' : Act) (hh : wpQuiet P ops D (fun a' => Tr P ops C w1 E n Lq F (setR (listed.setIfInBounds k true) (k + 1) l1.length) a' w) l1 a') =>
      tr_quiet (by simp only [Region.treeB, Bool.and_eq_true, decide_eq_true_eq]; exact hB') D hD l1 (k + 1) F (listed.setIfInBounds k true) a' hl' hp' hh inv'
    have hd : ∀ (listed : Array Bool) (a : Act) (w : World), (Region.seqB .any ops (ops.size - n) n listed = true ∧ Lq a w) → ∀ j ∈ Region.ready .any ops listed, n ≤ j := fun listed' a' w' hL => seqB_ready hL.1
    unfold wpQuiet at h
    rw [List.length_cons, ← Nat.add_assoc]
    by_cases hw : Region.wanted o (yielded ops a.tmps) = true
    · simp only [hw, if_true] at h
      obtain ⟨v, h1, h2⟩ := Oper.q1_of_quiet hq h
      exact wpAnyMx_firstT h0 (Region.noSelect_spec hsel) hT hm hk hd (F + l1.length) listed a w inv (Region.free_spec h0 hf) hr' (.inl ⟨hw, fun w hc => h1 w (hD k w hc)⟩) (.inl hq) (next _ h2)
    · simp only [hw] at h
      exact wpAnyMx_firstT h0 (Region.noSelect_spec hsel) hT hm hk hd (F + l1.length) listed a w inv (Region.free_spec h0 hf) hr' (.inr ⟨by simpa using hw, rfl⟩) (.inl hq) (next _ h)
end
section
variable {P : Program} {l : List Oper} {C : World → Prop} {w w1 : World} {E : Nat → Bool} {n : Nat} {Lq : Act → World → Prop} {G : Nat} {listed : Array Bool} {a : Act}

theorem tr_late (hB : Region.treeB l.toArray n = true) (hC : C w1) (k m F : Nat) (hF : G = F + m) (hm : k + m ≤ l.length) (hp : Region.pieceB l.toArray n k m listed = true)
    (h : wpQuiet P l.toArray C (fun a' => Tr P l.toArray C w1 E n Lq F (setR listed k m) a' w) ((l.drop k).take m) a) : Tr P l.toArray C w1 E n Lq G listed a w := by
  have e : ((l.drop k).take m).length = m := by simp; omega
  subst hF
  have := tr_quiet (P := P) (C := C) (w := w) (w1 := w1) (E := E) (Lq := Lq) hB C (fun i w' hc => by unfold clsOf at hc; split at hc <;> first | exact hc | (rw [hc]; exact hC)) ((l.drop k).take m) k F listed a (fun j hj => by rw [e] at hj; simp [hj]) (by rw [e]; exact hp) (by rw [e]; exact h)
  rwa [e] at this
/-- The early ones among them alone: each is told in the first world. -/
theorem tr_early (hB : Region.treeB l.toArray n = true) (k m F : Nat) (hF : G = F + m) (hm : k + m ≤ l.length) (hp : Region.pieceB l.toArray n k m listed = true) (he : ∀ j, j < m → E (k + j) = true)
    (h : wpQuiet P l.toArray (fun w' => w' = w1) (fun a' => Tr P l.toArray C w1 E n Lq F (setR listed k m) a' w) ((l.drop k).take m) a) : Tr P l.toArray C w1 E n Lq G listed a w := by
  subst hF
  induction m generalizing k listed a with
  | zero => simpa [setR, wpQuiet] using h
  | succ m ih =>
    have hkl : k < l.length := by omega
    have hd : (l.drop k).take (m + 1) = l[k] :: (l.drop (k + 1)).take m := by rw [List.drop_eq_getElem_cons hkl, List.take_succ_cons]
    rw [hd] at h
    have h0 : l.toArray[k]? = some l[k] := by simp [hkl]
    have hp0 := hp
    simp only [Region.pieceB, Bool.and_eq_true, h0, decide_eq_true_eq] at hp
    obtain ⟨⟨⟨⟨hr, hf⟩, hk⟩, hq⟩, hp'⟩ := hp
    intro inv
    have hr' : k ∈ Region.ready .any l.toArray listed := by simpa using hr
    have hB' := hB
    simp only [Region.treeB, Bool.and_eq_true, decide_eq_true_eq] at hB
    obtain ⟨⟨⟨hsel, hn⟩, hT⟩, hmt⟩ := hB
    have next := fun (a' : Act) (hh : wpQuiet P l.toArray (fun w' => w' = w1) (fun a' => Tr P l.toArray C w1 E n Lq F (setR (listed.setIfInBounds k true) (k + 1) m) a' w) ((l.drop (k + 1)).take m) a') =>
      ih (listed := listed.setIfInBounds k true) (a := a') (k + 1) (by omega) hp' (fun j hj => by have := he (j + 1) (by omega); rwa [show k + 1 + j = k + (j + 1) by omega]) hh (inv.set hr' hk)
    have hdn : ∀ (listed : Array Bool) (a : Act) (w : World), (Region.seqB .any l.toArray (l.toArray.size - n) n listed = true ∧ Lq a w) → ∀ j ∈ Region.ready .any l.toArray listed, n ≤ j := fun listed' a' w' hL => seqB_ready hL.1
    unfold wpQuiet at h
    rw [← Nat.add_assoc]
    by_cases hw : Region.wanted l[k] (yielded l.toArray a.tmps) = true
    · simp only [hw, if_true] at h
      obtain ⟨v, h1, h2⟩ := Oper.q1_of_quiet hq h
      exact wpAnyMx_firstT h0 (Region.noSelect_spec hsel) hT hmt hk hdn (F + m) listed a w inv (Region.free_spec h0 hf) hr' (.inl ⟨hw, fun w hc => h1 w (by
        unfold clsOf at hc
        have := he 0 (by omega)
        rw [Nat.add_zero] at this
        rwa [if_pos this] at hc)⟩) (.inl hq) (next _ h2)
    · simp only [hw] at h
      exact wpAnyMx_firstT h0 (Region.noSelect_spec hsel) hT hmt hk hdn (F + m) listed a w inv (Region.free_spec h0 hf) hr' (.inr ⟨by simpa using hw, rfl⟩) (.inl hq) (next _ h)
/-- One effect of those that may come now. -/
def TrE (P : Program) (l : List Oper) (C : World → Prop) (w1 : World) (E : Nat → Bool) (n : Nat) (Lq : Act → World → Prop) (F : Nat) (listed : Array Bool) (a : Act) (w : World) (i : Nat) : Prop :=
  wpList P l.toArray (fun e a' w' => e = .normal ∧ a'.defers = a.defers ∧ C w' ∧ Tr P l.toArray C w1 E n Lq F (listed.setIfInBounds i true) a' w') ((l.drop i).take 1) a w
/-- Whichever effect comes next. -/
theorem tr_eff (is : List Nat) (F : Nat) (hF : G = F + 1) (hr : Region.ready .any l.toArray listed = is) (hi : (!is.isEmpty && is.all fun i => decide (i < n) && (match l[i]? with | some o => !o.op.quietB | none => false)) = true)
    (h : ∀ i ∈ is, TrE P l C w1 E n Lq F listed a w i) : Tr P l.toArray C w1 E n Lq G listed a w := by
  subst hF
  intro inv
  simp only [Bool.and_eq_true, Bool.not_eq_true', List.isEmpty_eq_false_iff] at hi
  refine ⟨by rw [hr]; exact hi.1, fun i hir => ?_⟩
  have hii := hir
  rw [hr] at hii
  have h2 := List.all_eq_true.1 hi.2 i hii
  simp only [Bool.and_eq_true, decide_eq_true_eq] at h2
  obtain ⟨hin, h3⟩ := h2
  refine ⟨hin, ?_⟩
  have h4 := h i hii
  unfold TrE at h4
  cases ho : l[i]? with
  | none => rw [ho] at h3; cases h3
  | some o =>
    rw [ho] at h3
    have hq : o.op.quietB = false := by simpa using h3
    have hil : i < l.length := (List.getElem?_eq_some_iff.1 ho).1
    have hd : (l.drop i).take 1 = [o] := by
      rw [List.drop_eq_getElem_cons hil, List.take_succ_cons, List.take_zero]
      rw [(List.getElem?_eq_some_iff.1 ho).2]
    rw [hd] at h4
    have h5 := effs_of_list h4
    have inv' := inv.set hir hin
    unfold mOp
    simp only [List.getElem?_toArray, ho, hq, Bool.false_eq_true, if_false]
    split
    · rename_i hw
      simp only [hw, if_true] at h5
      exact Oper.effUpon_mono (fun a' w' hk => ⟨hk.1, hk.2 inv'⟩) h5
    · rename_i hw
      simp only [hw] at h5
      exact h5 inv'
theorem tr_end (hs : Region.seqB .any l.toArray (l.toArray.size - n) n listed = true) (h : Lq a w) : Tr P l.toArray C w1 E n Lq 0 listed a w := fun _ => ⟨hs, h⟩

/-- **A REGION THAT DRAWS ITS ORDER, WHOSE EFFECTS MAY COME IN SEVERAL ORDERS.** -/
theorem wp_region_tree {id : Nat} {Q : Exit → Act → World → Prop} (C : World → Prop) (n : Nat) (hm : P.follows .mixedOrders = true) (hB : Region.treeB l.toArray n = true) (hC : C w.drew)
    (h : Region.treeB l.toArray n = true → Tr P l.toArray C w.drew (Region.early l.toArray (Region.before l.toArray) n) n (fun a' w' => wpList P l.toArray Q (l.drop n) a' w') n (Array.replicate l.length false) a w.drew) : (Code.region id l.toArray true).wp P Q a w := by
  have H := h hB
  simp only [Region.treeB, Bool.and_eq_true, decide_eq_true_eq] at hB
  obtain ⟨⟨⟨hsel, hn⟩, hT⟩, hmt⟩ := hB
  have hn' : n ≤ l.length := by simpa using hn
  have hdl : (l.drop n).length = l.toArray.size - n := by simp
  have hE := early_ok l.toArray (Region.before l.toArray) n
  have inv0 : HeadInv .any l.toArray n (Array.replicate l.length false) :=
    ⟨by simp, fun j oj _ hl => (by rw [getD_replicate_false] at hl; cases hl), fun t _ ht => getD_in (by simpa using ht) (getD_replicate_false _ _)⟩
  refine wp_region_any hm ?_
  have := wpAny_of_mx (Q' := Q) (g := l.toArray.size - n) hT hE (fun listed a' w' hL => by
    have := wpAny_of_seq (md := .any) (Q' := Q) (l.drop n) n listed a' w' (fun j => by simp [List.getElem?_drop]) (by rw [hdl]; exact hL.1) hL.2
    rwa [hdl] at this) _ _ _ _ inv0 hC (.inl rfl) (H inv0)
  rw [show n + (l.toArray.size - n) = l.toArray.size by simp; omega] at this
  simpa using this
end
end Go
