import Derived.Test.YtbmeeglehbaggaaLfiA
import Derived.Test.YtbmeeglehbaggaaMapE
import Derived.ArgAppend
namespace Go.Proofs.Ytbmeeglehbaggaa
open Go.RowKit Go.Maps

/-- What an append of x to a way leaves. -/
def AppW (w : World) (ao : Option Addr) (n cap : Nat) (x : Int) (v : Value) (w' : World) : Prop :=
  (∃ g off, ao = some ⟨g, off, none⟩ ∧ n + 1 ≤ cap ∧ v = .slice (some ⟨g, off, none⟩) (n + 1) cap ∧ w' = w.setCell ⟨g, off + n, none⟩ (.int .i64 x)) ∨
  ∃ g c, v = .slice (some ⟨g, 0, none⟩) (n + 1) c ∧ n + 1 ≤ c ∧ w.heap.size ≤ g ∧ IR w'.heap 3 g 0 (n + 1) c ∧ Fr (fun _ => False) w w'
theorem wpList_appW {w : World} {ops : Array Oper} {rest : List Oper} {o : Oper} {a : Act} {Q : Exit → Act → World → Prop}
    (hg : o.guard = none) (s x : Operand) (hop : o.op = Op.call { callee := Callee.builtin Builtin.append, args := #[s, x], argTypes := #[22, 22] })
    {ao : Option Addr} {n cap : Nat} (hs : a.eval s = .slice ao n cap) (hcase : (ao = none ∧ n = 0 ∧ cap = 0) ∨ ∃ g off, ao = some ⟨g, off, none⟩ ∧ IR w.heap 3 g off n (off + cap)) (hn : n < 20)
    {gx : Nat} {y : Int} (hx : a.eval x = .slice (some ⟨gx, 0, none⟩) 1 1) (hc : w.cell? ⟨gx, 0, none⟩ = some (.int .i64 y))
    (hK : ∀ v w', AppW w ao n cap y v w' → wpList Try.prog ops Q rest (a.put o.dst v) w') :
    wpList Try.prog ops Q (o :: rest) a w := by
  obtain ⟨i, h2, h3, h4, h5⟩ := info_parts infoInt
  have hgr : ∀ (l : List Int) v' w', l.length = n + 1 → w'.ownsRow w.heap.size 3 1 v' (n + 1) (ivals .i64 l) → w.grownBy w' none → AppW w ao n cap y v' w' := fun l v' w' _ r1 r2 => by
    obtain ⟨a', c', ob, rfl, hO, hN⟩ := Ownd.of_owns r1
    obtain ⟨g, rfl, rfl, hI⟩ := IR.of_own hO (by omega)
    exact .inr ⟨g, c', rfl, hO.cap, hN g rfl, hI, (Fr.refl _ _).grown r2 (fun _ h => nomatch h)⟩
  have hnews : ∀ j u, ([.int .i64 y] : List Value)[j]? = some u → w.cell? ((⟨gx, 0, none⟩ : Addr).add j) = some u := fun j u hj => by
    match j with
    | 0 => simp at hj; subst hj; rw [Addr.add_lit]; exact hc
    | j + 1 => simp at hj
  rcases hcase with ⟨rfl, rfl, rfl⟩ | ⟨g, off, rfl, hI⟩
  · refine wpList_append_grows w hg s x 22 hop 3 i _ 1 8 Try.underlying22 h2 h3 h4 h5 (by rfl) (by decide) none 0 0 [] hs (fun _ => ⟨rfl, rfl⟩) rfl (fun b hb => nomatch hb) ⟨gx, 0, none⟩ 1 1 [.int .i64 y] hx rfl hnews (by simp [Value.oneCell']) (by omega) (by decide) (by decide) ?_
    intro v' w' r1 r2
    exact hK v' w' (hgr [y] v' w' rfl r1 r2)
  · refine wpList_append_arg w hg s x 22 hop 3 i _ 1 8 Try.underlying22 h2 h3 h4 h5 (by rfl) (by decide) g off n cap (ivals .i64 ((List.range n).map fun j => iv w g (off + j))) hs (by simp) ?_ ⟨gx, 0, none⟩ 1 1 [.int .i64 y] hx rfl hnews (by simp [Value.oneCell']) ?_ (by simp only [maxLen]; omega) (by omega) ?_ ?_
    · intro j u hj
      have hjn : j < n := by
        have := (List.getElem?_eq_some_iff.1 hj).1
        simpa using this
      have h6 := hI.cell (i := off + j) (by omega) (by omega)
      rw [h6, ← hj]
      simp [ivals, hjn]
    · intro hr j hj
      simp at hj
      subst hj
      exact ⟨hI.isSome (by omega), hI.frozen _⟩
    · intro hr
      refine hK _ _ (.inl ⟨g, off, rfl, hr, rfl, ?_⟩)
      simp [World.setCells]
    · intro _ v' w' r1 r2
      refine hK v' w' (hgr (((List.range n).map fun j => iv w g (off + j)) ++ [y]) v' w' (by simp) ?_ r2)
      rw [show ivals .i64 (((List.range n).map fun j => iv w g (off + j)) ++ [y]) = ivals .i64 ((List.range n).map fun j => iv w g (off + j)) ++ [.int .i64 y] by simp [ivals]]
      exact r1

theorem zeroS (w : World) : (zeroValue 22).run Try.prog w = .ok (.slice none 0 0) w := by kernel_rfl
theorem WayOk.nil (H : Array Obj) (Pd : Nat → Prop) : WayOk H Pd (.slice none 0 0) := ⟨none, 0, 0, rfl, by omega, .inl ⟨rfl, rfl, rfl⟩⟩
theorem WayOk.get {H : Array Obj} {Pd : Nat → Prop} {M : List ((Int × Int) × Value)} (h : ∀ p ∈ M, WayOk H Pd p.2) (q : Int × Int) : WayOk H Pd ((mget M q).getD (.slice none 0 0)) := by
  cases hg : mget M q with
  | none => exact WayOk.nil _ _
  | some v => exact h _ (mget_some hg)

section
variable {w w' : World} {Pd : Nat → Prop} {sb n c : Nat} {to : Int} {L : FL}
/-- The map's block alone has turned. -/
theorem LN.frM (h : LN w Pd sb n to c L) (F : Fr (fun k => k = L.mb) w w') {c' : Nat} (hM : ∃ M : List ((Int × Int) × Value), MapL w' Try.prog 107 klp L.mb M ∧ M.length ≤ c' ∧ (∀ p ∈ M, KeyOk p.1) ∧ ∀ p ∈ M, WayOk w'.heap Pd p.2) : LN w' Pd sb n to c' L := by
  obtain ⟨M, m1, -⟩ := h.mp
  refine ⟨h.n8, h.sB.fr F (fun e => m1.ne h.sB e.symm), ?_, fun i hi => ?_, ?_, fun i hi => ?_, fun i hi => ?_, hM, h.pd⟩
  · obtain ⟨cs, c1, c2⟩ := h.cT
    exact ⟨cs, c1.fr F (fun e => m1.ne c1 e.symm), c2⟩
  · have hI := h.cR i hi
    obtain ⟨cs, c1, -⟩ := hI
    exact (h.cR i hi).fr F (fun e => m1.ne c1 e.symm)
  · obtain ⟨cs, c1, c2⟩ := h.nT
    exact ⟨cs, c1.fr F (fun e => m1.ne c1 e.symm), c2⟩
  · obtain ⟨x, y, c1⟩ := h.nB i hi
    exact ⟨x, y, c1.fr F (fun e => m1.ne c1 e.symm)⟩
  · have hI := h.hR i hi
    obtain ⟨cs, c1, -⟩ := hI
    exact (h.hR i hi).fr F (fun e => m1.ne c1 e.symm)
theorem WayOk.frM {k : TypeId} {P : Program} {M : List ((Int × Int) × Value)} {b : Nat} (hM : MapL w P k klp b M) {v : Value} (h : WayOk w.heap Pd v) (F : Fr (fun k => k = b) w w') : WayOk w'.heap Pd v := by
  obtain ⟨a, n, c, h1, h2, h3⟩ := h
  refine ⟨a, n, c, h1, h2, h3.imp id ?_⟩
  rintro ⟨g, off, e, hp, h⟩
  have hI := h
  obtain ⟨cs, c1, -⟩ := hI
  exact ⟨g, off, e, hp, h.fr F (fun e => hM.ne c1 e.symm)⟩
/-- Another way put into the map. -/
theorem LN.put (h : LN w Pd sb n to c L) {M : List ((Int × Int) × Value)} (hM : MapL w Try.prog 107 klp L.mb M) (hk : ∀ p ∈ M, KeyOk p.1) (hW : ∀ p ∈ M, WayOk w.heap Pd p.2) (F : Fr (fun k => k = L.mb) w w') {q : Int × Int} {v : Value} (hM' : MapL w' Try.prog 107 klp L.mb (mput M q v)) {c' : Nat} (hc : (mput M q v).length ≤ c') (hq : KeyOk q) (hv : WayOk w'.heap Pd v) : LN w' Pd sb n to c' L := by
  refine h.frM F ⟨_, hM', hc, fun p hp => ?_, fun p hp => ?_⟩
  · rcases List.mem_cons.1 hp with rfl | hp
    · exact hq
    · exact hk p (List.mem_filter.1 hp).1
  · rcases List.mem_cons.1 hp with rfl | hp
    · exact hv
    · exact WayOk.frM hM (hW p (List.mem_filter.1 hp).1) F
theorem send_end {wA wC : World} {M : List ((Int × Int) × Value)} {q : Int × Int} {a0 : Option Addr} {n0 cap0 : Nat} {far : Int} {v : Value} {o1 : Obj} (h : LN wA Pd sb n to c L) (mA : MapL wA Try.prog 107 klp L.mb M) (m2 : M.length ≤ c) (m3 : ∀ p ∈ M, KeyOk p.1) (m4 : ∀ p ∈ M, WayOk wA.heap Pd p.2) (hq : KeyOk q)
    (hcase : (a0 = none ∧ n0 = 0 ∧ cap0 = 0) ∨ ∃ g off, a0 = some ⟨g, off, none⟩ ∧ Pd g ∧ IR wA.heap 3 g off n0 (off + cap0)) (hA : AppW (ChangeMaps.setBlock wA L.mb o1) a0 n0 cap0 far v wC) (hup : ∀ k, wA.heap.size ≤ k → Pd k) :
    wC.heap[L.mb]? = some o1 ∧ Fr (fun x => x = L.mb ∨ ∃ off, a0 = some ⟨x, off, none⟩) wA wC ∧ ∀ o', (∀ w3 : World, w3.heap[L.mb]? = some o' → MapL w3 Try.prog 107 klp L.mb (mput M q v)) → LN (ChangeMaps.setBlock wC L.mb o') Pd sb n to (c + 1) L ∧ Fr Pd wA (ChangeMaps.setBlock wC L.mb o') := by
  have hlt := mA.lt
  have hPm := h.pd.2.2.2.1
  have hsz := (fr_setBlock wA L.mb o1).size
  have hbl := setBlock_get hlt o1
  have hlen : (mput M q v).length ≤ c + 1 := by have := mput_length (L := M) (q := q) (v := v); omega
  have hF1 : Fr Pd wA (ChangeMaps.setBlock wA L.mb o1) := (fr_setBlock wA L.mb o1).mono (fun _ _ e => by rw [e]; exact hPm)
  rcases hA with ⟨g, off, rfl, hr, rfl, rfl⟩ | ⟨g, c', rfl, hc', hg, hI, hF⟩
  · rcases hcase with ⟨h1, -⟩ | ⟨g', off', e, hp, hI⟩
    · cases h1
    · cases e
      have hI' := hI
      obtain ⟨cs, c1, -⟩ := hI'
      have hgm := mA.ne c1
      have hX := h.setI hI (off + n0) far
      have mX : MapL (wA.setCell ⟨g, off + n0, none⟩ (.int .i64 far)) Try.prog 107 klp L.mb M := mA.fr ((Fr.refl (fun k => k = g) wA).setCell (p := ⟨g, off + n0, none⟩) (fun _ => rfl) _) hgm
      have e1 : ((ChangeMaps.setBlock wA L.mb o1).setCell ⟨g, off + n0, none⟩ (.int .i64 far)).heap[L.mb]? = some o1 := by
        rw [Below.heap_setCell _ _ _ _ hgm]; exact hbl
      have hlt2 : L.mb < ((ChangeMaps.setBlock wA L.mb o1).setCell ⟨g, off + n0, none⟩ (.int .i64 far)).heap.size := by rw [World.size_setCell]; omega
      refine ⟨e1, ((fr_setBlock wA L.mb o1).mono (fun _ _ e => .inl e)).setCell (fun _ => .inr ⟨off, rfl⟩) _, fun o' hM' => ⟨hX.put mX m3 (fun p hp => (m4 p hp).set _ _ _) (fr_past wA ⟨g, off + n0, none⟩ _ L.mb o1 o') (hM' _ (setBlock_get hlt2 o')) hlen hq ?_, ?_⟩⟩
      · refine WayOk.frM mX ?_ (fr_past wA ⟨g, off + n0, none⟩ _ L.mb o1 o')
        exact ⟨_, _, _, rfl, hr, .inr ⟨g, off, rfl, hp, hI.push (by omega) far⟩⟩
      · exact (hF1.setCell (fun _ => hp) _).trans ((fr_setBlock _ L.mb o').mono (fun _ _ e => by rw [e]; exact hPm))
  · have hFA : Fr (fun k => k = L.mb) wA wC := (fr_setBlock wA L.mb o1).trans (hF.none _)
    have hltC : L.mb < wC.heap.size := Nat.lt_of_lt_of_le hlt hFA.size
    refine ⟨(hF.block _ (by omega) (fun h => h)).trans hbl, hFA.mono (fun _ _ e => .inl e), fun o' hM' => ⟨h.put mA m3 m4 (hFA.trans (fr_setBlock wC L.mb o')) (hM' _ (setBlock_get hltC o')) hlen hq ?_, ?_⟩⟩
    · exact ⟨_, _, _, rfl, hc', .inr ⟨g, 0, rfl, hup g (by omega), by rw [Nat.zero_add]; exact hI.fr (fr_setBlock wC L.mb o') (by omega)⟩⟩
    · exact (hFA.trans (fr_setBlock wC L.mb o')).mono (fun _ _ e => by rw [e]; exact hPm)
end
end Go.Proofs.Ytbmeeglehbaggaa
