import Derived.Deep.QuietTactic
import Derived.BigQuiet
import Derived.StillTail
import Derived.Tactics2
import Derived.KernelRfl
import Derived.WalkKit
namespace Go
section
variable {P : Program} {ops : Array Oper} {md : Region.Mode} {C : World → Prop} {w w1 : World} {E : Nat → Bool}

/-- Operation kinds that may be taken as quiet: they hand back a value and leave the world. -/
def Op.quietB : Op → Bool
  | .move _ | .assign _ | .pick .. | .load .. | .nilCheck _ | .binOp .. | .unOp .. | .convert .. | .makeInterface .. | .makeFunc .. | .slice .. | .fieldAddr ..
  | .field .. | .indexAddr .. | .index .. | .lookup .. | .typeAssert .. | .extract .. | .build .. => true
  | .call c => match c.callee with
    | .builtin .len | .builtin .cap | .builtin .min | .builtin .max => true
    | _ => false
  | _ => false

theorem run_value_not_enter (s : Sem Value) (f : FuncId) (args : Array Value) (w' : World) :
    (do pure (Next.value (← s)) : Sem Next).run P w ≠ .ok (.enter f args) w' := by
  rw [Sem.run_bind]
  cases s.run P w <;> simp [Result.andThen, Sem.run_pure]

theorem execOp_not_enter (o : Oper) (ρ : Operand → Value) (h : o.op.quietB = true) (f : FuncId) (args : Array Value) (w' : World) :
    (execOp ρ o).run P w ≠ .ok (.enter f args) w' := by
  obtain ⟨dst, op, type, pos, after, guard⟩ := o
  cases op <;> simp only [Op.quietB] at h <;> simp only [execOp] <;> first
    | exact run_value_not_enter _ _ _ _
    | (simp [Sem.run_pure]; done)
    | (exact absurd h (by decide))
    | skip
  case pick =>
    rw [Sem.run_bind]
    cases (asBool (ρ _)).run P w <;> simp [Result.andThen, Sem.run_pure]
  case nilCheck x =>
    have np : ∀ w, (runtimePanic .nilDeref : Sem Next).run P w ≠ .ok (.enter f args) w' := by
      intro w
      simp [runtimePanic, program, goPanic, Sem.run_bind, Sem.run, Result.andThen]
    cases ρ x with
    | pointer a =>
      cases a with
      | none => exact np w
      | some a => simp [Sem.run_pure]
    | nilFunc => exact np w
    | nilIface => exact np w
    | func fn first cap =>
      cases fn with
      | method name =>
        dsimp only
        split
        · exact np w
        · rw [Sem.run_bind]
          cases (program : Sem Program).run P w with
          | halt h w => simp [Result.andThen]
          | ok p w =>
            simp only [Result.andThen]
            rw [Sem.run_bind]
            cases (nilAhead (p.types.size + Made.depth) _ _ name).run P w with
            | halt h w => simp [Result.andThen]
            | ok b w =>
              simp only [Result.andThen]
              split
              · simp [unsupported, Sem.run, Result.andThen]
              · simp [Sem.run_pure]
        · simp [Sem.run_pure]
      | _ => simp [Sem.run_pure]
    | _ => simp [Sem.run_pure]
  case call c =>
    obtain ⟨callee, args', at_⟩ := c
    cases callee with
    | builtin b =>
      cases b <;> first | (simp at h; done) | skip
      all_goals
        simp only [resolve, Sem.run_bind, Sem.run_pure, Result.andThen, invoke, builtin]
        split <;> simp
    | _ => simp at h

/-- ONE VALUE, IN EVERY WORLD OF THE CLASS; the world stays. -/
def Oper.q1 (P : Program) (o : Oper) (a : Act) (C : World → Prop) (next : Act → Prop) : Prop :=
  ∃ v, (∀ w, C w → (execOp a.eval o).run P w = .ok (.value v) w ∨ ((execOp a.eval o).run P w = .ok .skip w ∧ v = undef)) ∧ next (a.put o.dst v)

theorem Oper.q1_of_quiet {o : Oper} {a : Act} {next : Act → Prop} (hq : o.op.quietB = true) (h : o.quiet P a C next) : o.q1 P a C next := by
  obtain ⟨v, h1, h2⟩ := h
  refine ⟨v, fun w hw => ?_, h2⟩
  have h3 := h1 w hw
  have h4 := execOp_not_enter (P := P) (w := w) o a.eval hq
  unfold Oper.quietAt at h3
  generalize (execOp a.eval o).run P w = r at *
  cases r with
  | ok n w' =>
    cases n <;> simp only [Oper.quietUpon] at h3
    case value u => obtain ⟨e1, e2⟩ := h3; subst e1; subst e2; exact .inl rfl
    case skip => obtain ⟨e1, e2⟩ := h3; subst e1; exact .inr ⟨rfl, e2⟩
    case enter f args => exact absurd rfl (h4 f args w')
  | halt x w' => simp only [Oper.quietUpon] at h3

theorem Oper.q1_mono {o : Oper} {a : Act} {K K' : Act → Prop} (h : ∀ a, K a → K' a) (hh : o.q1 P a C K) : o.q1 P a C K' :=
  let ⟨v, h1, h2⟩ := hh
  ⟨v, h1, h _ h2⟩

/-- An operation that may turn the world: it yields (no panic). -/
def Oper.effUpon (P : Program) (o : Oper) (a : Act) (K : Act → World → Prop) : Result Next → Prop
  | .ok (.value v) w' => K (a.put o.dst v) w'
  | .ok .skip w' => K (a.put o.dst undef) w'
  | .ok (.enter f args) w' => Calls P f args w' fun
      | .returned v, w'' => K (a.put o.dst v) w''
      | _, _ => False
  | .ok (.row row args) w' => Rows P row args w' fun v w'' => K (a.put o.dst v) w''
  | _ => False

def Oper.effs (P : Program) (o : Oper) (a : Act) (w : World) (K : Act → World → Prop) : Prop := Oper.effUpon P o a K ((execOp a.eval o).run P w)

theorem Oper.effUpon_mono {o : Oper} {a : Act} {K K' : Act → World → Prop} {r : Result Next} (h : ∀ a w, K a w → K' a w) (hh : Oper.effUpon P o a K r) : Oper.effUpon P o a K' r := by
  cases r with
  | ok n w' =>
    cases n <;> simp only [Oper.effUpon] at hh ⊢ <;> first
      | exact h _ _ hh
      | exact hh.mono fun e w'' he => by cases e <;> first | exact h _ _ he | exact he
      | exact Rows.mono hh (fun _ _ he => h _ _ he)
  | halt x w' => cases x <;> simp only [Oper.effUpon] at hh

/-- What an effect has left: the frame is the old one but for its slot. -/
theorem Oper.effUpon_some {o : Oper} {a : Act} {K : Act → World → Prop} {r : Result Next} (hh : Oper.effUpon P o a K r) : ∃ v w', K (a.put o.dst v) w' := by
  cases r with
  | ok n w' =>
    cases n <;> simp only [Oper.effUpon] at hh
    case value v => exact ⟨v, w', hh⟩
    case skip => exact ⟨undef, w', hh⟩
    case enter f args =>
      obtain ⟨e, w'', fr, hR, _⟩ := hh []
      cases e with
      | returned v => exact ⟨v, w'', hR⟩
      | panicked c => exact hR.elim
      | outgrown => exact hR.elim
    case row row args =>
      obtain ⟨v, w'', hR, _⟩ := hh default []
      exact ⟨v, w'', hR⟩
  | halt x w' => cases x <;> simp only [Oper.effUpon] at hh

theorem Oper.effUpon_put {o : Oper} {a : Act} {d : Option Tmp} {u : Value} {K : Act → World → Prop} {r : Result Next} (hne : ∀ e, d = some e → o.dst ≠ some e)
    (hh : Oper.effUpon P o (a.put d u) K r) : Oper.effUpon P o a (fun a' w' => K (a'.put d u) w') r := by
  cases r with
  | ok n w' =>
    cases n <;> simp only [Oper.effUpon] at hh ⊢
    case value v => rw [← Act.put_comm a u v hne]; exact hh
    case skip => rw [← Act.put_comm a u undef hne]; exact hh
    case enter f args =>
      refine hh.mono fun e w'' he => ?_
      cases e with
      | returned v => simp only at he ⊢; rw [← Act.put_comm a u v hne]; exact he
      | panicked c => exact he
      | outgrown => exact he
    case row row args =>
      refine Rows.mono hh fun v w'' he => ?_
      rw [← Act.put_comm a u v hne]; exact he
  | halt x w' => cases x <;> simp only [Oper.effUpon] at hh


/-- The other way about. -/
theorem Oper.effUpon_put' {o : Oper} {a : Act} {d : Option Tmp} {u : Value} {K : Act → World → Prop} {r : Result Next} (hne : ∀ e, d = some e → o.dst ≠ some e)
    (hh : Oper.effUpon P o a (fun a' w' => K (a'.put d u) w') r) : Oper.effUpon P o (a.put d u) K r := by
  cases r with
  | ok n w' =>
    cases n <;> simp only [Oper.effUpon] at hh ⊢
    case value v => rw [Act.put_comm a u v hne]; exact hh
    case skip => rw [Act.put_comm a u undef hne]; exact hh
    case enter f args =>
      refine hh.mono fun e w'' he => ?_
      cases e with
      | returned v => simp only at he ⊢; rw [Act.put_comm a u v hne]; exact he
      | panicked c => exact he
      | outgrown => exact he
    case row row args =>
      refine Rows.mono hh fun v w'' he => ?_
      rw [Act.put_comm a u v hne]; exact he
  | halt x w' => cases x <;> simp only [Oper.effUpon] at hh

theorem Oper.effUpon_mono' {o : Oper} {a : Act} {K K' : Act → World → Prop} {r : Result Next} (h : ∀ v w, K (a.put o.dst v) w → K' (a.put o.dst v) w) (hh : Oper.effUpon P o a K r) : Oper.effUpon P o a K' r := by
  cases r with
  | ok n w' =>
    cases n <;> simp only [Oper.effUpon] at hh ⊢ <;> first
      | exact h _ _ hh
      | exact hh.mono fun e w'' he => by cases e <;> first | exact h _ _ he | exact he
      | exact Rows.mono hh (fun _ _ he => h _ _ he)
  | halt x w' => cases x <;> simp only [Oper.effUpon] at hh

def Oper.yields (P : Program) (o : Oper) (a : Act) (w : World) (v : Value) : Prop :=
  (execOp a.eval o).run P w = .ok (.value v) w ∨ ((execOp a.eval o).run P w = .ok .skip w ∧ v = undef)

theorem Oper.yields_one {o : Oper} {a : Act} {w : World} {v u : Value} (h : o.yields P a w v) (k : o.yields P a w u) : v = u := by
  unfold Oper.yields at *
  rcases h with h | ⟨h, rfl⟩ <;> rcases k with k | ⟨k, rfl⟩ <;> rw [h] at k <;> simp_all

/-- In state 'a', in every world of the class, 'o' leaves 'v' in its temporary and the world as it is. -/
def YC (P : Program) (ops : Array Oper) (C : World → Prop) (o : Oper) (v : Value) (a : Act) : Prop :=
  (Region.wanted o (yielded ops a.tmps) = true ∧ ∀ w, C w → o.yields P a w v) ∨ (Region.wanted o (yielded ops a.tmps) = false ∧ v = undef)

theorem YC.of_same {o : Oper} {v : Value} {a a' : Act} (hy : YC P ops C o v a) (he : execOp a'.eval o = execOp a.eval o)
    (hw : Region.wanted o (yielded ops a'.tmps) = Region.wanted o (yielded ops a.tmps)) : YC P ops C o v a' := by
  unfold YC Oper.yields at *
  rw [he, hw]
  exact hy

theorem YC.one {o : Oper} {v u : Value} {a : Act} {w : World} (hw : C w) (h : YC P ops C o v a) (k : YC P ops C o u a) : v = u := by
  rcases h with ⟨h1, h2⟩ | ⟨h1, rfl⟩ <;> rcases k with ⟨k1, k2⟩ | ⟨k1, rfl⟩
  · exact Oper.yields_one (h2 w hw) (k2 w hw)
  · rw [h1] at k1; cases k1
  · rw [h1] at k1; cases k1
  · rfl

/-- The class of worlds in which operation 'i' may come up: an early one (all effects wait for it): the first world alone. -/
def clsOf (C : World → Prop) (w1 : World) (E : Nat → Bool) (i : Nat) : World → Prop := fun w => if E i = true then w = w1 else C w

/-- Operation number 'i' comes up in state 'a', world 'w'. -/
def mOp (P : Program) (ops : Array Oper) (C : World → Prop) (w1 : World) (E : Nat → Bool) (i : Nat) (K : Act → World → Prop) (a : Act) (w : World) : Prop :=
  match ops[i]? with
  | none => K a w
  | some o =>
    if o.op.quietB then ∃ v, YC P ops (clsOf C w1 E i) o v a ∧ K (a.put o.dst v) w
    else if Region.wanted o (yielded ops a.tmps) then o.effs P a w (fun a' w' => C w' ∧ K a' w') else K (a.put o.dst undef) w

theorem mOp_mono {i : Nat} {a : Act} {K K' : Act → World → Prop} (h : ∀ a w, K a w → K' a w) (hh : mOp P ops C w1 E i K a w) : mOp P ops C w1 E i K' a w := by
  unfold mOp at *
  split
  · exact h _ _ (by simpa [*] using hh)
  · rename_i o ho
    simp only [ho] at hh
    split
    · rename_i hq; simp only [hq, if_true] at hh; obtain ⟨v, h1, h2⟩ := hh; exact ⟨v, h1, h _ _ h2⟩
    · rename_i hq
      simp only [hq, Bool.false_eq_true, if_false] at hh
      split
      · rename_i hw; simp only [hw, if_true] at hh; exact Oper.effUpon_mono (fun a w hk => ⟨hk.1, h _ _ hk.2⟩) hh
      · rename_i hw; simp only [hw] at hh; exact h _ _ hh

theorem mOp_of_YC {i : Nat} {o : Oper} {v : Value} {a : Act} {K : Act → World → Prop} (hi : ops[i]? = some o) (hy : YC P ops (clsOf C w1 E i) o v a)
    (hq : o.op.quietB = true ∨ Region.wanted o (yielded ops a.tmps) = false) (h : K (a.put o.dst v) w) : mOp P ops C w1 E i K a w := by
  unfold mOp
  simp only [hi]
  split
  · exact ⟨v, hy, h⟩
  · rename_i hnq
    have hnw := hq.resolve_left hnq
    simp only [hnw, Bool.false_eq_true, if_false]
    rcases hy with ⟨h1, _⟩ | ⟨_, rfl⟩
    · rw [h1] at hnw; cases hnw
    · exact h

theorem YC.keep {D : World → Prop} {oi oj : Oper} {v : Value} {a : Act} (hap : oi.apart ops oj = true) (hsi : ∀ cs b, oi.op ≠ .select cs b) (hy : YC P ops D oi v a) (u : Value) : YC P ops D oi v (a.put oj.dst u) := by
  obtain ⟨_, _, h3⟩ := Oper.apart_spec hap
  exact hy.of_same (execOp_put oi hsi a oj.dst u h3) (wanted_put oi a oj.dst u h3)

theorem YC.unput {D : World → Prop} {oi oj : Oper} {v u : Value} {a : Act} (hap : oi.apart ops oj = true) (hsj : ∀ cs b, oj.op ≠ .select cs b) (hy : YC P ops D oj v (a.put oi.dst u)) : YC P ops D oj v a := by
  obtain ⟨h1, _, _⟩ := Oper.apart_spec hap
  exact hy.of_same (execOp_put oj hsj a oi.dst u h1).symm (wanted_put oj a oi.dst u h1).symm

theorem mOp_put {D : World → Prop} {j : Nat} {oi oj : Oper} {v : Value} (hj : ops[j]? = some oj) (hap : oi.apart ops oj = true)
    (hsi : ∀ cs b, oi.op ≠ .select cs b) (hsj : ∀ cs b, oj.op ≠ .select cs b) {K : Act → World → Prop} {a : Act}
    (hy : YC P ops D oi v a) (h : mOp P ops C w1 E j K (a.put oi.dst v) w) :
    mOp P ops C w1 E j (fun a' w' => YC P ops D oi v a' ∧ K (a'.put oi.dst v) w') a w := by
  obtain ⟨h1, h2, h3⟩ := Oper.apart_spec hap
  unfold mOp at *
  simp only [hj] at *
  split
  · rename_i hq
    simp only [hq, if_true] at h
    obtain ⟨u, hu, hn⟩ := h
    exact ⟨u, YC.unput hap hsj hu, YC.keep hap hsi hy u, by rw [← Act.put_comm a v u h2]; exact hn⟩
  · rename_i hq
    simp only [hq, Bool.false_eq_true, if_false] at h
    rw [wanted_put oj a oi.dst v h1] at h
    split
    · rename_i hw
      simp only [hw, if_true] at h
      unfold Oper.effs at *
      rw [execOp_put oj hsj a oi.dst v h1] at h
      exact Oper.effUpon_mono' (fun u w' hk => ⟨hk.1, YC.keep hap hsi hy u, hk.2⟩) (Oper.effUpon_put h2 h)
    · rename_i hw
      simp only [hw] at h
      exact ⟨YC.keep hap hsi hy _, by rw [← Act.put_comm a v undef h2]; exact h⟩

/-- Whatever order is picked, as long as the head lasts. -/
def wpAnyMx (P : Program) (ops : Array Oper) (C : World → Prop) (w1 : World) (E : Nat → Bool) (n : Nat) (L : Array Bool → Act → World → Prop) : Nat → Array Bool → Act → World → Prop
  | 0, listed, a, w => L listed a w
  | f + 1, listed, a, w =>
    Region.ready .any ops listed ≠ [] ∧ ∀ i ∈ Region.ready .any ops listed, i < n ∧ mOp P ops C w1 E i (wpAnyMx P ops C w1 E n L f (listed.setIfInBounds i true)) a w

theorem Oper.yields_wp {o : Oper} {a : Act} {v : Value} {K : Act → World → Prop} {Q' : Exit → Act → World → Prop} (hh : o.yields P a w v) (h : K (a.put o.dst v) w) : o.wp P a w K Q' := by
  unfold Oper.yields at hh
  unfold Oper.wp
  rcases hh with hh | ⟨hh, rfl⟩ <;> rw [hh] <;> simpa [Oper.upon] using h

theorem Oper.effs_wp {o : Oper} {a : Act} {K K' : Act → World → Prop} {Q' : Exit → Act → World → Prop} (h : ∀ a w, K a w → K' a w) (hh : o.effs P a w K) : o.wp P a w K' Q' := by
  unfold Oper.effs at hh
  unfold Oper.wp
  generalize (execOp a.eval o).run P w = r at *
  cases r with
  | ok n w' =>
    cases n <;> simp only [Oper.effUpon] at hh <;> simp only [Oper.upon]
    case value v => exact h _ _ hh
    case skip => exact h _ _ hh
    case enter f args => exact hh.mono fun e w'' he => by cases e <;> first | exact h _ _ he | exact he.elim
    case row row args => exact Rows.mono hh (fun _ _ he => h _ _ he)
  | halt x w' => cases x <;> simp only [Oper.effUpon] at hh

theorem wpOp_of_mOp {i : Nat} {a : Act} {K K' : Act → World → Prop} {Q' : Exit → Act → World → Prop} (hcls : ∀ o, ops[i]? = some o → o.op.quietB = true → clsOf C w1 E i w)
    (h : (∀ o, ops[i]? = some o → o.op.quietB = false → Region.wanted o (yielded ops a.tmps) = false ∨ True) → ∀ a, K a w → K' a w) (he : ∀ o, ops[i]? = some o → o.op.quietB = false → ∀ a w', C w' → K a w' → K' a w') (hh : mOp P ops C w1 E i K a w) : wpOp P ops Q' i K' a w := by
  have h := h (fun _ _ _ => .inr trivial)
  unfold mOp at hh
  unfold wpOp
  split
  · rename_i ho; simp only [ho] at hh; exact h _ hh
  · rename_i o ho
    simp only [ho] at hh
    by_cases hq : o.op.quietB = true
    · simp only [hq, if_true] at hh
      obtain ⟨v, hy, hk⟩ := hh
      rcases hy with ⟨hw, hv⟩ | ⟨hw, rfl⟩
      · simp only [hw, if_true]; exact .inl (Oper.yields_wp (hv w (hcls o ho hq)) (h _ hk))
      · simp only [hw, Bool.false_eq_true, if_false]; exact h _ hk
    · simp only [hq, Bool.false_eq_true, if_false] at hh
      split
      · rename_i hw; simp only [hw, if_true] at hh; exact .inl (Oper.effs_wp (fun a w' hk => he o ho (by simpa using hq) _ _ hk.1 hk.2) hh)
      · rename_i hw; simp only [hw] at hh; exact h _ hh

/-! ### Who waits for whom -/

def Region.ancOk (ops : Array Oper) (T : Array Nat) : Bool :=
  (List.range ops.size).all fun k => (List.range ops.size).all fun i => !(T.getD k 0).testBit i || match ops[k]? with
    | some o => o.after.any fun e => Region.binds .any e && (e.on == i || (decide (e.on < k) && (T.getD e.on 0).testBit i))
    | none => false

theorem anc_listed {T : Array Nat} {n : Nat} {listed : Array Bool} (hT : Region.ancOk ops T = true) (inv : HeadInv .any ops n listed) :
    ∀ (k i : Nat) (ok : Oper), ops[k]? = some ok → (∀ e ∈ ok.after, Region.binds .any e = true → listed.getD e.on false = true) → i < ops.size → (T.getD k 0).testBit i = true → listed.getD i false = true := by
  intro k
  induction k using Nat.strongRecOn with
  | _ k ih =>
    intro i ok hk hall hi hbit
    have hks : k < ops.size := (Array.getElem?_eq_some_iff.1 hk).1
    have h1 := List.all_eq_true.1 (List.all_eq_true.1 hT k (List.mem_range.2 hks)) i (List.mem_range.2 hi)
    simp only [hbit, Bool.not_true, Bool.false_or, hk] at h1
    obtain ⟨e, he, h2⟩ := Array.any_eq_true'.1 h1
    simp only [Bool.and_eq_true, Bool.or_eq_true, beq_iff_eq, decide_eq_true_eq] at h2
    obtain ⟨hb, h2⟩ := h2
    have hl := hall e he hb
    rcases h2 with h2 | ⟨h2, h3⟩
    · rw [← h2]; exact hl
    · have hes : e.on < ops.size := by omega
      obtain ⟨oe, hoe⟩ : ∃ oe, ops[e.on]? = some oe := ⟨ops[e.on], Array.getElem?_eq_getElem hes⟩
      exact ih e.on h2 i oe hoe (inv.closed e.on oe hoe hl) hi h3

theorem ready_no {T : Array Nat} {n : Nat} {listed : Array Bool} (hT : Region.ancOk ops T = true) (inv : HeadInv .any ops n listed) {k i : Nat} (hi : i < ops.size)
    (hbit : (T.getD k 0).testBit i = true) (hun : listed.getD i true = false) : k ∉ Region.ready .any ops listed := by
  intro hk
  obtain ⟨_, ok, hok, hall⟩ := mem_ready.1 hk
  have := anc_listed hT inv k i ok hok hall hi hbit
  rw [getD_both hun] at this
  cases this

/-- The head: 'n' operations; the tail waits for all; the effects of the head one behind the other. -/
def Region.mixT (ops : Array Oper) (T : Array Nat) (n : Nat) : Bool :=
  (List.range ops.size).all fun t =>
    if n ≤ t then (List.range t).all fun k => (T.getD t 0).testBit k
    else match ops[t]? with
      | some ot => ot.op.quietB || (List.range t).all fun k => match ops[k]? with
        | some ok => ok.op.quietB || (T.getD t 0).testBit k
        | none => true
      | none => true

theorem mixT_tail {T : Array Nat} {n t k : Nat} (h : Region.mixT ops T n = true) (ht : t < ops.size) (hn : n ≤ t) (hk : k < t) : (T.getD t 0).testBit k = true := by
  have h1 := List.all_eq_true.1 h t (List.mem_range.2 ht)
  simp only [hn, if_true] at h1
  exact List.all_eq_true.1 h1 k (List.mem_range.2 hk)
theorem mixT_eff {T : Array Nat} {n t k : Nat} {ot ok : Oper} (h : Region.mixT ops T n = true) (hn : t < n) (hot : ops[t]? = some ot) (hok : ops[k]? = some ok) (hk : k < t)
    (e1 : ot.op.quietB = false) (e2 : ok.op.quietB = false) : (T.getD t 0).testBit k = true := by
  have ht : t < ops.size := (Array.getElem?_eq_some_iff.1 hot).1
  have h1 := List.all_eq_true.1 h t (List.mem_range.2 ht)
  rw [if_neg (by omega)] at h1
  simp only [hot, e1, Bool.false_or] at h1
  have h2 := List.all_eq_true.1 h1 k (List.mem_range.2 hk)
  simpa only [hok, e2, Bool.false_or] using h2


/-- What is asked of the early ones. -/
def EarlyOk (ops : Array Oper) (T : Array Nat) (n : Nat) (E : Nat → Bool) : Prop :=
  ∀ j, E j = true → j < n ∧ j < ops.size ∧ (∀ o, ops[j]? = some o → o.op.quietB = true) ∧ ∀ e oe, ops[e]? = some oe → e < n → oe.op.quietB = false → (T.getD e 0).testBit j = true

theorem wpAny_of_mx {T : Array Nat} {n g : Nat} {L : Array Bool → Act → World → Prop} {Q' : Exit → Act → World → Prop} (hT : Region.ancOk ops T = true) (hE : EarlyOk ops T n E)
    (hL : ∀ listed a w, L listed a w → wpAny P .any ops Q' g listed a w) :
    ∀ (f : Nat) (listed : Array Bool) (a : Act) (w : World), HeadInv .any ops n listed → C w → (w = w1 ∨ ∀ j, E j = true → listed.getD j true = true) → wpAnyMx P ops C w1 E n L f listed a w → wpAny P .any ops Q' (f + g) listed a w
  | 0, listed, a, w, _, _, _, h => by rw [Nat.zero_add]; exact hL _ _ _ h
  | f + 1, listed, a, w, inv, hC, hW, h => by
    rw [show f + 1 + g = (f + g) + 1 by omega]
    refine ⟨fun h0 => absurd h0 h.1, fun i hi => ?_⟩
    obtain ⟨hin, hop⟩ := h.2 i hi
    have hset : ∀ j, listed.getD j true = true → (listed.setIfInBounds i true).getD j true = true := fun j hj => by
      by_cases hij : i = j
      · subst hij
        rcases Nat.lt_or_ge i listed.size with h' | h'
        · simp [h']
        · simp [h']
      · rw [getD_set_ne true hij]; exact hj
    refine wpOp_of_mOp (fun o ho hq => ?_) (fun _ a' h' => ?_) (fun o ho hq a' w' hC' h' => ?_) hop
    · unfold clsOf
      split
      · rename_i hEi
        rcases hW with h1 | h1
        · exact h1
        · have := h1 i hEi
          rw [(mem_ready.1 hi).1] at this
          cases this
      · exact hC
    · exact wpAny_of_mx hT hE hL f _ a' w (inv.set hi hin) hC (hW.imp_right fun h1 j hj => hset j (h1 j hj)) h'
    · refine wpAny_of_mx hT hE hL f _ a' w' (inv.set hi hin) hC' (.inr fun j hj => hset j ?_) h'
      obtain ⟨_, hjs, _, hbit⟩ := hE j hj
      obtain ⟨_, oi, hoi, hall⟩ := mem_ready.1 hi
      have hl := anc_listed hT inv i j oi hoi hall hjs (hbit i o ho hin hq)
      have hjl : j < listed.size := by rw [inv.size]; exact hjs
      simp [hjl] at hl ⊢
      exact hl

theorem wpAnyMx_first {T : Array Nat} {n i : Nat} {oi : Oper} {v : Value} {L : Array Bool → Act → World → Prop} (hi : ops[i]? = some oi) (hsel : ∀ (j : Nat) (o : Oper) cs b, ops[j]? = some o → o.op ≠ .select cs b)
    (hT : Region.ancOk ops T = true) (hm : Region.mixT ops T n = true) (hin : i < n)
    (hdone : ∀ listed a w, L listed a w → ∀ j ∈ Region.ready .any ops listed, n ≤ j) :
    ∀ (f : Nat) (listed : Array Bool) (a : Act) (w : World), HeadInv .any ops n listed →
      (∀ j oj, ops[j]? = some oj → j ≠ i → listed.getD j true = false → (∀ e ∈ oj.after, Region.binds .any e = true → e.on ≠ i) → oi.apart ops oj = true) →
      i ∈ Region.ready .any ops listed → YC P ops (clsOf C w1 E i) oi v a → (oi.op.quietB = true ∨ Region.wanted oi (yielded ops a.tmps) = false) →
      wpAnyMx P ops C w1 E n L f (listed.setIfInBounds i true) (a.put oi.dst v) w → wpAnyMx P ops C w1 E n L (f + 1) listed a w := by
  have his : i < ops.size := (Array.getElem?_eq_some_iff.1 hi).1
  have headOf : ∀ (listed : Array Bool), HeadInv .any ops n listed → listed.getD i true = false → ∀ j ∈ Region.ready .any ops listed, j < n := by
    intro listed inv hun j hj
    rcases Nat.lt_or_ge j n with h | h
    · exact h
    · have hjs : j < ops.size := (Array.getElem?_eq_some_iff.1 (mem_ready.1 hj).2.choose_spec.1).1
      exact absurd hj (ready_no hT inv his (mixT_tail hm hjs h (by omega)) hun)
  intro f
  induction f with
  | zero =>
    intro listed a w inv _ hr hy hq H
    have hun := (mem_ready.1 hr).1
    refine ⟨fun h => (by rw [h] at hr; cases hr), fun j hj => ?_⟩
    have hjn := headOf listed inv hun j hj
    refine ⟨hjn, ?_⟩
    by_cases hji : j = i
    · subst hji; exact mOp_of_YC hi hy hq H
    · have := hdone _ _ _ H j (ready_mono hj hji)
      omega
  | succ f ih =>
    intro listed a w inv hfree hr hy hq H
    have hun := (mem_ready.1 hr).1
    refine ⟨fun h => (by rw [h] at hr; cases hr), fun j hj => ?_⟩
    have hjn := headOf listed inv hun j hj
    refine ⟨hjn, ?_⟩
    by_cases hji : j = i
    · subst hji; exact mOp_of_YC hi hy hq H
    · have h1 := (H.2 j (ready_mono hj hji)).2
      obtain ⟨hjun, oj, hoj, hall⟩ := mem_ready.1 hj
      have hnot : ∀ e ∈ oj.after, Region.binds .any e = true → e.on ≠ i := fun e he hb heq => by
        have h1 := hall e he hb
        rw [heq, getD_both hun] at h1
        cases h1
      have hap := hfree j oj hoj hji hjun hnot
      have h2 := mOp_put hoj hap (fun cs b => hsel i oi cs b hi) (fun cs b => hsel j oj cs b hoj) hy h1
      have hfree' : ∀ k ok, ops[k]? = some ok → k ≠ i → (listed.setIfInBounds j true).getD k true = false →
          (∀ e ∈ ok.after, Region.binds .any e = true → e.on ≠ i) → oi.apart ops ok = true := fun k ok hk hki hun hno => by
        refine hfree k ok hk hki ?_ hno
        by_cases hjk : j = k
        · subst hjk; exact hjun
        · rw [getD_set_ne true hjk] at hun; exact hun
      have hqk : ∀ a', YC P ops (clsOf C w1 E i) oi v a' → oi.op.quietB = true ∨ Region.wanted oi (yielded ops a.tmps) = false → (Region.wanted oi (yielded ops a'.tmps) = Region.wanted oi (yielded ops a.tmps)) → (oi.op.quietB = true ∨ Region.wanted oi (yielded ops a'.tmps) = false) := fun a' _ h0 he => by rw [he]; exact h0
      -- the guard of 'oi' reads the same in every state that 'j' leaves
      have h2' : mOp P ops C w1 E j (fun a' w' => (YC P ops (clsOf C w1 E i) oi v a' ∧ wpAnyMx P ops C w1 E n L f ((listed.setIfInBounds i true).setIfInBounds j true) (a'.put oi.dst v) w') ∧ Region.wanted oi (yielded ops a'.tmps) = Region.wanted oi (yielded ops a.tmps)) a w := by
        obtain ⟨g1, g2, g3⟩ := Oper.apart_spec hap
        unfold mOp at h2 ⊢
        simp only [hoj] at h2 ⊢
        split
        · rename_i hqq
          simp only [hqq, if_true] at h2
          obtain ⟨u, hu, hn⟩ := h2
          exact ⟨u, hu, hn, wanted_put oi a oj.dst u g3⟩
        · rename_i hqq
          simp only [hqq, Bool.false_eq_true, if_false] at h2
          split
          · rename_i hw
            simp only [hw, if_true] at h2
            exact Oper.effUpon_mono' (fun u w' hk => ⟨hk.1, hk.2, wanted_put oi a oj.dst u g3⟩) h2
          · rename_i hw
            simp only [hw] at h2
            exact ⟨h2, wanted_put oi a oj.dst undef g3⟩
      refine mOp_mono (fun a' w' h3 => ih (listed.setIfInBounds j true) a' w' (inv.set hj hjn) hfree' (ready_mono hr (Ne.symm hji)) h3.1.1 (hqk a' h3.1.1 hq h3.2) ?_) h2'
      rw [Array.setIfInBounds_comm _ _ hji]
      exact h3.1.2

theorem wpAnyMx_eff {T : Array Nat} {n i : Nat} {oi : Oper} {L : Array Bool → Act → World → Prop} (hi : ops[i]? = some oi) (hsel : ∀ (j : Nat) (o : Oper) cs b, ops[j]? = some o → o.op ≠ .select cs b)
    (hT : Region.ancOk ops T = true) (hm : Region.mixT ops T n = true) (hin : i < n) (hq : oi.op.quietB = false) (hE : EarlyOk ops T n E)
    (hdone : ∀ listed a w, L listed a w → ∀ j ∈ Region.ready .any ops listed, n ≤ j) :
    ∀ (f : Nat) (listed : Array Bool) (a : Act) (w : World), HeadInv .any ops n listed →
      (∀ j, j < i → listed.getD j true = true) →
      (∀ j oj, ops[j]? = some oj → j ≠ i → listed.getD j true = false → (∀ e ∈ oj.after, Region.binds .any e = true → e.on ≠ i) → oi.apart ops oj = true) →
      i ∈ Region.ready .any ops listed → Region.wanted oi (yielded ops a.tmps) = true →
      oi.effs P a w (fun a' w' => C w' ∧ wpAnyMx P ops C w1 E n L f (listed.setIfInBounds i true) a' w') → wpAnyMx P ops C w1 E n L (f + 1) listed a w := by
  have his : i < ops.size := (Array.getElem?_eq_some_iff.1 hi).1
  have headOf : ∀ (listed : Array Bool), HeadInv .any ops n listed → listed.getD i true = false → ∀ j ∈ Region.ready .any ops listed, j < n := by
    intro listed inv hun j hj
    rcases Nat.lt_or_ge j n with h | h
    · exact h
    · have hjs : j < ops.size := (Array.getElem?_eq_some_iff.1 (mem_ready.1 hj).2.choose_spec.1).1
      exact absurd hj (ready_no hT inv his (mixT_tail hm hjs h (by omega)) hun)
  have own : ∀ (f : Nat) (listed : Array Bool) (a : Act) (w : World), Region.wanted oi (yielded ops a.tmps) = true →
      oi.effs P a w (fun a' w' => C w' ∧ wpAnyMx P ops C w1 E n L f (listed.setIfInBounds i true) a' w') → mOp P ops C w1 E i (wpAnyMx P ops C w1 E n L f (listed.setIfInBounds i true)) a w := by
    intro f listed a w hw H
    unfold mOp
    simp only [hi, hq, hw, if_true, Bool.false_eq_true, if_false]
    exact H
  intro f
  induction f with
  | zero =>
    intro listed a w inv hbef _ hr hw H
    have hun := (mem_ready.1 hr).1
    refine ⟨fun h => (by rw [h] at hr; cases hr), fun j hj => ?_⟩
    have hjn := headOf listed inv hun j hj
    refine ⟨hjn, ?_⟩
    by_cases hji : j = i
    · subst hji; exact own 0 listed a w hw H
    · obtain ⟨u, w', _, hL⟩ := Oper.effUpon_some H
      have := hdone _ _ _ hL j (ready_mono hj hji)
      omega
  | succ f ih =>
    intro listed a w inv hbef hfree hr hw H
    have hun := (mem_ready.1 hr).1
    refine ⟨fun h => (by rw [h] at hr; cases hr), fun j hj => ?_⟩
    have hjn := headOf listed inv hun j hj
    refine ⟨hjn, ?_⟩
    by_cases hji : j = i
    · subst hji; exact own (f + 1) listed a w hw H
    · obtain ⟨hjun, oj, hoj, hall⟩ := mem_ready.1 hj
      have hjgt : i < j := by
        rcases Nat.lt_or_ge i j with h | h
        · exact h
        · have := hbef j (by omega)
          rw [hjun] at this
          cases this
      have hjq : oj.op.quietB = true := by
        cases hjq : oj.op.quietB with
        | true => rfl
        | false => exact absurd hj (ready_no hT inv his (mixT_eff hm hjn hoj hi hjgt hjq hq) hun)
      have hEj : E j = false := by
        cases hEj : E j with
        | false => rfl
        | true =>
          obtain ⟨_, hjs, _, hbit⟩ := hE j hEj
          obtain ⟨_, oi', hoi', hall'⟩ := mem_ready.1 hr
          have hl := anc_listed hT inv i j oi' hoi' hall' hjs (hbit i oi hi hin hq)
          rw [getD_both hjun] at hl
          cases hl
      have hcls : clsOf C w1 E j = C := by funext w; simp [clsOf, hEj]
      have hnot : ∀ e ∈ oj.after, Region.binds .any e = true → e.on ≠ i := fun e he hb heq => by
        have h1 := hall e he hb
        rw [heq, getD_both hun] at h1
        cases h1
      have hap := hfree j oj hoj hji hjun hnot
      obtain ⟨g1, g2, g3⟩ := Oper.apart_spec hap
      have hsj := fun cs b => hsel j oj cs b hoj
      have hsi := fun cs b => hsel i oi cs b hi
      -- what 'j' does, learnt behind one outcome of 'i'
      obtain ⟨u0, w0, hC0, h0⟩ := Oper.effUpon_some H
      have hm0 := (h0.2 j (ready_mono hj hji)).2
      unfold mOp at hm0
      simp only [hoj, hjq, if_true] at hm0
      obtain ⟨v, hv0, _⟩ := hm0
      have hv : YC P ops (clsOf C w1 E j) oj v a := YC.unput hap hsj hv0
      refine mOp_of_YC hoj hv (.inl hjq) ?_
      have hfree' : ∀ k ok, ops[k]? = some ok → k ≠ i → (listed.setIfInBounds j true).getD k true = false →
          (∀ e ∈ ok.after, Region.binds .any e = true → e.on ≠ i) → oi.apart ops ok = true := fun k ok hk hki hun hno => by
        refine hfree k ok hk hki ?_ hno
        by_cases hjk : j = k
        · subst hjk; exact hjun
        · rw [getD_set_ne true hjk] at hun; exact hun
      have hbef' : ∀ k, k < i → (listed.setIfInBounds j true).getD k true = true := fun k hk => by
        rw [getD_set_ne true (by omega)]; exact hbef k hk
      refine ih (listed.setIfInBounds j true) (a.put oj.dst v) w (inv.set hj hjn) hbef' hfree' (ready_mono hr (Ne.symm hji)) (by rw [wanted_put oi a oj.dst v g3]; exact hw) ?_
      unfold Oper.effs at H ⊢
      rw [execOp_put oi hsi a oj.dst v g3]
      refine Oper.effUpon_put' (fun e he heq => g2 e heq he) (Oper.effUpon_mono' (fun u w' hk => ⟨hk.1, ?_⟩) H)
      have hmj := (hk.2.2 j (ready_mono hj hji)).2
      unfold mOp at hmj
      simp only [hoj, hjq, if_true] at hmj
      obtain ⟨v', hv', hk'⟩ := hmj
      have hvv : v' = v := YC.one (C := clsOf C w1 E j) (by rw [hcls]; exact hk.1) (YC.unput hap hsj hv') hv
      subst hvv
      rw [Array.setIfInBounds_comm _ _ hji]
      exact hk'

/-- THE LEXICAL WALK of the head. -/
def wpMix (P : Program) (ops : Array Oper) (C : World → Prop) (w1 : World) (E : Nat → Bool) (Q : Act → World → Prop) : Nat → List Oper → Act → World → Prop
  | _, [], a, w => Q a w
  | k, o :: rest, a, w =>
    if Region.wanted o (yielded ops a.tmps) then
      (if o.op.quietB then o.q1 P a (clsOf C w1 E k) (fun a' => wpMix P ops C w1 E Q (k + 1) rest a' w) else o.effs P a w (fun a' w' => C w' ∧ wpMix P ops C w1 E Q (k + 1) rest a' w'))
    else wpMix P ops C w1 E Q (k + 1) rest (a.put o.dst undef) w

theorem wpAnyMx_lex {T : Array Nat} {n g : Nat} {Lq : Act → World → Prop} (hsel : Region.noSelect ops = true) (hT : Region.ancOk ops T = true) (hm : Region.mixT ops T n = true) (hE : EarlyOk ops T n E) :
    ∀ (l : List Oper) (k : Nat) (listed : Array Bool) (a : Act) (w : World), (∀ j, j < l.length → l[j]? = ops[k + j]?) → k + l.length = n → HeadInv .any ops n listed → (∀ j, j < k → listed.getD j true = true) →
    Region.lexHead .any ops g l.length k listed = true → wpMix P ops C w1 E Lq k l a w →
    wpAnyMx P ops C w1 E n (fun listed' a' w' => Region.seqB .any ops g n listed' = true ∧ Lq a' w') l.length listed a w
  | [], k, listed, a, w, _, hk, _, _, hB, h => by
    have : k = n := by simpa using hk
    subst this
    exact ⟨by simpa [Region.lexHead] using hB, h⟩
  | o :: l, k, listed, a, w, hl, hk, inv, hbef, hB, h => by
    have h0 : ops[k]? = some o := by simpa using (hl 0 (by simp)).symm
    simp only [List.length_cons, Region.lexHead, Bool.and_eq_true] at hB
    obtain ⟨⟨hr, hf⟩, hB'⟩ := hB
    have hkn : k < n := by simp only [List.length_cons] at hk; omega
    have hr' : k ∈ Region.ready .any ops listed := by simpa using hr
    have hks : k < listed.size := by rw [inv.size]; exact (Array.getElem?_eq_some_iff.1 h0).1
    have hbef' : ∀ j, j < k + 1 → (listed.setIfInBounds k true).getD j true = true := fun j hj => by
      by_cases hjk : k = j
      · subst hjk; simp [hks]
      · rw [getD_set_ne true hjk]; exact hbef j (by omega)
    have next := fun (a' : Act) (w' : World) (hh : wpMix P ops C w1 E Lq (k + 1) l a' w') => wpAnyMx_lex (g := g) hsel hT hm hE l (k + 1) (listed.setIfInBounds k true) a' w' (fun j hj => by have := hl (j + 1) (by simp; omega); simpa [Nat.add_assoc, Nat.add_comm 1 j] using this)
      (by simp only [List.length_cons] at hk; omega) (inv.set hr' hkn) hbef' hB' hh
    have hd : ∀ listed a w, (Region.seqB .any ops g n listed = true ∧ Lq a w) → ∀ j ∈ Region.ready .any ops listed, n ≤ j := fun listed' a' w' hL => seqB_ready hL.1
    unfold wpMix at h
    by_cases hw : Region.wanted o (yielded ops a.tmps) = true
    · simp only [hw, if_true] at h
      by_cases hq : o.op.quietB = true
      · simp only [hq, if_true] at h
        obtain ⟨v, h1, h2⟩ := h
        exact wpAnyMx_first h0 (Region.noSelect_spec hsel) hT hm hkn hd l.length listed a w inv (Region.free_spec h0 hf) hr' (.inl ⟨hw, h1⟩) (.inl hq) (next _ _ h2)
      · simp only [hq, Bool.false_eq_true, if_false] at h
        exact wpAnyMx_eff h0 (Region.noSelect_spec hsel) hT hm hkn (by simpa using hq) hE hd l.length listed a w inv hbef (Region.free_spec h0 hf) hr' hw
          (Oper.effUpon_mono (fun a' w' hk => ⟨hk.1, next _ _ hk.2⟩) h)
    · simp only [hw] at h
      exact wpAnyMx_first h0 (Region.noSelect_spec hsel) hT hm hkn hd l.length listed a w inv (Region.free_spec h0 hf) hr' (.inr ⟨by simpa using hw, rfl⟩) (.inr (by simpa using hw)) (next _ _ h)

/-- The early ones: all effects of the head wait for them. -/
def Region.early (ops : Array Oper) (T : Array Nat) (n : Nat) (j : Nat) : Bool :=
  decide (j < n) && (match ops[j]? with | some o => o.op.quietB | none => false) && (List.range n).all fun e => match ops[e]? with
    | some oe => oe.op.quietB || (T.getD e 0).testBit j
    | none => true

theorem early_ok (ops : Array Oper) (T : Array Nat) (n : Nat) : EarlyOk ops T n (Region.early ops T n) := by
  intro j hj
  simp only [Region.early, Bool.and_eq_true, decide_eq_true_eq] at hj
  obtain ⟨⟨h1, h2⟩, h3⟩ := hj
  cases ho : ops[j]? with
  | none => simp [ho] at h2
  | some o =>
    simp only [ho] at h2
    refine ⟨h1, (Array.getElem?_eq_some_iff.1 ho).1, fun o' ho' => by cases ho'; exact h2, fun e oe hoe hen hq => ?_⟩
    have h4 := List.all_eq_true.1 h3 e (List.mem_range.2 hen)
    simpa only [hoe, hq, Bool.false_or] using h4

/-- All that is asked of the region's text, by the kernel. -/
def Region.mixB (ops : Array Oper) (n : Nat) : Bool :=
  Region.noSelect ops && decide (n ≤ ops.size) && Region.ancOk ops (Region.before ops) && Region.mixT ops (Region.before ops) n && Region.lexHead .any ops (ops.size - n) n 0 (Array.replicate ops.size false)

/-- **A REGION THAT DRAWS ITS ORDER, WALKED ONCE, IN THE ORDER OF ITS TEXT**: reads anywhere, effects one behind the other; the last ones, that wait for all, as a plain list. -/
theorem wp_region_mix {id : Nat} {Q : Exit → Act → World → Prop} {a : Act} {w : World} {l : List Oper} (C : World → Prop) (n : Nat) (hm : P.follows .mixedOrders = true) (hB : Region.mixB l.toArray n = true)
    (hC : C w.drew)
    (h : wpMix P l.toArray C w.drew (Region.early l.toArray (Region.before l.toArray) n) (fun a' w' => wpList P l.toArray Q (l.drop n) a' w') 0 (l.take n) a w.drew) : (Code.region id l.toArray true).wp P Q a w := by
  simp only [Region.mixB, Bool.and_eq_true, decide_eq_true_eq] at hB
  obtain ⟨⟨⟨⟨hsel, hn⟩, hT⟩, hmt⟩, hlex⟩ := hB
  have hn' : n ≤ l.length := by simpa using hn
  have htl : (l.take n).length = n := by simp; omega
  have hdl : (l.drop n).length = l.toArray.size - n := by simp
  have hE := early_ok l.toArray (Region.before l.toArray) n
  have inv0 : HeadInv .any l.toArray n (Array.replicate l.toArray.size false) :=
    ⟨by simp, fun j oj _ hl => (by rw [getD_replicate_false] at hl; cases hl), fun t _ ht => getD_in (by simpa using ht) (getD_replicate_false _ _)⟩
  have H := wpAnyMx_lex (g := l.toArray.size - n) hsel hT hmt hE (l.take n) 0 _ a _ (fun j hj => by
    have hj' : j < n := by rw [htl] at hj; exact hj
    simp [hj']) (by simpa using htl) inv0 (fun j hj => by omega) (by rw [htl]; exact hlex) h
  refine wp_region_any hm ?_
  have := wpAny_of_mx (Q' := Q) (g := l.toArray.size - n) hT hE (fun listed a' w' hL => by
    have := wpAny_of_seq (md := .any) (Q' := Q) (l.drop n) n listed a' w' (fun j => by simp [List.getElem?_drop]) (by rw [hdl]; exact hL.1) hL.2
    rwa [hdl] at this) _ _ _ _ inv0 hC (.inl rfl) H
  rw [htl, show n + (l.toArray.size - n) = l.toArray.size by omega] at this
  exact this

/-! ### How it is walked -/
section
variable {w1 : World} {E : Nat → Bool} {Q : Act → World → Prop}

theorem wpMix_nil {k : Nat} {a : Act} (h : Q a w) : wpMix P ops C w1 E Q k [] a w := h

/-- A piece of quiet operations, each told in every world of the class. -/
theorem wpMix_late (hC : C w1) : ∀ (l1 : List Oper) (k : Nat) (a : Act) (rest : List Oper), (l1.all fun o => o.op.quietB) = true → wpQuiet P ops C (fun a' => wpMix P ops C w1 E Q (k + l1.length) rest a' w) l1 a → wpMix P ops C w1 E Q k (l1 ++ rest) a w
  | [], k, a, rest, _, h => h
  | o :: l1, k, a, rest, hq, h => by
    simp only [List.all_cons, Bool.and_eq_true] at hq
    unfold wpQuiet at h
    simp only [List.cons_append]
    unfold wpMix
    split
    · rename_i hw
      simp only [hw, if_true] at h
      simp only [hq.1, if_true]
      obtain ⟨v, h1, h2⟩ := Oper.q1_of_quiet hq.1 h
      refine ⟨v, fun w hw => h1 w ?_, wpMix_late hC l1 (k + 1) _ rest hq.2 ?_⟩
      · unfold clsOf at hw
        split at hw
        · rw [hw]; exact hC
        · exact hw
      · simpa [Nat.add_assoc, Nat.add_comm 1] using h2
    · rename_i hw
      simp only [hw] at h
      refine wpMix_late hC l1 (k + 1) _ rest hq.2 ?_
      simpa [Nat.add_assoc, Nat.add_comm 1] using h

/-- A piece of early ones: each told in the first world alone. -/
theorem wpMix_early : ∀ (l1 : List Oper) (k : Nat) (a : Act) (rest : List Oper), (l1.all fun o => o.op.quietB) = true → ((List.range l1.length).all fun j => E (k + j)) = true →
    wpQuiet P ops (fun w' => w' = w1) (fun a' => wpMix P ops C w1 E Q (k + l1.length) rest a' w) l1 a → wpMix P ops C w1 E Q k (l1 ++ rest) a w
  | [], k, a, rest, _, _, h => h
  | o :: l1, k, a, rest, hq, he, h => by
    simp only [List.all_cons, Bool.and_eq_true] at hq
    have he0 : E k = true := by
      have := List.all_eq_true.1 he 0 (List.mem_range.2 (by simp))
      simpa using this
    have he' : ((List.range l1.length).all fun j => E (k + 1 + j)) = true := List.all_eq_true.2 fun j hj => by
      have := List.all_eq_true.1 he (j + 1) (List.mem_range.2 (by simpa using List.mem_range.1 hj))
      simpa [Nat.add_assoc, Nat.add_comm 1] using this
    unfold wpQuiet at h
    simp only [List.cons_append]
    unfold wpMix
    split
    · rename_i hw
      simp only [hw, if_true] at h
      simp only [hq.1, if_true]
      obtain ⟨v, h1, h2⟩ := Oper.q1_of_quiet hq.1 h
      refine ⟨v, fun w hw => h1 w ?_, wpMix_early l1 (k + 1) _ rest hq.2 he' ?_⟩
      · unfold clsOf at hw
        rwa [if_pos he0] at hw
      · simpa [Nat.add_assoc, Nat.add_comm 1] using h2
    · rename_i hw
      simp only [hw] at h
      refine wpMix_early l1 (k + 1) _ rest hq.2 he' ?_
      simpa [Nat.add_assoc, Nat.add_comm 1] using h

theorem wpMix_lateN {l : List Oper} {k : Nat} {a : Act} (m : Nat) (hC : C w1) (hq : ((l.take m).all fun o => o.op.quietB) = true)
    (h : wpQuiet P ops C (fun a' => wpMix P ops C w1 E Q (k + (l.take m).length) (l.drop m) a' w) (l.take m) a) : wpMix P ops C w1 E Q k l a w := by
  have := wpMix_late (w := w) hC (l.take m) k a (l.drop m) hq h
  rwa [List.take_append_drop] at this

theorem wpMix_earlyN {l : List Oper} {k : Nat} {a : Act} (m : Nat) (hq : ((l.take m).all fun o => o.op.quietB) = true) (he : ((List.range (l.take m).length).all fun j => E (k + j)) = true)
    (h : wpQuiet P ops (fun w' => w' = w1) (fun a' => wpMix P ops C w1 E Q (k + (l.take m).length) (l.drop m) a' w) (l.take m) a) : wpMix P ops C w1 E Q k l a w := by
  have := wpMix_early (w := w) (l.take m) k a (l.drop m) hq he h
  rwa [List.take_append_drop] at this

/-- An effect: as the head of a plain list. -/
theorem wpMix_eff {k : Nat} {a : Act} {o : Oper} {rest : List Oper} (hq : o.op.quietB = false)
    (h : wpList P ops (fun e a' w' => e = .normal ∧ a'.defers = a.defers ∧ C w' ∧ wpMix P ops C w1 E Q (k + 1) rest a' w') [o] a w) : wpMix P ops C w1 E Q k (o :: rest) a w := by
  unfold wpList at h
  unfold wpMix
  split
  · rename_i hw
    simp only [hw, if_true] at h
    simp only [hq, Bool.false_eq_true, if_false]
    rcases h with h | ⟨_, a₀, w₀, h, _⟩
    · unfold Oper.effs
      unfold Oper.wp at h
      generalize (execOp a.eval o).run P w = r at *
      cases r with
      | ok n w' =>
        cases n <;> simp only [Oper.upon] at h <;> simp only [Oper.effUpon]
        case value v => exact h.2.2
        case skip => exact h.2.2
        case defer d =>
          have := h.2.1
          generalize o.dst = dd at this
          cases dd <;> simp [Act.put] at this
        case enter f args =>
          refine h.mono fun e w'' he => ?_
          cases e with
          | returned v => exact he.2.2
          | panicked c => exact absurd he.1 (by simp)
          | outgrown => obtain ⟨_, _, h1, _⟩ := he; cases h1
        case row row args => exact Rows.mono h fun v w'' he => he.2.2
      | halt x w' =>
        cases x <;> simp only [Oper.upon] at h
        exact absurd h.1 (by simp)
    · cases h
  · rename_i hw
    simp only [hw] at h
    exact h.2.2.2
end
end
end Go
