import Derived.Test.YtfjempfffdeklaaDoorNetSame
import Derived.Test.YtfjempfffdeklaaDoorOrdered
import Derived.Test.YtfjempfffdeklaaDoorHeaRec
namespace Go
def Hea.net (x : Hea) : Nt := ⟨x.a, x.n⟩
/-- The nets that were heard, each once. -/
def fstN (l : List Hea) : List Nt := l.foldl (fun acc x => if x.net ∈ acc then acc else acc ++ [x.net]) []
theorem fstN_snoc (l : List Hea) (x : Hea) : fstN (l ++ [x]) = if x.net ∈ fstN l then fstN l else fstN l ++ [x.net] := by unfold fstN; rw [List.foldl_append]; rfl
theorem snocI {α : Type} {P : List α → Prop} (h0 : P []) (h1 : ∀ l x, P l → P (l ++ [x])) : ∀ l, P l := by
  intro l
  have : P l.reverse.reverse := by
    induction l.reverse with
    | nil => exact h0
    | cons x r ih => rw [List.reverse_cons]; exact h1 _ _ ih
  rwa [List.reverse_reverse] at this
theorem fstN_mem (l : List Hea) (q : Nt) : q ∈ fstN l ↔ ∃ x ∈ l, x.net = q := by
  induction l using snocI with
  | h0 => simp [fstN]
  | h1 l x ih =>
    rw [fstN_snoc]
    by_cases h : x.net ∈ fstN l
    · rw [if_pos h, ih]
      constructor
      · rintro ⟨y, hy, e⟩; exact ⟨y, by simp [hy], e⟩
      · rintro ⟨y, hy, e⟩
        rcases List.mem_append.1 hy with hy | hy
        · exact ⟨y, hy, e⟩
        · rw [List.mem_singleton.1 hy] at e; subst e; exact ih.1 h
    · rw [if_neg h, List.mem_append, ih, List.mem_singleton]
      constructor
      · rintro (⟨y, hy, e⟩ | e)
        · exact ⟨y, by simp [hy], e⟩
        · exact ⟨x, by simp, e.symm⟩
      · rintro ⟨y, hy, e⟩
        rcases List.mem_append.1 hy with hy | hy
        · exact .inl ⟨y, hy, e⟩
        · rw [List.mem_singleton.1 hy] at e; exact .inr e.symm
theorem fstN_nodup (l : List Hea) : (fstN l).Nodup := by
  induction l using snocI with
  | h0 => exact List.nodup_nil
  | h1 l x ih =>
    rw [fstN_snoc]
    by_cases h : x.net ∈ fstN l
    · rw [if_pos h]; exact ih
    · rw [if_neg h, List.nodup_append]
      exact ⟨ih, by simp, fun a ha b hb e => by rw [List.mem_singleton.1 hb] at e; subst e; exact h ha⟩
theorem fstN_mono (l m : List Hea) : (fstN l).length ≤ (fstN (l ++ m)).length := by
  induction m using snocI with
  | h0 => rw [List.append_nil]; exact Nat.le_refl _
  | h1 m x ih =>
    rw [← List.append_assoc, fstN_snoc]
    split
    · exact ih
    · rw [List.length_append]; omega
def netsM (l : List Hea) : List Nt := ordered (fstN l)
theorem netsM_mem (l : List Hea) (q : Nt) : q ∈ netsM l ↔ ∃ x ∈ l, x.net = q := by unfold netsM; rw [ordered_mem, fstN_mem]
theorem netsM_len (l : List Hea) : (netsM l).length = (fstN l).length := ordered_len _
theorem ordered_sorted {l : List Nt} (h : l.Nodup) : NSorted (ordered l) := by
  induction l using snocI with
  | h0 => exact List.Pairwise.nil
  | h1 l x ih =>
    rw [ordered_snoc]
    obtain ⟨h1, -, h3⟩ := List.nodup_append.1 h
    have hs := ih h1
    exact nIns_sorted hs (fun hh => h3 x ((ordered_mem l x).1 ((nHas_iff hs x).1 hh)) x (by simp) rfl)
theorem netsM_sorted (l : List Hea) : NSorted (netsM l) := ordered_sorted (fstN_nodup l)
end Go
namespace Go.Proofs.YtfjempfffdeklaaDoor
open Go.RowKit
set_option maxRecDepth 100000 in
set_option maxHeartbeats 4000000 in
theorem netsOf_any {n : Nat} (l : List Hea) (al : Option Addr) (cl : Nat) (w : World) (hL : Recs w.heap al 4 Hea.cells l) (hll : l.length ≤ 9223372036854775806) (hb : (fstN l).length ≤ 100) (hn : n = l.length) :
    Calls Tryd.prog 31 #[.slice al n cl] w (RetNew w 37 2 (netsM l).length ((netsM l).flatMap Nt.cells) id) := by
  subst hn
  have HL := Lib.hid hL
  have HB := Lib.hid hb
  clear hL hb
  go_enter Tryd.func31, Tryd.ntmps31
  go_wp2
  go_loopw [4, 3] (fun s4 s3 wr => ∃ (k : Nat) (O : List Nt) (aO : Option Addr) (cO : Nat) (ob : Option Nat), k ≤ l.length ∧ s4 = .int .i64 k ∧ s3 = .slice aO O.length cO ∧ Own wr.heap 37 2 aO O.length cO (O.flatMap Nt.cells) ob ∧ (∀ g, ob = some g → w.heap.size ≤ g) ∧ Fr (fun _ => False) w wr ∧ Hid (O = fstN (l.take k)) ∧ O.length ≤ 100) (fun s _ _ => l.length - (intOf s).toNat)
  case atStart => exact ⟨0, [], none, 0, none, by omega, rfl, rfl, Own.nil _ _ _, (fun _ h => nomatch h), Fr.refl _ _, Lib.hid rfl, Nat.zero_le _⟩
  case round =>
    obtain ⟨k, O, aO, cO, ob, hk, rfl, rfl, hO, hN, hF, hE, h100⟩ := hrel
    by_cases hkl : k < l.length
    · obtain ⟨g, o, rfl, hgl, hc⟩ := Recs.pos HL.out Hea.cells_len (by omega) (by omega)
      have d1 := (hF.cell (p := ⟨g, o + (k * 4 + 1), none⟩) hgl (fun h => h)).trans (hc w rfl k 1 hkl (by omega))
      have d2 := (hF.cell (p := ⟨g, o + (k * 4 + 2), none⟩) hgl (fun h => h)).trans (hc w rfl k 2 hkl (by omega))
      have hT : fstN (l.take (k + 1)) = if (nth l k).net ∈ fstN (l.take k) then fstN (l.take k) else fstN (l.take k) ++ [(nth l k).net] := by rw [take_succ_nth l k hkl, fstN_snoc]
      have hM : (fstN (l.take (k + 1))).length ≤ 100 := by
        have h1 := fstN_mono (l.take (k + 1)) (l.drop (k + 1))
        rw [List.take_append_drop] at h1
        have := HB.out; omega
      rw [← hE.out] at hT
      have hTi : (nth l k).net ∈ O → fstN (l.take (k + 1)) = O := fun h => by rw [hT, if_pos h]
      have hTo : (nth l k).net ∉ O → fstN (l.take (k + 1)) = O ++ [(nth l k).net] := fun h => by rw [hT, if_neg h]
      clear hT
      obtain ⟨x, hx⟩ : ∃ x, x = nth l k := ⟨_, rfl⟩
      rw [← hx] at d1 d2 hTi hTo
      obtain ⟨xf, xa, xn, xm⟩ := x
      simp only [Hea.cells, Hea.net, List.getElem?_cons_zero, List.getElem?_cons_succ, ← Nat.add_assoc, Nat.add_zero] at d1 d2 hTi hTo
      have HTI := Lib.hid hTi
      have HTO := Lib.hid hTo
      have HMM := Lib.hid hM
      clear hc hx hTi hTo hM
      go_wp2_with (fail)
      refine (places_any O ⟨xa, xn⟩ aO cO wr hO.rd (by omega) rfl).mono ?_
      rintro e1 w1 ⟨p, rfl, hF1, hp, -, -⟩
      by_cases hpn : p < 0
      · have hnot : Hid (fstN (l.take (k + 1)) = O ++ [⟨xa, xn⟩]) := Lib.hid (HTO.out (hp.1 hpn))
        have hlen : O.length + 1 ≤ 100 := by have h1 := HMM.out; rw [hnot.out] at h1; simpa using h1
        have hO1 := hO.fr hF1 (fun _ _ h => h)
        have hF01 := hF.trans hF1
        have d1' := (hF1.cell (p := ⟨g, o + k * 4 + 1, none⟩) (Nat.lt_of_lt_of_le hgl hF.size) (fun h => h)).trans d1
        have d2' := (hF1.cell (p := ⟨g, o + k * 4 + 2, none⟩) (Nat.lt_of_lt_of_le hgl hF.size) (fun h => h)).trans d2
        have hrd := rd_lit w1 37 [.int .u32 xa, .int .i64 xn]
        have hOa := hO1.alloc (.cells #[.int .u32 xa, .int .i64 xn] 37)
        have hFa := hF01.alloc (.cells #[.int .u32 xa, .int .i64 xn] 37)
        have hgl1 := Nat.lt_of_lt_of_le hgl hF01.size
        clear hO hF hF1 hp d1 d2 hO1 hF01
        go_wp2_with (at_builtin; refine wpList_app rfl _ _ 65 rfl Tryd.underlying65 infoNt rfl (by decide) rfl rfl hOa hrd (by simp [Value.oneCell']) (by omega) (by omega) ?_)
        intro a8 c8 w8 ob8 v1 v2 v3
        have hF8 := hFa.app v2 hN
        have hN8 := app_new hN v3 (by have := hFa.size; simp at this; omega)
        have v1' : Own w8.heap 37 2 a8 (O ++ [(⟨xa, xn⟩ : Nt)]).length c8 ((O ++ [(⟨xa, xn⟩ : Nt)]).flatMap Nt.cells) ob8 := by
          rw [List.length_append, List.flatMap_append]
          simpa using v1
        clear v1 v2 v3 hOa hrd hFa d1' d2'
        go_wp2
        go_roundw
        case rel => exact ⟨k + 1, O ++ [⟨xa, xn⟩], a8, c8, ob8, by omega, by go_num, by simp, v1', hN8, hF8, Lib.hid hnot.out.symm, by simpa using hlen⟩
        case measure => simp [intOf]; omega
      · have hin : Hid (O = fstN (l.take (k + 1))) := Lib.hid (by
          have hmem : (⟨xa, xn⟩ : Nt) ∈ O := by
            by_cases h : (⟨xa, xn⟩ : Nt) ∈ O
            · exact h
            · exact absurd (hp.2 h) hpn
          exact (HTI.out hmem).symm)
        have hO1 := hO.fr hF1 (fun _ _ h => h)
        have hF01 := hF.trans hF1
        clear hO hF hF1 hp d1 d2
        go_wp2
        go_roundw
        case rel => exact ⟨k + 1, O, aO, cO, ob, by omega, by go_num, rfl, hO1, hN, hF01, hin, h100⟩
        case measure => simp [intOf]; omega
    · obtain rfl : k = l.length := by omega
      rw [List.take_length] at hE
      have HE := Lib.hid (show ordered O = netsM l from by unfold netsM; rw [hE.out])
      have HLN := Lib.hid (show O.length = (netsM l).length from by rw [hE.out, netsM_len])
      clear hE
      go_wp2_with (fail)
      refine (ordered_any O aO cO wr hO.rd (by omega) rfl).mono ?_
      rintro e1 w1 ⟨a1, c1, ob1, he1, hO1, hF1, hN1⟩
      simp only [id] at he1
      subst he1
      have hF01 := hF.trans hF1
      have hsz := hF.size
      clear hO hF hF1
      go_wp2
      go_ret
      rw [HE.out, HLN.out] at hO1
      exact ⟨a1, c1, ob1, by rw [HLN.out]; rfl, hO1, hF01, fun g hg => by have := hN1 g hg; omega⟩
end Go.Proofs.YtfjempfffdeklaaDoor
