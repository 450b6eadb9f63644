import Derived.Test.YtfglidaicjjpfaaNetSame
import Derived.Test.YtfglidaicjjpfaaOrdered
import Derived.Test.YtfglidaicjjpfaaHeaRec
namespace Go
def Hea.net (x : Hea) : Nt := ⟨x.a, x.n⟩
/-- The nets that were heard, each once. -/
def fstN (l : List Hea) : List Nt := l.foldl (fun acc x => if x.net ∈ acc then acc else acc ++ [x.net]) []
theorem fstN_snoc (l : List Hea) (x : Hea) : fstN (l ++ [x]) = if x.net ∈ fstN l then fstN l else fstN l ++ [x.net] := by unfold fstN; rw [List.foldl_append]; rfl
theorem snocI {α : Type} {P : List α → Prop} (h0 : P []) (h1 : ∀ l x, P l → P (l ++ [x])) : ∀ l, P l := by
  intro l
  have : P l.reverse.reverse := by
    induction l.reverse with
    | nil => exact h0
    | cons x r ih => rw [List.reverse_cons]; exact h1 _ _ ih
  rwa [List.reverse_reverse] at this
theorem fstN_mem (l : List Hea) (q : Nt) : q ∈ fstN l ↔ ∃ x ∈ l, x.net = q := by
  induction l using snocI with
  | h0 => simp [fstN]
  | h1 l x ih =>
    rw [fstN_snoc]
    by_cases h : x.net ∈ fstN l
    · rw [if_pos h, ih]
      constructor
      · rintro ⟨y, hy, e⟩; exact ⟨y, by simp [hy], e⟩
      · rintro ⟨y, hy, e⟩
        rcases List.mem_append.1 hy with hy | hy
        · exact ⟨y, hy, e⟩
        · rw [List.mem_singleton.1 hy] at e; subst e; exact ih.1 h
    · rw [if_neg h, List.mem_append, ih, List.mem_singleton]
      constructor
      · rintro (⟨y, hy, e⟩ | e)
        · exact ⟨y, by simp [hy], e⟩
        · exact ⟨x, by simp, e.symm⟩
      · rintro ⟨y, hy, e⟩
        rcases List.mem_append.1 hy with hy | hy
        · exact .inl ⟨y, hy, e⟩
        · rw [List.mem_singleton.1 hy] at e; exact .inr e.symm
theorem fstN_nodup (l : List Hea) : (fstN l).Nodup := by
  induction l using snocI with
  | h0 => exact List.nodup_nil
  | h1 l x ih =>
    rw [fstN_snoc]
    by_cases h : x.net ∈ fstN l
    · rw [if_pos h]; exact ih
    · rw [if_neg h, List.nodup_append]
      exact ⟨ih, by simp, fun a ha b hb e => by rw [List.mem_singleton.1 hb] at e; subst e; exact h ha⟩
theorem fstN_mono (l m : List Hea) : (fstN l).length ≤ (fstN (l ++ m)).length := by
  induction m using snocI with
  | h0 => rw [List.append_nil]; exact Nat.le_refl _
  | h1 m x ih =>
    rw [← List.append_assoc, fstN_snoc]
    split
    · exact ih
    · rw [List.length_append]; omega
def netsM (l : List Hea) : List Nt := ordered (fstN l)
theorem netsM_mem (l : List Hea) (q : Nt) : q ∈ netsM l ↔ ∃ x ∈ l, x.net = q := by unfold netsM; rw [ordered_mem, fstN_mem]
theorem netsM_len (l : List Hea) : (netsM l).length = (fstN l).length := ordered_len _
theorem ordered_sorted {l : List Nt} (h : l.Nodup) : NSorted (ordered l) := by
  induction l using snocI with
  | h0 => exact List.Pairwise.nil
  | h1 l x ih =>
    rw [ordered_snoc]
    obtain ⟨h1, -, h3⟩ := List.nodup_append.1 h
    have hs := ih h1
    exact nIns_sorted hs (fun hh => h3 x ((ordered_mem l x).1 ((nHas_iff hs x).1 hh)) x (by simp) rfl)
theorem netsM_sorted (l : List Hea) : NSorted (netsM l) := ordered_sorted (fstN_nodup l)
end Go
namespace Go.Proofs.Ytfglidaicjjpfaa
open Go.RowKit

end Go.Proofs.Ytfglidaicjjpfaa
