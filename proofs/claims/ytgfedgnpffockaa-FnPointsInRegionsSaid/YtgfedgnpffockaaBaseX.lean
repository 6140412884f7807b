/- Sorted lists and permutations: plain facts. -/
import Derived.Test.YtgfedgnpffockaaBaseA
namespace Go.Proofs.Ytgfedgnpffockaa.Plain
open Go.RowKit Go.Proofs.YtgfedgnpffockaaW.PrintWords Go.Proofs.YtgfedgnpffockaaW.PrintLast Go.Proofs.Ytgfedgnpffockaa.Hand
set_option linter.unusedVariables false

/-! ### sorted lists -/
/-- The list in increasing order. -/
def srt (l : List Int) : List Int := l.mergeSort fun x y => decide (x ≤ y)
theorem srt_perm (l : List Int) : (srt l).Perm l := List.mergeSort_perm _ _
theorem srt_length (l : List Int) : (srt l).length = l.length := (srt_perm l).length_eq
theorem srt_mem (l : List Int) (x : Int) : x ∈ srt l ↔ x ∈ l := (srt_perm l).mem_iff
theorem srt_sorted (l : List Int) : (srt l).Pairwise (· ≤ ·) := by
  have h := List.pairwise_mergeSort (le := fun x y : Int => decide (x ≤ y)) (fun a b c h1 h2 => by simp at *; omega) (fun a b => by simp; omega) l
  exact h.imp (fun h => of_decide_eq_true h)
theorem srt_unique {l m : List Int} (hp : m.Perm l) (hs : m.Pairwise (· ≤ ·)) : m = srt l :=
  (hp.trans (srt_perm l).symm).eq_of_pairwise (fun a b _ _ h1 h2 => by omega) hs (srt_sorted l)
theorem srt_same {l : List Int} (hs : l.Pairwise (· ≤ ·)) : srt l = l := (srt_unique (List.Perm.refl l) hs).symm
/-- A number put into a list behind those that are no greater, from place k on. -/
theorem put_sorted {out : List Int} {x : Int} {k : Nat} (hk : k ≤ out.length) (hs : out.Pairwise (· ≤ ·)) (h1 : ∀ y ∈ out.take k, y ≤ x) (h2 : ∀ h : k < out.length, x ≤ out[k]) :
    ((out.take k ++ [x]) ++ out.drop k).Pairwise (· ≤ ·) ∧ ((out.take k ++ [x]) ++ out.drop k).Perm (out ++ [x]) := by
  have hsplit : out.take k ++ out.drop k = out := List.take_append_drop k out
  have hp := hs
  rw [← hsplit, List.pairwise_append] at hp
  have h3 : ∀ y ∈ out.drop k, x ≤ y := by
    intro y hy
    rcases Nat.lt_or_ge k out.length with hlt | hge
    · have e := List.drop_eq_getElem_cons hlt
      rw [e] at hy
      have hpd := hp.2.1
      rw [e, List.pairwise_cons] at hpd
      rcases List.mem_cons.1 hy with rfl | hy
      · exact h2 hlt
      · exact Int.le_trans (h2 hlt) (hpd.1 y hy)
    · rw [List.drop_eq_nil_of_le hge] at hy
      cases hy
  constructor
  · rw [List.append_assoc, List.pairwise_append]
    refine ⟨hp.1, ?_, ?_⟩
    · rw [List.singleton_append, List.pairwise_cons]
      exact ⟨h3, hp.2.1⟩
    · intro y hy z hz
      rw [List.singleton_append] at hz
      rcases List.mem_cons.1 hz with rfl | hz
      · exact h1 y hy
      · exact hp.2.2 y hy z hz
  · rw [List.append_assoc]
    refine (List.Perm.append_left _ List.perm_append_comm).trans ?_
    rw [← List.append_assoc, hsplit]

theorem iota_sorted (n : Nat) : (iota 0 n).Pairwise (· ≤ ·) := by
  refine List.pairwise_iff_getElem.2 fun i j hi hj hij => ?_
  rw [iota_get, iota_get]
  omega
theorem iota_mem (n : Nat) (x : Int) : x ∈ iota 0 n ↔ 0 ≤ x ∧ x < (n : Int) := by
  unfold iota
  rw [List.mem_map]
  constructor
  · rintro ⟨i, hi, rfl⟩
    have := List.mem_range.1 hi
    omega
  · intro h
    exact ⟨x.toNat, List.mem_range.2 (by omega), by omega⟩
theorem iota_nodup (n : Nat) : (iota 0 n).Nodup := by
  refine List.pairwise_iff_getElem.2 fun i j hi hj hij => ?_
  rw [iota_get, iota_get]
  omega
theorem nodup_perm : ∀ (l m : List Int), l.Nodup → (∀ x ∈ l, x ∈ m) → m.length ≤ l.length → l.Perm m
  | [], m, _, _, hm => by
    have : m = [] := List.eq_nil_of_length_eq_zero (by simpa using hm)
    rw [this]
  | x :: xs, m, hn, hs, hm => by
    rw [List.nodup_cons] at hn
    have hx : x ∈ m := hs x List.mem_cons_self
    have hp := List.perm_cons_erase hx
    have hl := hp.length_eq
    rw [List.length_cons] at hl hm
    refine ((nodup_perm xs (m.erase x) hn.2 (fun y hy => ?_) (by omega)).cons x).trans hp.symm
    exact (List.mem_erase_of_ne (show y ≠ x from fun e => hn.1 (by rw [← e]; exact hy))).2 (hs y (List.mem_cons_of_mem _ hy))
end Go.Proofs.Ytgfedgnpffockaa.Plain
