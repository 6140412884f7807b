/- Sorted lists and permutations: plain facts. -/
import Derived.Test.YtcfolhafjeefaaaBaseA
namespace Go.Proofs.Ytcfolhafjeefaaa.Plain
open Go.RowKit Go.Proofs.YtcfolhafjeefaaaW.PrintWords Go.Proofs.YtcfolhafjeefaaaW.PrintLast Go.Proofs.Ytcfolhafjeefaaa.Hand
set_option linter.unusedVariables false

/-! ### sorted lists -/
/-- The list in increasing order. -/
def srt (l : List Int) : List Int := l.mergeSort fun x y => decide (x ≤ y)
theorem iota_mem (n : Nat) (x : Int) : x ∈ iota 0 n ↔ 0 ≤ x ∧ x < (n : Int) := by
  unfold iota
  rw [List.mem_map]
  constructor
  · rintro ⟨i, hi, rfl⟩
    have := List.mem_range.1 hi
    omega
  · intro h
    exact ⟨x.toNat, List.mem_range.2 (by omega), by omega⟩
theorem nodup_perm : ∀ (l m : List Int), l.Nodup → (∀ x ∈ l, x ∈ m) → m.length ≤ l.length → l.Perm m
  | [], m, _, _, hm => by
    have : m = [] := List.eq_nil_of_length_eq_zero (by simpa using hm)
    rw [this]
  | x :: xs, m, hn, hs, hm => by
    rw [List.nodup_cons] at hn
    have hx : x ∈ m := hs x List.mem_cons_self
    have hp := List.perm_cons_erase hx
    have hl := hp.length_eq
    rw [List.length_cons] at hl hm
    refine ((nodup_perm xs (m.erase x) hn.2 (fun y hy => ?_) (by omega)).cons x).trans hp.symm
    exact (List.mem_erase_of_ne (show y ≠ x from fun e => hn.1 (by rw [← e]; exact hy))).2 (hs y (List.mem_cons_of_mem _ hy))
end Go.Proofs.Ytcfolhafjeefaaa.Plain
