/- Orders: what the program's and the reference's tests of an order of cars come to. No condition. -/
import Derived.Test.YthanbhbibjnmjaaPAllx3
import Derived.Test.YthanbhbibjnmjaaPAllx4
import Derived.Test.YthanbhbibjnmjaaBaseX
import Derived.Test.YthanbhbibjnmjaaHandE
import Derived.Test.YthanbhbibjnmjaaBaseH
namespace Go.Proofs.Ythanbhbibjnmjaa.Plain
open Go.RowKit Go.Proofs.YthanbhbibjnmjaaW.PrintWords Go.Proofs.YthanbhbibjnmjaaW.PrintLast Go.Proofs.Ythanbhbibjnmjaa.Hand Go.Proofs.Ythanbhbibjnmjaa.PAll
set_option linter.unusedVariables false
theorem sorted_eq (l : List Int) (hs : l.length ≤ 1099511627776) : impl_sorted.f l = some (srt l) := by
  unfold impl_sorted.f
  rw [if_pos hs]
  rfl
/-- An order of cars. -/
def order (l : List Int) : Bool := decide (srt l = iota 0 l.length) && decide (l.length ≤ 8)
theorem order_iff (l : List Int) : srt l = iota 0 l.length ↔ l.Nodup ∧ ∀ x ∈ l, 0 ≤ x ∧ x < (l.length : Int) := by
  constructor
  · intro h
    have hp : l.Perm (iota 0 l.length) := by rw [← h]; exact (srt_perm l).symm
    exact ⟨(hp.nodup_iff).2 (iota_nodup _), fun x hx => (iota_mem _ x).1 (hp.mem_iff.1 hx)⟩
  · rintro ⟨hn, hb⟩
    have hp : l.Perm (iota 0 l.length) := nodup_perm l _ hn (fun x hx => (iota_mem _ x).2 (hb x hx)) (by rw [iota_length]; exact Nat.le_refl _)
    exact (srt_unique hp.symm (iota_sorted _)).symm
theorem isOrder_l0 (l xs : List Int) (hs : xs.length ≤ 1099511627776) : ∀ (d n : Nat), n + d = xs.length →
    Ev (fun k => impl_isOrder.l0 k l xs (xs.length : Int) (n : Int)) (decide (xs.drop n = (iota 0 xs.length).drop n) && decide ((l.length : Int) ≤ 8)) := by
  intro d
  induction d with
  | zero =>
    intro n hn
    refine Ev.step (f := fun _ => some (decide ((l.length : Int) ≤ 8))) (fun k => ?_) (Ev.const ?_)
    · rw [impl_isOrder.l0, if_neg (by omega)]
    · rw [List.drop_eq_nil_of_le (by omega), List.drop_eq_nil_of_le (by rw [iota_length]; omega)]
      simp
  | succ d ih =>
    intro n hn
    have h1 : n < xs.length := by omega
    have h2 : n < (iota 0 xs.length).length := by rw [iota_length]; omega
    rw [List.drop_eq_getElem_cons h1, List.drop_eq_getElem_cons h2, cons_eq, iota_get]
    by_cases hx : xs[n] = 0 + (n : Int)
    · rw [decide_eq_true hx, Bool.true_and]
      refine Ev.step (fun k => ?_) (ih (n + 1) (by omega))
      rw [impl_isOrder.l0, if_pos (by omega), if_pos (by omega), if_pos (by omega), rd_nat xs n h1, if_pos (by omega), wrap_succ n (by omega)]
    · rw [decide_eq_false hx, Bool.false_and, Bool.false_and]
      refine Ev.step (f := fun _ => some false) (fun k => ?_) (Ev.now _)
      rw [impl_isOrder.l0, if_pos (by omega), if_pos (by omega), if_pos (by omega), rd_nat xs n h1, if_neg (by omega)]
theorem isOrder_ev (l : List Int) (hs : l.length ≤ 1099511627776) : Ev (fun k => impl_isOrder.f k l) (order l) := by
  unfold impl_isOrder.f order
  refine Ev.bindc (sorted_eq l hs) ?_
  have h := isOrder_l0 l (srt l) (by rw [srt_length]; omega) (srt l).length 0 (by omega)
  rw [List.drop_zero, List.drop_zero, srt_length] at h
  have e : decide ((l.length : Int) ≤ 8) = decide (l.length ≤ 8) := by
    by_cases h8 : l.length ≤ 8
    · rw [decide_eq_true h8, decide_eq_true (by omega)]
    · rw [decide_eq_false h8, decide_eq_false (by omega)]
  rw [e] at h
  rw [srt_length]
  exact h
theorem order_length {l : List Int} (h : order l = true) : l.length ≤ 8 := by
  unfold order at h
  rw [Bool.and_eq_true, decide_eq_true_eq, decide_eq_true_eq] at h
  exact h.2
theorem order_in {l : List Int} (h : order l = true) : ∀ x ∈ l, 0 ≤ x ∧ x < (l.length : Int) := by
  unfold order at h
  rw [Bool.and_eq_true, decide_eq_true_eq, decide_eq_true_eq] at h
  exact ((order_iff l).1 h.1).2
end Go.Proofs.Ythanbhbibjnmjaa.Plain
