/- What the printed helper functions of the laws come to: equal lists, copies, bounds. Conditions: lengths below 2^40. -/
import Derived.Test.YtgfcnfbbiaeboaaGreatPAllx2
import Derived.Test.YtgfcnfbbiaeboaaGreatPAllx8
import Derived.Test.YtgfcnfbbiaeboaaGreatBaseA
namespace Go.Proofs.YtgfcnfbbiaeboaaGreat.Plain
open Go.RowKit Go.Proofs.YtgfcnfbbiaeboaaGreatW.PrintWords Go.Proofs.YtgfcnfbbiaeboaaGreatW.PrintLast Go.Proofs.YtgfcnfbbiaeboaaGreat.Hand Go.Proofs.YtgfcnfbbiaeboaaGreat.PAll
set_option linter.unusedVariables false

theorem l1In_eq (a lo hi : Int) : spec_l1In.f a lo hi = some (decide (lo ≤ a ∧ a ≤ hi)) := by
  unfold spec_l1In.f
  by_cases h : lo ≤ a
  · rw [if_pos h]; simp [h]
  · rw [if_neg h]; simp [h]
theorem l1All_l0 (l : List Int) (lo hi : Int) (hs : l.length ≤ 1099511627776) : ∀ (d n : Nat), n + d = l.length →
    Ev (fun k => spec_l1All.l0 k lo hi l (l.length : Int) (n : Int)) ((l.drop n).all fun x => decide (lo ≤ x ∧ x ≤ hi)) := by
  intro d
  induction d with
  | zero =>
    intro n hn
    refine Ev.step (f := fun _ => some true) (fun k => ?_) (Ev.const ?_)
    · rw [spec_l1All.l0, if_neg (by omega)]
    · rw [List.drop_eq_nil_of_le (by omega)]
      rfl
  | succ d ih =>
    intro n hn
    have h1 : n < l.length := by omega
    rw [List.drop_eq_getElem_cons h1, List.all_cons]
    by_cases hx : lo ≤ l[n] ∧ l[n] ≤ hi
    · rw [decide_eq_true hx, Bool.true_and]
      refine Ev.step (f := fun k => spec_l1All.l0 k lo hi l (l.length : Int) ((n + 1 : Nat) : Int)) (fun k => ?_) (ih (n + 1) (by omega))
      rw [spec_l1All.l0, if_pos (by omega), if_pos (by omega), if_pos (by omega), rd_nat l n h1, l1In_eq, decide_eq_true hx, Option.bind_some, if_pos rfl, wrap_succ n (by omega)]
    · rw [decide_eq_false hx, Bool.false_and]
      refine Ev.step (f := fun _ => some false) (fun k => ?_) (Ev.const rfl)
      rw [spec_l1All.l0, if_pos (by omega), if_pos (by omega), if_pos (by omega), rd_nat l n h1, l1In_eq, decide_eq_false hx, Option.bind_some, if_neg (by decide)]
theorem l1All_ev (l : List Int) (lo hi : Int) (hs : l.length ≤ 1099511627776) : Ev (fun k => spec_l1All.f k l lo hi) (l.all fun x => decide (lo ≤ x ∧ x ≤ hi)) := by
  unfold spec_l1All.f
  have h := l1All_l0 l lo hi hs l.length 0 (by omega)
  rwa [List.drop_zero] at h
end Go.Proofs.YtgfcnfbbiaeboaaGreat.Plain
