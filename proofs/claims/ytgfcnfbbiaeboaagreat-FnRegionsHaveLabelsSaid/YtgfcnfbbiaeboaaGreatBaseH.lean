/- Whether a number stands in a list, as the reference tells it. Condition: a length below 2^40. -/
import Derived.Test.YtgfcnfbbiaeboaaGreatPAllx2
import Derived.Test.YtgfcnfbbiaeboaaGreatBaseE
namespace Go.Proofs.YtgfcnfbbiaeboaaGreat.Plain
open Go.RowKit Go.Proofs.YtgfcnfbbiaeboaaGreatW.PrintWords Go.Proofs.YtgfcnfbbiaeboaaGreatW.PrintLast Go.Proofs.YtgfcnfbbiaeboaaGreat.Hand Go.Proofs.YtgfcnfbbiaeboaaGreat.PAll
set_option linter.unusedVariables false

theorem l1Has_l0 (l : List Int) (x : Int) (hs : l.length ≤ 1099511627776) : ∀ (d n : Nat), n + d = l.length →
    Ev (fun k => spec_l1Has.l0 k x l (l.length : Int) (n : Int)) (decide (x ∈ l.drop n)) := by
  intro d
  induction d with
  | zero =>
    intro n hn
    refine Ev.step (f := fun _ => some false) (fun k => ?_) (Ev.const ?_)
    · rw [spec_l1Has.l0, if_neg (by omega)]
    · rw [List.drop_eq_nil_of_le (by omega)]
      rfl
  | succ d ih =>
    intro n hn
    have h1 : n < l.length := by omega
    rw [List.drop_eq_getElem_cons h1]
    by_cases hx : l[n] = x
    · rw [decide_eq_true (by rw [hx]; exact List.mem_cons_self)]
      refine Ev.step (f := fun _ => some true) (fun k => ?_) (Ev.const rfl)
      rw [spec_l1Has.l0, if_pos (by omega), if_pos (by omega), if_pos (by omega), rd_nat l n h1, if_pos hx]
    · rw [mem_skip _ hx]
      refine Ev.step (f := fun k => spec_l1Has.l0 k x l (l.length : Int) ((n + 1 : Nat) : Int)) (fun k => ?_) (ih (n + 1) (by omega))
      rw [spec_l1Has.l0, if_pos (by omega), if_pos (by omega), if_pos (by omega), rd_nat l n h1, if_neg hx, wrap_succ n (by omega)]
theorem l1Has_ev (l : List Int) (x : Int) (hs : l.length ≤ 1099511627776) : Ev (fun k => spec_l1Has.f k l x) (decide (x ∈ l)) := by
  unfold spec_l1Has.f
  have h := l1Has_l0 l x hs l.length 0 (by omega)
  rwa [List.drop_zero] at h
end Go.Proofs.YtgfcnfbbiaeboaaGreat.Plain
