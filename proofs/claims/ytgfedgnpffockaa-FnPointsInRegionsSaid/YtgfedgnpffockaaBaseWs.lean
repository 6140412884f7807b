/- The laws' own comparisons of lists and of lists of lists. Condition: lengths below 1,000,001. -/
import Derived.Test.YtgfedgnpffockaaPAllx5
import Derived.Test.YtgfedgnpffockaaBaseA
namespace Go.Proofs.Ytgfedgnpffockaa.Plain
open Go.RowKit Go.Proofs.YtgfedgnpffockaaW.PrintWords Go.Proofs.YtgfedgnpffockaaW.PrintLast Go.Proofs.Ytgfedgnpffockaa.Hand Go.Proofs.Ytgfedgnpffockaa.PAll
set_option linter.unusedVariables false
theorem wSame_l0 (l : List Int) (hs : l.length ≤ 1000000) : ∀ (d n : Nat), n + d = l.length → Ev (fun k => laws_wSame.l0 k l l (l.length : Int) (n : Int)) true := by
  intro d
  induction d with
  | zero =>
    intro n hn
    refine Ev.step (f := fun _ => some true) (fun k => ?_) (Ev.now _)
    rw [laws_wSame.l0, if_neg (by omega)]
  | succ d ih =>
    intro n hn
    refine Ev.step (fun k => ?_) (ih (n + 1) (by omega))
    rw [laws_wSame.l0, if_pos (by omega), if_pos (by omega), if_pos (by omega), if_pos (by omega), if_pos rfl, wrap_succ n (by omega)]
theorem wSame_ev (l : List Int) (hs : l.length ≤ 1000000) : Ev (fun k => laws_wSame.f k l l) true := by
  unfold laws_wSame.f
  exact Ev.pos rfl (wSame_l0 l hs l.length 0 (by omega))
end Go.Proofs.Ytgfedgnpffockaa.Plain
