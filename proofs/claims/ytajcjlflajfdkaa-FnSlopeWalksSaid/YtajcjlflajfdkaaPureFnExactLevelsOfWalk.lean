/- The pure statement of the law FnExactLevelsOfWalk: the program's LevelsOfWalk and the reference's one answer alike; no condition beside the row's own. -/
import Derived.Test.YtajcjlflajfdkaaPAllx6
import Derived.Test.YtajcjlflajfdkaaBaseW
import Derived.Test.YtajcjlflajfdkaaBaseM
namespace Go.Proofs.Ytajcjlflajfdkaa.Pure
open Go.RowKit Go.Proofs.YtajcjlflajfdkaaW.PrintWords Go.Proofs.YtajcjlflajfdkaaW.PrintLast Go.Proofs.Ytajcjlflajfdkaa.Hand Go.Proofs.Ytajcjlflajfdkaa.PAll Go.Proofs.Ytajcjlflajfdkaa.Plain
set_option linter.unusedVariables false
namespace LevelsOfWalk
def lev (l : List Int) (a : Int) (n : Nat) : List Int := (List.range n).map fun i : Nat => wrap64 ((wrap64 ((i : Int) * a)) - (wrap64 ((l.length : Int) * (rd l (i : Int)))))
theorem lev_succ (l : List Int) (a : Int) (n : Nat) : lev l a (n + 1) = lev l a n ++ [wrap64 ((wrap64 ((n : Int) * a)) - (wrap64 ((l.length : Int) * (rd l (n : Int)))))] := by simp [lev, List.range_succ]
theorem lev_length (l : List Int) (a : Int) (n : Nat) : (lev l a n).length = n := by simp [lev]
theorem spec_l0 (l : List Int) (a : Int) (hs : l.length ≤ 1099511627776) : ∀ (d n : Nat), n + d = l.length →
    Ev (fun k => spec_LevelsOfWalk.l0 k l a (lev l a n) l (l.length : Int) (n : Int)) (lev l a l.length, true) := by
  intro d
  induction d with
  | zero =>
    intro n hn
    obtain rfl : n = l.length := by omega
    refine Ev.step (f := fun _ => some (lev l a l.length, true)) (fun k => ?_) (Ev.now _)
    rw [spec_LevelsOfWalk.l0, if_neg (by omega)]
  | succ d ih =>
    intro n hn
    refine Ev.step (fun k => ?_) (ih (n + 1) (by omega))
    rw [spec_LevelsOfWalk.l0, if_pos (by omega), if_pos (by omega), if_pos (by omega), if_pos (by rw [lev_length]; omega), wrap_succ n (by omega), lev_succ]
theorem impl_l0 (l : List Int) (a : Int) (hs : l.length ≤ 1099511627776) : ∀ (d n : Nat), n + d = l.length →
    Ev (fun k => impl_LevelsOfWalk.l0 k l a (lev l a n) l (l.length : Int) (n : Int)) (lev l a l.length, true) := by
  intro d
  induction d with
  | zero =>
    intro n hn
    obtain rfl : n = l.length := by omega
    refine Ev.step (f := fun _ => some (lev l a l.length, true)) (fun k => ?_) (Ev.now _)
    rw [impl_LevelsOfWalk.l0, if_neg (by omega)]
  | succ d ih =>
    intro n hn
    refine Ev.step (fun k => ?_) (ih (n + 1) (by omega))
    rw [impl_LevelsOfWalk.l0, if_pos (by omega), if_pos (by omega), if_pos (by omega), if_pos (by rw [lev_length]; omega), wrap_succ n (by omega), lev_succ]
def res (l : List Int) (a : Int) : List Int × Bool := if slw l a = true then (lev l a l.length, true) else ([], false)
theorem res_length (l : List Int) (a : Int) : (res l a).1.length ≤ 100 := by
  unfold res
  split
  · rename_i h
    have := slp_length (slw_slp h)
    simp only [lev_length]
    omega
  · simp
theorem spec_ev (l : List Int) (a : Int) : Ev (fun k => spec_LevelsOfWalk.f k l a) (res l a) := by
  unfold spec_LevelsOfWalk.f res
  refine Ev.bind (slWalk_ev l a) ?_
  cases h : slw l a with
  | false => rw [if_neg (by decide)]; exact Ev.neg (by decide) (Ev.now _)
  | true =>
    have hl := slp_length (slw_slp h)
    rw [if_pos rfl]
    exact Ev.pos rfl (spec_l0 l a (by omega) l.length 0 (by omega))
theorem impl_ev (l : List Int) (a : Int) : Ev (fun k => impl_LevelsOfWalk.f k l a) (res l a) := by
  unfold impl_LevelsOfWalk.f res
  refine Ev.bind (isSlopeWalk_ev l a) ?_
  cases h : slw l a with
  | false => rw [if_neg (by decide)]; exact Ev.neg (by decide) (Ev.now _)
  | true =>
    have hl := slp_length (slw_slp h)
    rw [if_pos rfl]
    exact Ev.pos rfl (impl_l0 l a (by omega) l.length 0 (by omega))
end LevelsOfWalk
end Go.Proofs.Ytajcjlflajfdkaa.Pure
