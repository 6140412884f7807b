/- The pure statement of the law FnExactLevelsOfWalk: the program's LevelsOfWalk and the reference's one answer alike; no condition beside the row's own. -/
import Derived.Test.YtmajcgcnnpkhfaaPAllx11
import Derived.Test.YtmajcgcnnpkhfaaPAllx12
import Derived.Test.YtmajcgcnnpkhfaaPAllx13
import Derived.Test.YtmajcgcnnpkhfaaBaseW
namespace Go.Proofs.Ytmajcgcnnpkhfaa.Pure
open Go.RowKit Go.Proofs.YtmajcgcnnpkhfaaW.PrintWords Go.Proofs.YtmajcgcnnpkhfaaW.PrintLast Go.Proofs.Ytmajcgcnnpkhfaa.Hand Go.Proofs.Ytmajcgcnnpkhfaa.PAll Go.Proofs.Ytmajcgcnnpkhfaa.Plain
set_option linter.unusedVariables false
namespace LevelsOfWalk
def lev (l : List Int) (a : Int) (n : Nat) : List Int := (List.range n).map fun i : Nat => wrap64 ((wrap64 ((i : Int) * a)) - (wrap64 ((l.length : Int) * (rd l (i : Int)))))
theorem lev_succ (l : List Int) (a : Int) (n : Nat) : lev l a (n + 1) = lev l a n ++ [wrap64 ((wrap64 ((n : Int) * a)) - (wrap64 ((l.length : Int) * (rd l (n : Int)))))] := by simp [lev, List.range_succ]
theorem lev_length (l : List Int) (a : Int) (n : Nat) : (lev l a n).length = n := by simp [lev]
theorem spec_l0 (l : List Int) (a : Int) (hs : l.length ≤ 1099511627776) : ∀ (d n : Nat), n + d = l.length →
    Ev (fun k => spec_LevelsOfWalk.l0 k l a (lev l a n) l (l.length : Int) (n : Int)) (lev l a l.length, true) := by
  intro d
  induction d with
  | zero =>
    intro n hn
    obtain rfl : n = l.length := by omega
    refine Ev.step (f := fun _ => some (lev l a l.length, true)) (fun k => ?_) (Ev.now _)
    rw [spec_LevelsOfWalk.l0, if_neg (by omega)]
  | succ d ih =>
    intro n hn
    refine Ev.step (fun k => ?_) (ih (n + 1) (by omega))
    rw [spec_LevelsOfWalk.l0, if_pos (by omega), if_pos (by omega), if_pos (by omega), if_pos (by rw [lev_length]; omega), wrap_succ n (by omega), lev_succ]
theorem impl_l0 (l : List Int) (a : Int) (hs : l.length ≤ 1099511627776) : ∀ (d n : Nat), n + d = l.length →
    Ev (fun k => impl_LevelsOfWalk.l0 k l a (lev l a n) l (l.length : Int) (n : Int)) (lev l a l.length, true) := by
  intro d
  induction d with
  | zero =>
    intro n hn
    obtain rfl : n = l.length := by omega
    refine Ev.step (f := fun _ => some (lev l a l.length, true)) (fun k => ?_) (Ev.now _)
    rw [impl_LevelsOfWalk.l0, if_neg (by omega)]
  | succ d ih =>
    intro n hn
    refine Ev.step (fun k => ?_) (ih (n + 1) (by omega))
    rw [impl_LevelsOfWalk.l0, if_pos (by omega), if_pos (by omega), if_pos (by omega), if_pos (by rw [lev_length]; omega), wrap_succ n (by omega), lev_succ]
def res (l : List Int) (a : Int) : List Int × Bool := if slw l a = true then (lev l a l.length, true) else ([], false)
theorem res_length (l : List Int) (a : Int) : (res l a).1.length ≤ 100 := by
  unfold res
  split
  · rename_i h
    have := slp_length (slw_slp h)
    simp only [lev_length]
    omega
  · simp
theorem spec_ev (l : List Int) (a : Int) : Ev (fun k => spec_LevelsOfWalk.f k l a) (res l a) := by
  unfold spec_LevelsOfWalk.f res
  refine Ev.bind (slWalk_ev l a) ?_
  cases h : slw l a with
  | false => rw [if_neg (by decide)]; exact Ev.neg (by decide) (Ev.now _)
  | true =>
    have hl := slp_length (slw_slp h)
    rw [if_pos rfl]
    exact Ev.pos rfl (spec_l0 l a (by omega) l.length 0 (by omega))
theorem impl_ev (l : List Int) (a : Int) : Ev (fun k => impl_LevelsOfWalk.f k l a) (res l a) := by
  unfold impl_LevelsOfWalk.f res
  refine Ev.bind (isSlopeWalk_ev l a) ?_
  cases h : slw l a with
  | false => rw [if_neg (by decide)]; exact Ev.neg (by decide) (Ev.now _)
  | true =>
    have hl := slp_length (slw_slp h)
    rw [if_pos rfl]
    exact Ev.pos rfl (impl_l0 l a (by omega) l.length 0 (by omega))
end LevelsOfWalk
theorem FnExactLevelsOfWalk : laws_FnExactLevelsOfWalk.Pure := by
  intro l a
  intros
  refine Ev.rounds ?_
  unfold laws_FnExactLevelsOfWalk.f
  by_cases hb : (l.length : Int) > 1048576
  · exact Ev.pos hb (Ev.now _)
  have hl : l.length ≤ 1099511627776 := by omega
  have hr := LevelsOfWalk.res_length l a
  refine Ev.neg hb (Ev.bind (toIntS_ev l hl) (Ev.bind (LevelsOfWalk.spec_ev l a) (Ev.bind (toIntS_ev l hl) (Ev.bind (LevelsOfWalk.impl_ev l a) (Ev.bind (eqIntS_same _ (by omega)) (Ev.pos rfl ?_))))))
  rw [bne_self_eq_false]
  refine Ev.step (f := ?f1) (fun k => ?h1) ?g1
  case h1 => rw [laws_FnExactLevelsOfWalk.j0, if_neg (by decide)]
  refine Ev.bind (toIntS_ev l hl) (Ev.bind (eqIntS_same _ (by omega)) (Ev.pos rfl (Ev.bind (markIntS_ev l 1 (by omega) (by omega) hl) (Ev.neg (by dsimp only; omega) (Ev.bind (eqIntS_same _ (by omega)) (Ev.pos rfl ?_))))))
  rw [bne_self_eq_false]
  refine Ev.step (f := ?f2) (fun k => ?h2) ?g2
  case h2 => rw [laws_FnExactLevelsOfWalk.j1, if_neg (by decide)]
  refine Ev.bind (markIntS_ev _ 1 (by omega) (by omega) (by omega)) (Ev.bind (heldIntS_ev 1 _ (by omega) (by omega) (by omega)) (Ev.neg (by omega) (Ev.pos rfl (Ev.bind (toIntS_ev l hl) (Ev.bind (LevelsOfWalk.impl_ev l a) (Ev.bind (eqIntS_same _ (by omega)) (Ev.pos rfl ?_)))))))
  rw [bne_self_eq_false]
  refine Ev.step (f := ?f3) (fun k => ?h3) ?g3
  case h3 => rw [laws_FnExactLevelsOfWalk.j2, if_neg (by decide)]
  exact Ev.bind (heldIntS_ev 1 _ (by omega) (by omega) (by omega)) (Ev.neg (by omega) (Ev.pos rfl (Ev.now _)))
end Go.Proofs.Ytmajcgcnnpkhfaa.Pure
