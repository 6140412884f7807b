/- The pure statement of the law FnExactFairOrder: the program's FairOrder and the reference's one answer alike; no condition beside the row's own. -/
import Derived.Test.YtcmpeimpddngbaaPAllx15
import Derived.Test.YtcmpeimpddngbaaPAllx23
import Derived.Test.YtcmpeimpddngbaaPAllx28
import Derived.Test.YtcmpeimpddngbaaBaseF
import Derived.Test.YtcmpeimpddngbaaBaseB
namespace Go.Proofs.Ytcmpeimpddngbaa.Pure
open Go.RowKit Go.Proofs.YtcmpeimpddngbaaW.PrintWords Go.Proofs.YtcmpeimpddngbaaW.PrintLast Go.Proofs.Ytcmpeimpddngbaa.Hand Go.Proofs.Ytcmpeimpddngbaa.PAll Go.Proofs.Ytcmpeimpddngbaa.Plain
set_option linter.unusedVariables false
namespace FairOrder
def all (l : List Int) (p : Int) : Bool := good l p && !decide ((-1 : Int) ∈ sdrive p [] l)
theorem doPark_ev (l : List Int) (p : Int) : Ev (fun k => impl_doPark.f k l p) (all l p) := by
  unfold impl_doPark.f impl_DriveCars.f all
  cases h : good l p with
  | false =>
    refine Ev.bind (a := ([], false)) (Ev.bindc (areFav_eq l p) ?_) (Ev.now _)
    rw [h]
    exact Ev.neg (by decide) (Ev.now _)
  | true =>
    have hp := good_places h
    have h8 := good_cars h
    have hd := drive_ev l p (by omega) (by omega) (by omega) (fun x hx => by have := good_in h x hx; omega)
    by_cases hm : (-1 : Int) ∈ sdrive p [] l
    · rw [if_pos hm] at hd
      rw [decide_eq_true hm]
      refine Ev.bind (a := ([], false)) (Ev.bindc (areFav_eq l p) ?_) (Ev.now _)
      rw [h]
      exact Ev.pos rfl (Ev.bind hd (Ev.now _))
    · rw [if_neg hm] at hd
      rw [decide_eq_false hm]
      refine Ev.bind (a := (sdrive p [] l, true)) (Ev.bindc (areFav_eq l p) ?_) (Ev.now _)
      rw [h]
      exact Ev.pos rfl (Ev.bind hd (Ev.now _))
def res (l : List Int) (p : Int) : List Int × Bool := if all l p = true then (fairS l, true) else ([], false)
theorem all_good {l : List Int} {p : Int} (h : all l p = true) : good l p = true := by
  unfold all at h
  rw [Bool.and_eq_true] at h
  exact h.1
theorem res_length (l : List Int) (p : Int) : (res l p).1.length ≤ 100 := by
  unfold res
  split
  · rename_i h
    have hg := all_good h
    have h8 := good_cars hg
    have hp := good_places hg
    have h1 := (fairS_perm l h8 (fun x hx => by have := good_in hg x hx; omega)).length_eq
    rw [iota_length] at h1
    simp only [h1]
    omega
  · simp
theorem spec_ev (l : List Int) (p : Int) : Ev (fun k => spec_FairOrder.f k l p) (res l p) := by
  unfold spec_FairOrder.f res
  refine Ev.bind (paGood_ev l p) ?_
  cases h : good l p with
  | false =>
    have e : all l p = false := by unfold all; rw [h]; rfl
    rw [if_neg (by rw [e]; decide)]
    exact Ev.neg (by decide) (Ev.now _)
  | true =>
    have hp := good_places h
    have h8 := good_cars h
    have hx : ∀ x ∈ l, 0 ≤ x ∧ x < 100 := fun x hx => by have := good_in h x hx; omega
    have ha : Ev (fun k => spec_paAll.f k l p) (all l p) := by
      unfold spec_paAll.f all
      rw [h, Bool.true_and]
      refine Ev.bind (a := sdrive p [] l) ?_ (Ev.bind (l1Has_ev _ _ (by rw [sdrive_length]; simp; omega)) (Ev.now _))
      unfold spec_paDrive.f
      exact paDrive_l p l (by omega) (by omega) (by omega) l [] 0 rfl rfl (by omega) (fun x hx2 => by have := hx x hx2; omega)
    refine Ev.pos rfl (Ev.bind ha ?_)
    cases h2 : all l p with
    | false => rw [if_neg (by decide)]; exact Ev.neg (by decide) (Ev.now _)
    | true => rw [if_pos rfl]; exact Ev.pos rfl (Ev.bind (vaFair_ev l h8 hx) (Ev.now _))
theorem impl_ev (l : List Int) (p : Int) : Ev (fun k => impl_FairOrder.f k l p) (res l p) := by
  unfold impl_FairOrder.f res
  refine Ev.bind (doPark_ev l p) ?_
  cases h : all l p with
  | false => exact Ev.const rfl
  | true =>
    have hg := all_good h
    have h8 := good_cars hg
    have hp := good_places hg
    refine Ev.const ?_
    simp only [if_true, fair_ev l h8 (fun x hx => by have := good_in hg x hx; omega)]
    rfl
end FairOrder
theorem FnExactFairOrder : laws_FnExactFairOrder.Pure := by
  intro l p
  intros
  refine Ev.rounds ?_
  unfold laws_FnExactFairOrder.f
  by_cases hb : (l.length : Int) > 1048576
  · exact Ev.pos hb (Ev.now _)
  have hl : l.length ≤ 1099511627776 := by omega
  have hr := FairOrder.res_length l p
  refine Ev.neg hb (Ev.bind (toIntS_ev l hl) (Ev.bind (FairOrder.spec_ev l p) (Ev.bind (toIntS_ev l hl) (Ev.bind (FairOrder.impl_ev l p) (Ev.bind (eqIntS_same _ (by omega)) (Ev.pos rfl ?_))))))
  rw [bne_self_eq_false]
  refine Ev.step (f := ?f1) (fun k => ?h1) ?g1
  case h1 => rw [laws_FnExactFairOrder.j0, if_neg (by decide)]
  refine Ev.bind (toIntS_ev l hl) (Ev.bind (eqIntS_same _ (by omega)) (Ev.pos rfl (Ev.bind (markIntS_ev l 1 (by omega) (by omega) hl) (Ev.neg (by dsimp only; omega) (Ev.bind (eqIntS_same _ (by omega)) (Ev.pos rfl ?_))))))
  rw [bne_self_eq_false]
  refine Ev.step (f := ?f2) (fun k => ?h2) ?g2
  case h2 => rw [laws_FnExactFairOrder.j1, if_neg (by decide)]
  refine Ev.bind (markIntS_ev _ 1 (by omega) (by omega) (by omega)) (Ev.bind (heldIntS_ev 1 _ (by omega) (by omega) (by omega)) (Ev.neg (by omega) (Ev.pos rfl (Ev.bind (toIntS_ev l hl) (Ev.bind (FairOrder.impl_ev l p) (Ev.bind (eqIntS_same _ (by omega)) (Ev.pos rfl ?_)))))))
  rw [bne_self_eq_false]
  refine Ev.step (f := ?f3) (fun k => ?h3) ?g3
  case h3 => rw [laws_FnExactFairOrder.j2, if_neg (by decide)]
  exact Ev.bind (heldIntS_ev 1 _ (by omega) (by omega) (by omega)) (Ev.neg (by omega) (Ev.pos rfl (Ev.now _)))
end Go.Proofs.Ytcmpeimpddngbaa.Pure
