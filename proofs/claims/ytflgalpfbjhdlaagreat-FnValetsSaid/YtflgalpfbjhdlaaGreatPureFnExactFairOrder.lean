/- The pure statement of the law FnExactFairOrder: the program's FairOrder and the reference's one answer alike; no condition beside the row's own. -/
import Derived.Test.YtflgalpfbjhdlaaGreatPAllx2
import Derived.Test.YtflgalpfbjhdlaaGreatPAllx4
import Derived.Test.YtflgalpfbjhdlaaGreatBaseF
import Derived.Test.YtflgalpfbjhdlaaGreatBaseB
namespace Go.Proofs.YtflgalpfbjhdlaaGreat.Pure
open Go.RowKit Go.Proofs.YtflgalpfbjhdlaaGreatW.PrintWords Go.Proofs.YtflgalpfbjhdlaaGreatW.PrintLast Go.Proofs.YtflgalpfbjhdlaaGreat.Hand Go.Proofs.YtflgalpfbjhdlaaGreat.PAll Go.Proofs.YtflgalpfbjhdlaaGreat.Plain
set_option linter.unusedVariables false
namespace FairOrder
def all (l : List Int) (p : Int) : Bool := good l p && !decide ((-1 : Int) ∈ sdrive p [] l)
theorem doPark_ev (l : List Int) (p : Int) : Ev (fun k => impl_doPark.f k l p) (all l p) := by
  unfold impl_doPark.f impl_DriveCars.f all
  cases h : good l p with
  | false =>
    refine Ev.bind (a := ([], false)) (Ev.bindc (areFav_eq l p) ?_) (Ev.now _)
    rw [h]
    exact Ev.neg (by decide) (Ev.now _)
  | true =>
    have hp := good_places h
    have h8 := good_cars h
    have hd := drive_ev l p (by omega) (by omega) (by omega) (fun x hx => by have := good_in h x hx; omega)
    by_cases hm : (-1 : Int) ∈ sdrive p [] l
    · rw [if_pos hm] at hd
      rw [decide_eq_true hm]
      refine Ev.bind (a := ([], false)) (Ev.bindc (areFav_eq l p) ?_) (Ev.now _)
      rw [h]
      exact Ev.pos rfl (Ev.bind hd (Ev.now _))
    · rw [if_neg hm] at hd
      rw [decide_eq_false hm]
      refine Ev.bind (a := (sdrive p [] l, true)) (Ev.bindc (areFav_eq l p) ?_) (Ev.now _)
      rw [h]
      exact Ev.pos rfl (Ev.bind hd (Ev.now _))
def res (l : List Int) (p : Int) : List Int × Bool := if all l p = true then (fairS l, true) else ([], false)
theorem all_good {l : List Int} {p : Int} (h : all l p = true) : good l p = true := by
  unfold all at h
  rw [Bool.and_eq_true] at h
  exact h.1
theorem res_length (l : List Int) (p : Int) : (res l p).1.length ≤ 100 := by
  unfold res
  split
  · rename_i h
    have hg := all_good h
    have h8 := good_cars hg
    have hp := good_places hg
    have h1 := (fairS_perm l h8 (fun x hx => by have := good_in hg x hx; omega)).length_eq
    rw [iota_length] at h1
    simp only [h1]
    omega
  · simp
theorem spec_ev (l : List Int) (p : Int) : Ev (fun k => spec_FairOrder.f k l p) (res l p) := by
  unfold spec_FairOrder.f res
  refine Ev.bind (paGood_ev l p) ?_
  cases h : good l p with
  | false =>
    have e : all l p = false := by unfold all; rw [h]; rfl
    rw [if_neg (by rw [e]; decide)]
    exact Ev.neg (by decide) (Ev.now _)
  | true =>
    have hp := good_places h
    have h8 := good_cars h
    have hx : ∀ x ∈ l, 0 ≤ x ∧ x < 100 := fun x hx => by have := good_in h x hx; omega
    have ha : Ev (fun k => spec_paAll.f k l p) (all l p) := by
      unfold spec_paAll.f all
      rw [h, Bool.true_and]
      refine Ev.bind (a := sdrive p [] l) ?_ (Ev.bind (l1Has_ev _ _ (by rw [sdrive_length]; simp; omega)) (Ev.now _))
      unfold spec_paDrive.f
      exact paDrive_l p l (by omega) (by omega) (by omega) l [] 0 rfl rfl (by omega) (fun x hx2 => by have := hx x hx2; omega)
    refine Ev.pos rfl (Ev.bind ha ?_)
    cases h2 : all l p with
    | false => rw [if_neg (by decide)]; exact Ev.neg (by decide) (Ev.now _)
    | true => rw [if_pos rfl]; exact Ev.pos rfl (Ev.bind (vaFair_ev l h8 hx) (Ev.now _))
theorem impl_ev (l : List Int) (p : Int) : Ev (fun k => impl_FairOrder.f k l p) (res l p) := by
  unfold impl_FairOrder.f res
  refine Ev.bind (doPark_ev l p) ?_
  cases h : all l p with
  | false => exact Ev.const rfl
  | true =>
    have hg := all_good h
    have h8 := good_cars hg
    have hp := good_places hg
    refine Ev.const ?_
    simp only [if_true, fair_ev l h8 (fun x hx => by have := good_in hg x hx; omega)]
    rfl
end FairOrder
end Go.Proofs.YtflgalpfbjhdlaaGreat.Pure
