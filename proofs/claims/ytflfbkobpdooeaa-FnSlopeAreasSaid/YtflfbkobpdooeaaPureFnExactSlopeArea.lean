/- The pure statement of the law FnExactSlopeArea: the program's SlopeArea and the reference's one answer alike; no condition beside the row's own. -/
import Derived.Test.YtflfbkobpdooeaaPAllx3
import Derived.Test.YtflfbkobpdooeaaPAllx4
import Derived.Test.YtflfbkobpdooeaaBaseS
namespace Go.Proofs.Ytflfbkobpdooeaa.Pure
open Go.RowKit Go.Proofs.YtflfbkobpdooeaaW.PrintWords Go.Proofs.YtflfbkobpdooeaaW.PrintLast Go.Proofs.Ytflfbkobpdooeaa.Hand Go.Proofs.Ytflfbkobpdooeaa.PAll Go.Proofs.Ytflfbkobpdooeaa.Plain
set_option linter.unusedVariables false
namespace SlopeArea
def sumW : Int → List Int → Int
  | acc, [] => acc
  | acc, x :: xs => sumW (wrap64 (acc + x)) xs
theorem paSum_l0 (l : List Int) (hs : l.length ≤ 1099511627776) : ∀ (d n : Nat) (acc : Int), n + d = l.length →
    Ev (fun k => spec_paSum.l0 k acc l (l.length : Int) (n : Int)) (sumW acc (l.drop n)) := by
  intro d
  induction d with
  | zero =>
    intro n acc hn
    refine Ev.step (f := fun _ => some acc) (fun k => ?_) (Ev.const ?_)
    · rw [spec_paSum.l0, if_neg (by omega)]
    · rw [List.drop_eq_nil_of_le (by omega)]
      rfl
  | succ d ih =>
    intro n acc hn
    have h1 : n < l.length := by omega
    rw [List.drop_eq_getElem_cons h1, sumW]
    refine Ev.step (fun k => ?_) (ih (n + 1) (wrap64 (acc + l[n])) (by omega))
    rw [spec_paSum.l0, if_pos (by omega), if_pos (by omega), if_pos (by omega), rd_nat l n h1, wrap_succ n (by omega)]
theorem total_l0 (l : List Int) (hs : l.length ≤ 1099511627776) : ∀ (d n : Nat) (acc : Int), n + d = l.length →
    Ev (fun k => impl_total.l0 k acc l (l.length : Int) (n : Int)) (sumW acc (l.drop n)) := by
  intro d
  induction d with
  | zero =>
    intro n acc hn
    refine Ev.step (f := fun _ => some acc) (fun k => ?_) (Ev.const ?_)
    · rw [impl_total.l0, if_neg (by omega)]
    · rw [List.drop_eq_nil_of_le (by omega)]
      rfl
  | succ d ih =>
    intro n acc hn
    have h1 : n < l.length := by omega
    rw [List.drop_eq_getElem_cons h1, sumW]
    refine Ev.step (fun k => ?_) (ih (n + 1) (wrap64 (acc + l[n])) (by omega))
    rw [impl_total.l0, if_pos (by omega), if_pos (by omega), if_pos (by omega), rd_nat l n h1, wrap_succ n (by omega)]
theorem paSum_ev (l : List Int) (hs : l.length ≤ 1099511627776) : Ev (fun k => spec_paSum.f k l) (sumW 0 l) := by
  unfold spec_paSum.f
  have h := paSum_l0 l hs l.length 0 0 (by omega)
  rwa [List.drop_zero] at h
theorem total_ev (l : List Int) (hs : l.length ≤ 1099511627776) : Ev (fun k => impl_total.f k l) (sumW 0 l) := by
  unfold impl_total.f
  have h := total_l0 l hs l.length 0 0 (by omega)
  rwa [List.drop_zero] at h
def res (l : List Int) (a : Int) : Int × Bool := if slp l a = true then (wrap64 (sumW 0 (bnds (l.length : Int) a) - sumW 0 l), true) else (0, false)
theorem spec_ev (l : List Int) (a : Int) : Ev (fun k => spec_SlopeArea.f k l a) (res l a) := by
  unfold spec_SlopeArea.f res
  refine Ev.bind (slGood_ev l a) ?_
  cases h : slp l a with
  | false => rw [if_neg (by decide)]; exact Ev.neg (by decide) (Ev.now _)
  | true =>
    have hl := slp_length h
    rw [if_pos rfl]
    exact Ev.pos rfl (Ev.bind (slBounds_ev (slp_slope h)) (Ev.bind (paSum_ev _ (by rw [bnds_length]; omega)) (Ev.bind (paSum_ev l (by omega)) (Ev.now _))))
theorem impl_ev (l : List Int) (a : Int) : Ev (fun k => impl_SlopeArea.f k l a) (res l a) := by
  unfold impl_SlopeArea.f res
  refine Ev.bind (isSlopeParking_ev l a) ?_
  cases h : slp l a with
  | false => rw [if_neg (by decide)]; exact Ev.neg (by decide) (Ev.now _)
  | true =>
    have hl := slp_length h
    rw [if_pos rfl]
    exact Ev.pos rfl (Ev.bind (bounds_ev (slp_slope h)) (Ev.bind (total_ev _ (by rw [bnds_length]; omega)) (Ev.bind (total_ev l (by omega)) (Ev.now _))))
end SlopeArea
end Go.Proofs.Ytflfbkobpdooeaa.Pure
