/- The pure statement of the law FnExactTurnSlopeWalk: the program's TurnSlopeWalk and the reference's one answer alike; no condition beside the row's own. -/
import Derived.Test.YtajcjlflajfdkaaPAllx5
import Derived.Test.YtajcjlflajfdkaaPAllx6
import Derived.Test.YtajcjlflajfdkaaBaseW
import Derived.Test.YtajcjlflajfdkaaBaseM
namespace Go.Proofs.Ytajcjlflajfdkaa.Pure
open Go.RowKit Go.Proofs.YtajcjlflajfdkaaW.PrintWords Go.Proofs.YtajcjlflajfdkaaW.PrintLast Go.Proofs.Ytajcjlflajfdkaa.Hand Go.Proofs.Ytajcjlflajfdkaa.PAll Go.Proofs.Ytajcjlflajfdkaa.Plain
set_option linter.unusedVariables false
namespace TurnSlopeWalk
def over (l : List Int) (a j : Int) : Int := cnt (fun x => decide (x > wrap64 (wrap64 (a - 1) - j))) l
def tsw (l : List Int) (a : Int) (n : Nat) : List Int := (List.range n).map fun i : Nat => over l a (i : Int)
theorem tsw_succ (l : List Int) (a : Int) (n : Nat) : tsw l a (n + 1) = tsw l a n ++ [over l a (n : Int)] := by simp [tsw, List.range_succ]
theorem tsw_length (l : List Int) (a : Int) (n : Nat) : (tsw l a n).length = n := by simp [tsw]
theorem spec_l1 (l out : List Int) (a j : Int) (r : List Int × Bool) (hs : l.length ≤ 1099511627776)
    (next : Ev (fun k => if out.length < 17592186044416 then spec_TurnSlopeWalk.l0 k l a (out ++ [over l a j]) (wrap64 (j + 1)) else none) r) : ∀ (d n : Nat) (m : Int), n + d = l.length → m = cnt (fun x => decide (x > wrap64 (wrap64 (a - 1) - j))) (l.take n) →
    Ev (fun k => spec_TurnSlopeWalk.l1 k l a out j m l (l.length : Int) (n : Int)) r := by
  intro d
  induction d with
  | zero =>
    intro n m hn hm
    refine Ev.step (fun k => ?_) next
    rw [spec_TurnSlopeWalk.l1, if_neg (by omega), hm, List.take_of_length_le (by omega)]
    rfl
  | succ d ih =>
    intro n m hn hm
    have h1 : n < l.length := by omega
    have hc := cnt_snoc (fun x => decide (x > wrap64 (wrap64 (a - 1) - j))) l (n : Int) (by omega) (by omega)
    rw [show ((n : Int) + 1).toNat = n + 1 by omega, Int.toNat_natCast, ← hm, rd_nat l n h1] at hc
    have h2 := cnt_le (fun x => decide (x > wrap64 (wrap64 (a - 1) - j))) (l.take n)
    have h3 := cnt_nonneg (fun x => decide (x > wrap64 (wrap64 (a - 1) - j))) (l.take n)
    rw [← hm] at h2 h3
    have h4 : (l.take n).length ≤ n := List.length_take_le _ _
    by_cases hx : l[n] > wrap64 (wrap64 (a - 1) - j)
    · rw [if_pos (decide_eq_true hx)] at hc
      refine Ev.step (fun k => ?_) (ih (n + 1) (m + 1) (by omega) hc.symm)
      rw [spec_TurnSlopeWalk.l1, if_pos (by omega), if_pos (by omega), if_pos (by omega), rd_nat l n h1, if_pos hx, wrap64_in (m + 1) (by omega) (by omega), wrap_succ n (by omega)]
    · rw [if_neg (by rw [decide_eq_false hx]; decide), Int.add_zero] at hc
      refine Ev.step (fun k => ?_) (ih (n + 1) m (by omega) hc.symm)
      rw [spec_TurnSlopeWalk.l1, if_pos (by omega), if_pos (by omega), if_pos (by omega), rd_nat l n h1, if_neg hx, wrap_succ n (by omega)]
theorem spec_l0 (l : List Int) (m : Nat) (hm : m ≤ 1000) (hs : l.length ≤ 1099511627776) : ∀ (d n : Nat), n + d = m →
    Ev (fun k => spec_TurnSlopeWalk.l0 k l (m : Int) (tsw l (m : Int) n) (n : Int)) (tsw l (m : Int) m, true) := by
  intro d
  induction d with
  | zero =>
    intro n hn
    obtain rfl : n = m := by omega
    refine Ev.step (f := fun _ => some (tsw l (n : Int) n, true)) (fun k => ?_) (Ev.now _)
    rw [spec_TurnSlopeWalk.l0, if_neg (by omega)]
  | succ d ih =>
    intro n hn
    refine Ev.step (f := ?f1) (fun k => ?h1) ?g1
    case h1 => rw [spec_TurnSlopeWalk.l0, if_pos (by omega)]
    refine spec_l1 l (tsw l (m : Int) n) (m : Int) (n : Int) _ hs (Ev.pos (by rw [tsw_length]; omega) ?_) l.length 0 0 (by omega) (by simp [cnt])
    have h := ih (n + 1) (by omega)
    rw [tsw_succ] at h
    rwa [wrap_succ n (by omega)]
theorem impl_l0 (l : List Int) (m : Nat) (hm : m ≤ 1000) : ∀ (d n : Nat), n + d = m →
    Ev (fun k => impl_TurnSlopeWalk.l0 k l (tsw l (m : Int) n) (m : Int) (n : Int) (m : Int)) (tsw l (m : Int) m, true) := by
  intro d
  induction d with
  | zero =>
    intro n hn
    obtain rfl : n = m := by omega
    refine Ev.step (f := fun _ => some (tsw l (n : Int) n, true)) (fun k => ?_) (Ev.now _)
    rw [impl_TurnSlopeWalk.l0, if_neg (by omega)]
  | succ d ih =>
    intro n hn
    refine Ev.step (fun k => ?_) (ih (n + 1) (by omega))
    rw [impl_TurnSlopeWalk.l0, if_pos (by omega), countIf_turnWalk.f, Option.bind_some, if_pos (by rw [tsw_length]; omega), wrap_succ n (by omega), tsw_succ]
    rfl
def res (l : List Int) (a : Int) : List Int × Bool := if slw l a = true ∧ slope a (l.length : Int) = true then (tsw l a a.toNat, true) else ([], false)
theorem res_length (l : List Int) (a : Int) : (res l a).1.length ≤ 100 := by
  unfold res
  split
  · rename_i h
    have := slope_in h.2
    simp only [tsw_length]
    omega
  · simp
theorem spec_ev (l : List Int) (a : Int) : Ev (fun k => spec_TurnSlopeWalk.f k l a) (res l a) := by
  unfold spec_TurnSlopeWalk.f res
  refine Ev.bind (slWalk_ev l a) ?_
  cases h : slw l a with
  | false =>
    rw [if_neg (by simp)]
    refine Ev.neg (by decide) (Ev.step (f := fun _ => some ([], false)) (fun k => ?_) (Ev.now _))
    rw [spec_TurnSlopeWalk.j0, if_pos rfl]
  | true =>
    have hl := slp_length (slw_slp h)
    refine Ev.pos rfl (Ev.bind (slIs_ev _ _) ?_)
    cases h2 : slope a (l.length : Int) with
    | false =>
      rw [if_neg (by simp)]
      refine Ev.step (f := fun _ => some ([], false)) (fun k => ?_) (Ev.now _)
      rw [spec_TurnSlopeWalk.j0, if_pos (by decide)]
    | true =>
      have ha := slope_in h2
      rw [if_pos ⟨rfl, rfl⟩]
      obtain ⟨m, rfl⟩ := Int.eq_ofNat_of_zero_le (show 0 ≤ a by omega)
      refine Ev.step (f := ?f1) (fun k => ?h1) ?g1
      case h1 => rw [spec_TurnSlopeWalk.j0, if_neg (by decide)]
      exact spec_l0 l m (by omega) (by omega) m 0 (by omega)
theorem impl_ev (l : List Int) (a : Int) : Ev (fun k => impl_TurnSlopeWalk.f k l a) (res l a) := by
  unfold impl_TurnSlopeWalk.f res
  refine Ev.bind (isSlopeWalk_ev l a) ?_
  cases h : slw l a with
  | false =>
    rw [if_neg (by simp)]
    refine Ev.neg (by decide) (Ev.step (f := fun _ => some ([], false)) (fun k => ?_) (Ev.now _))
    rw [impl_TurnSlopeWalk.j0, if_pos rfl]
  | true =>
    have hl := slp_length (slw_slp h)
    refine Ev.pos rfl (Ev.bind (isSlope_ev _ _) ?_)
    cases h2 : slope a (l.length : Int) with
    | false =>
      rw [if_neg (by simp)]
      refine Ev.step (f := fun _ => some ([], false)) (fun k => ?_) (Ev.now _)
      rw [impl_TurnSlopeWalk.j0, if_pos (by decide)]
    | true =>
      have ha := slope_in h2
      rw [if_pos ⟨rfl, rfl⟩]
      obtain ⟨m, rfl⟩ := Int.eq_ofNat_of_zero_le (show 0 ≤ a by omega)
      refine Ev.step (f := ?f1) (fun k => ?h1) ?g1
      case h1 => rw [impl_TurnSlopeWalk.j0, if_neg (by decide)]
      exact impl_l0 l m (by omega) m 0 (by omega)
end TurnSlopeWalk
end Go.Proofs.Ytajcjlflajfdkaa.Pure
