/- The pure statement of the law FnExactReorderCars: the program's ReorderCars and the reference's one answer alike; no condition beside the row's own. -/
import Derived.Test.YtflgalpfbjhdlaaGreatPAllx2
import Derived.Test.YtflgalpfbjhdlaaGreatPAllx3
import Derived.Test.YtflgalpfbjhdlaaGreatPAllx5
import Derived.Test.YtflgalpfbjhdlaaGreatBaseO
import Derived.Test.YtflgalpfbjhdlaaGreatBaseG
import Derived.Test.YtflgalpfbjhdlaaGreatBaseE
namespace Go.Proofs.YtflgalpfbjhdlaaGreat.Pure
open Go.RowKit Go.Proofs.YtflgalpfbjhdlaaGreatW.PrintWords Go.Proofs.YtflgalpfbjhdlaaGreatW.PrintLast Go.Proofs.YtflgalpfbjhdlaaGreat.Hand Go.Proofs.YtflgalpfbjhdlaaGreat.PAll Go.Proofs.YtflgalpfbjhdlaaGreat.Plain
set_option linter.unusedVariables false
namespace ReorderCars
def reo (l o : List Int) (n : Nat) : List Int := (o.take n).map fun x => rd l x
theorem reo_succ (l o : List Int) (n : Nat) (h : n < o.length) : reo l o (n + 1) = reo l o n ++ [rd l o[n]] := by
  unfold reo
  rw [List.take_succ_eq_append_getElem h, List.map_append]
  rfl
theorem reo_length (l o : List Int) (n : Nat) (h : n ≤ o.length) : (reo l o n).length = n := by
  unfold reo
  simp
  omega
theorem spec_l0 (l o : List Int) (hs : o.length ≤ 1000) (hl : o.length = l.length) (ho : ∀ x ∈ o, 0 ≤ x ∧ x < (o.length : Int)) : ∀ (d n : Nat), n + d = o.length →
    Ev (fun k => spec_vaOrder.l0 k l (reo l o n) o (o.length : Int) (n : Int)) (reo l o o.length) := by
  intro d
  induction d with
  | zero =>
    intro n hn
    obtain rfl : n = o.length := by omega
    refine Ev.step (f := fun _ => some (reo l o o.length)) (fun k => ?_) (Ev.now _)
    rw [spec_vaOrder.l0, if_neg (by omega)]
  | succ d ih =>
    intro n hn
    have h1 : n < o.length := by omega
    have hx := ho o[n] (List.getElem_mem h1)
    refine Ev.step (fun k => ?_) (ih (n + 1) (by omega))
    rw [spec_vaOrder.l0, if_pos (by omega), if_pos (by omega), if_pos (by omega), rd_nat o n h1, if_pos (by omega), if_pos (by omega), if_pos (by rw [reo_length l o n (by omega)]; omega), wrap_succ n (by omega), reo_succ l o n h1]
theorem impl_l0 (l o : List Int) (hs : o.length ≤ 1000) (hl : o.length = l.length) (ho : ∀ x ∈ o, 0 ≤ x ∧ x < (o.length : Int)) : ∀ (d n : Nat), n + d = o.length →
    Ev (fun k => impl_reordered.l0 k l (reo l o n) o (o.length : Int) (n : Int)) (reo l o o.length) := by
  intro d
  induction d with
  | zero =>
    intro n hn
    obtain rfl : n = o.length := by omega
    refine Ev.step (f := fun _ => some (reo l o o.length)) (fun k => ?_) (Ev.now _)
    rw [impl_reordered.l0, if_neg (by omega)]
  | succ d ih =>
    intro n hn
    have h1 : n < o.length := by omega
    have hx := ho o[n] (List.getElem_mem h1)
    refine Ev.step (fun k => ?_) (ih (n + 1) (by omega))
    rw [impl_reordered.l0, if_pos (by omega), if_pos (by omega), if_pos (by omega), rd_nat o n h1, if_pos (by omega), if_pos (by omega), if_pos (by rw [reo_length l o n (by omega)]; omega), wrap_succ n (by omega), reo_succ l o n h1]
def res (l o : List Int) : List Int × Bool := if good l 12 = true ∧ o.length = l.length ∧ order o = true then (reo l o o.length, true) else ([], false)
theorem res_length (l o : List Int) : (res l o).1.length ≤ 100 := by
  unfold res
  split
  · rename_i h
    have := order_length h.2.2
    simp only [reo_length l o o.length (Nat.le_refl _)]
    omega
  · simp
theorem spec_ev (l o : List Int) : Ev (fun k => spec_ReorderCars.f k l o) (res l o) := by
  unfold spec_ReorderCars.f res
  refine Ev.bind (paGood_ev l 12) ?_
  cases h : good l 12 with
  | false => rw [if_neg (by simp)]; exact Ev.neg (by decide) (Ev.now _)
  | true =>
    refine Ev.pos rfl ?_
    by_cases hl : o.length = l.length
    · refine Ev.pos (by omega) (Ev.bind (paOutcome_ev o) ?_)
      cases h2 : order o with
      | false => rw [if_neg (by simp)]; exact Ev.neg (by decide) (Ev.now _)
      | true =>
        have h8 := order_length h2
        rw [if_pos ⟨rfl, hl, rfl⟩]
        refine Ev.pos rfl (Ev.bind ?_ (Ev.now _))
        unfold spec_vaOrder.f
        exact spec_l0 l o (by omega) hl (order_in h2) o.length 0 (by omega)
    · rw [if_neg (fun h => hl h.2.1)]
      exact Ev.neg (by omega) (Ev.now _)
theorem impl_ev (l o : List Int) (hs : o.length ≤ 1099511627776) : Ev (fun k => impl_ReorderCars.f k l o) (res l o) := by
  unfold impl_ReorderCars.f res
  refine Ev.bindc (areFav_eq l 12) ?_
  cases h : good l 12 with
  | false => rw [if_neg (by simp)]; exact Ev.neg (by decide) (Ev.now _)
  | true =>
    refine Ev.pos rfl (Ev.bind (isOrder_ev o hs) ?_)
    cases h2 : order o with
    | false => rw [if_neg (by simp)]; exact Ev.neg (by decide) (Ev.now _)
    | true =>
      refine Ev.pos rfl ?_
      by_cases hl : o.length = l.length
      · have h8 := order_length h2
        rw [if_pos ⟨rfl, hl, rfl⟩]
        refine Ev.pos (by omega) (Ev.bind ?_ (Ev.now _))
        unfold impl_reordered.f
        exact impl_l0 l o (by omega) hl (order_in h2) o.length 0 (by omega)
      · rw [if_neg (fun h => hl h.2.1)]
        exact Ev.neg (by omega) (Ev.now _)
end ReorderCars
end Go.Proofs.YtflgalpfbjhdlaaGreat.Pure
