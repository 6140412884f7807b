/- The pure statement of the law FnExactReorderCars: the program's ReorderCars and the reference's one answer alike; no condition beside the row's own. -/
import Derived.Test.YtcmpeimpddngbaaPAllx15
import Derived.Test.YtcmpeimpddngbaaPAllx16
import Derived.Test.YtcmpeimpddngbaaBaseO
namespace Go.Proofs.Ytcmpeimpddngbaa.Pure
open Go.RowKit Go.Proofs.YtcmpeimpddngbaaW.PrintWords Go.Proofs.YtcmpeimpddngbaaW.PrintLast Go.Proofs.Ytcmpeimpddngbaa.Hand Go.Proofs.Ytcmpeimpddngbaa.PAll Go.Proofs.Ytcmpeimpddngbaa.Plain
set_option linter.unusedVariables false
namespace ReorderCars
def reo (l o : List Int) (n : Nat) : List Int := (o.take n).map fun x => rd l x
theorem reo_succ (l o : List Int) (n : Nat) (h : n < o.length) : reo l o (n + 1) = reo l o n ++ [rd l o[n]] := by
  unfold reo
  rw [List.take_succ_eq_append_getElem h, List.map_append]
  rfl
theorem reo_length (l o : List Int) (n : Nat) (h : n ≤ o.length) : (reo l o n).length = n := by
  unfold reo
  simp
  omega
theorem spec_l0 (l o : List Int) (hs : o.length ≤ 1000) (hl : o.length = l.length) (ho : ∀ x ∈ o, 0 ≤ x ∧ x < (o.length : Int)) : ∀ (d n : Nat), n + d = o.length →
    Ev (fun k => spec_vaOrder.l0 k l (reo l o n) o (o.length : Int) (n : Int)) (reo l o o.length) := by
  intro d
  induction d with
  | zero =>
    intro n hn
    obtain rfl : n = o.length := by omega
    refine Ev.step (f := fun _ => some (reo l o o.length)) (fun k => ?_) (Ev.now _)
    rw [spec_vaOrder.l0, if_neg (by omega)]
  | succ d ih =>
    intro n hn
    have h1 : n < o.length := by omega
    have hx := ho o[n] (List.getElem_mem h1)
    refine Ev.step (fun k => ?_) (ih (n + 1) (by omega))
    rw [spec_vaOrder.l0, if_pos (by omega), if_pos (by omega), if_pos (by omega), rd_nat o n h1, if_pos (by omega), if_pos (by omega), if_pos (by rw [reo_length l o n (by omega)]; omega), wrap_succ n (by omega), reo_succ l o n h1]
theorem impl_l0 (l o : List Int) (hs : o.length ≤ 1000) (hl : o.length = l.length) (ho : ∀ x ∈ o, 0 ≤ x ∧ x < (o.length : Int)) : ∀ (d n : Nat), n + d = o.length →
    Ev (fun k => impl_reordered.l0 k l (reo l o n) o (o.length : Int) (n : Int)) (reo l o o.length) := by
  intro d
  induction d with
  | zero =>
    intro n hn
    obtain rfl : n = o.length := by omega
    refine Ev.step (f := fun _ => some (reo l o o.length)) (fun k => ?_) (Ev.now _)
    rw [impl_reordered.l0, if_neg (by omega)]
  | succ d ih =>
    intro n hn
    have h1 : n < o.length := by omega
    have hx := ho o[n] (List.getElem_mem h1)
    refine Ev.step (fun k => ?_) (ih (n + 1) (by omega))
    rw [impl_reordered.l0, if_pos (by omega), if_pos (by omega), if_pos (by omega), rd_nat o n h1, if_pos (by omega), if_pos (by omega), if_pos (by rw [reo_length l o n (by omega)]; omega), wrap_succ n (by omega), reo_succ l o n h1]
def res (l o : List Int) : List Int × Bool := if good l 12 = true ∧ o.length = l.length ∧ order o = true then (reo l o o.length, true) else ([], false)
theorem res_length (l o : List Int) : (res l o).1.length ≤ 100 := by
  unfold res
  split
  · rename_i h
    have := order_length h.2.2
    simp only [reo_length l o o.length (Nat.le_refl _)]
    omega
  · simp
theorem spec_ev (l o : List Int) : Ev (fun k => spec_ReorderCars.f k l o) (res l o) := by
  unfold spec_ReorderCars.f res
  refine Ev.bind (paGood_ev l 12) ?_
  cases h : good l 12 with
  | false => rw [if_neg (by simp)]; exact Ev.neg (by decide) (Ev.now _)
  | true =>
    refine Ev.pos rfl ?_
    by_cases hl : o.length = l.length
    · refine Ev.pos (by omega) (Ev.bind (paOutcome_ev o) ?_)
      cases h2 : order o with
      | false => rw [if_neg (by simp)]; exact Ev.neg (by decide) (Ev.now _)
      | true =>
        have h8 := order_length h2
        rw [if_pos ⟨rfl, hl, rfl⟩]
        refine Ev.pos rfl (Ev.bind ?_ (Ev.now _))
        unfold spec_vaOrder.f
        exact spec_l0 l o (by omega) hl (order_in h2) o.length 0 (by omega)
    · rw [if_neg (fun h => hl h.2.1)]
      exact Ev.neg (by omega) (Ev.now _)
theorem impl_ev (l o : List Int) (hs : o.length ≤ 1099511627776) : Ev (fun k => impl_ReorderCars.f k l o) (res l o) := by
  unfold impl_ReorderCars.f res
  refine Ev.bindc (areFav_eq l 12) ?_
  cases h : good l 12 with
  | false => rw [if_neg (by simp)]; exact Ev.neg (by decide) (Ev.now _)
  | true =>
    refine Ev.pos rfl (Ev.bind (isOrder_ev o hs) ?_)
    cases h2 : order o with
    | false => rw [if_neg (by simp)]; exact Ev.neg (by decide) (Ev.now _)
    | true =>
      refine Ev.pos rfl ?_
      by_cases hl : o.length = l.length
      · have h8 := order_length h2
        rw [if_pos ⟨rfl, hl, rfl⟩]
        refine Ev.pos (by omega) (Ev.bind ?_ (Ev.now _))
        unfold impl_reordered.f
        exact impl_l0 l o (by omega) hl (order_in h2) o.length 0 (by omega)
      · rw [if_neg (fun h => hl h.2.1)]
        exact Ev.neg (by omega) (Ev.now _)
end ReorderCars
theorem FnExactReorderCars : laws_FnExactReorderCars.Pure := by
  intro l o
  intros
  refine Ev.rounds ?_
  unfold laws_FnExactReorderCars.f
  by_cases hb : (l.length : Int) > 1048576
  · exact Ev.pos hb (Ev.now _)
  by_cases hb2 : (o.length : Int) > 1048576
  · exact Ev.neg hb (Ev.pos hb2 (Ev.now _))
  have hl : l.length ≤ 1099511627776 := by omega
  have ho : o.length ≤ 1099511627776 := by omega
  have hr := ReorderCars.res_length l o
  refine Ev.neg hb (Ev.neg hb2 (Ev.bind (toIntS_ev l hl) (Ev.bind (toIntS_ev o ho) (Ev.bind (ReorderCars.spec_ev l o) (Ev.bind (toIntS_ev l hl) (Ev.bind (toIntS_ev o ho) (Ev.bind (ReorderCars.impl_ev l o ho) (Ev.bind (eqIntS_same _ (by omega)) (Ev.pos rfl ?_)))))))))
  rw [bne_self_eq_false]
  refine Ev.step (f := ?f1) (fun k => ?h1) ?g1
  case h1 => rw [laws_FnExactReorderCars.j0, if_neg (by decide)]
  refine Ev.bind (toIntS_ev l hl) (Ev.bind (eqIntS_same _ (by omega)) (Ev.pos rfl (Ev.bind (toIntS_ev o ho) (Ev.bind (eqIntS_same _ (by omega)) (Ev.pos rfl (Ev.bind (markIntS_ev l 1 (by omega) (by omega) hl) (Ev.bind (markIntS_ev o _ (by dsimp only; omega) (by dsimp only; omega) ho) (Ev.neg (by dsimp only; omega) (Ev.bind (eqIntS_same _ (by omega)) (Ev.pos rfl ?_))))))))))
  rw [bne_self_eq_false]
  refine Ev.step (f := ?f2) (fun k => ?h2) ?g2
  case h2 => rw [laws_FnExactReorderCars.j1, if_neg (by decide)]
  refine Ev.bind (markIntS_ev _ 1 (by omega) (by omega) (by omega)) (Ev.bind (heldIntS_ev 1 _ (by omega) (by omega) (by omega)) (Ev.neg (by omega) (Ev.pos rfl (Ev.bind (toIntS_ev l hl) (Ev.bind (toIntS_ev o ho) (Ev.bind (ReorderCars.impl_ev l o ho) (Ev.bind (eqIntS_same _ (by omega)) (Ev.pos rfl ?_))))))))
  rw [bne_self_eq_false]
  refine Ev.step (f := ?f3) (fun k => ?h3) ?g3
  case h3 => rw [laws_FnExactReorderCars.j2, if_neg (by decide)]
  exact Ev.bind (heldIntS_ev 1 _ (by omega) (by omega) (by omega)) (Ev.neg (by omega) (Ev.pos rfl (Ev.now _)))
end Go.Proofs.Ytcmpeimpddngbaa.Pure
