/- Distances, and the greatest of a list, as the program and the reference tell them. Conditions: those that each theorem states. -/
import Derived.Test.YtflfbkobpdooeaaPAllx5
import Derived.Test.YtflfbkobpdooeaaBaseA
namespace Go.Proofs.Ytflfbkobpdooeaa.Plain
open Go.RowKit Go.Proofs.YtflfbkobpdooeaaW.PrintWords Go.Proofs.YtflfbkobpdooeaaW.PrintLast Go.Proofs.Ytflfbkobpdooeaa.Hand Go.Proofs.Ytflfbkobpdooeaa.PAll
set_option linter.unusedVariables false

/-- The distances of the first n cars. -/
def dst (s l : List Int) (n : Nat) : List Int := (List.range n).map fun i : Nat => wrap64 (rd s (i : Int) - rd l (i : Int))
theorem dst_succ (s l : List Int) (n : Nat) : dst s l (n + 1) = dst s l n ++ [wrap64 (rd s (n : Int) - rd l (n : Int))] := by simp [dst, List.range_succ]
theorem dst_length (s l : List Int) (n : Nat) : (dst s l n).length = n := by simp [dst]
theorem distancesOf_l0 (s l : List Int) (ok : Bool) (hl : s.length = l.length) (hs : l.length ≤ 1000) : ∀ (d n : Nat), n + d = l.length →
    Ev (fun k => impl_DistancesOf.l0 k l (dst s l n ++ s.drop n) ok (s.length : Int) (n : Int)) (dst s l l.length, ok) := by
  intro d
  induction d with
  | zero =>
    intro n hn
    obtain rfl : n = l.length := by omega
    refine Ev.step (f := fun _ => some (dst s l l.length, ok)) (fun k => ?_) (Ev.now _)
    rw [impl_DistancesOf.l0, if_neg (by omega), List.drop_eq_nil_of_le (by omega), List.append_nil]
  | succ d ih =>
    intro n hn
    have h1 : n < s.length := by omega
    have e1 : rd (dst s l n ++ s.drop n) (n : Int) = rd s (n : Int) := by
      rw [rd_nat _ n (by simp [dst_length]; omega), rd_nat s n h1, List.getElem_append_right (by rw [dst_length]; omega)]
      simp [dst_length]
    have e2 : (dst s l n ++ s.drop n).set n (wrap64 (rd s (n : Int) - rd l (n : Int))) = dst s l (n + 1) ++ s.drop (n + 1) := by
      rw [List.set_append_right _ _ (by rw [dst_length]; omega), dst_length, Nat.sub_self, List.drop_eq_getElem_cons h1, List.set_cons_zero, dst_succ, List.append_assoc]
      rfl
    refine Ev.step (fun k => ?_) (ih (n + 1) (by omega))
    rw [impl_DistancesOf.l0, if_pos (by omega), if_pos (by omega), if_pos (by simp [dst_length]; omega), if_pos (by omega), Int.toNat_natCast, e1, e2, wrap_succ n (by omega)]
theorem mx_le (x y a : Int) : mx x y ≤ a ↔ x ≤ a ∧ y ≤ a := by
  unfold mx
  split <;> omega
end Go.Proofs.Ytflfbkobpdooeaa.Plain
