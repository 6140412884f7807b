/- Sums; what driving comes to: the places are all places, and enough cars wish small ones. No condition beside what each theorem states. -/
import Derived.Test.YtflgalpfbjhdlaaGreatBaseP
import Derived.Test.YtflgalpfbjhdlaaGreatBaseK
import Derived.Test.YtflgalpfbjhdlaaGreatBaseX
namespace Go.Proofs.YtflgalpfbjhdlaaGreat.Plain
open Go.RowKit Go.Proofs.YtflgalpfbjhdlaaGreatW.PrintWords Go.Proofs.YtflgalpfbjhdlaaGreatW.PrintLast Go.Proofs.YtflgalpfbjhdlaaGreat.Hand
set_option linter.unusedVariables false
/-! ### Sums and counts -/
def sm : List Int → Int
  | [] => 0
  | x :: xs => x + sm xs
/-- How many are less than j. -/
def lt (l : List Int) (j : Int) : Int := cnt (fun x => decide (x < j)) l
/-! ### What driving comes to -/
theorem sm_append (l m : List Int) : sm (l ++ m) = sm l + sm m := by
  induction l with
  | nil => simp [sm]
  | cons x xs ih => rw [List.cons_append, sm, sm, ih]; omega
theorem sm_bound (c : Int) : ∀ l : List Int, (∀ x ∈ l, -c ≤ x ∧ x ≤ c) → -(c * (l.length : Int)) ≤ sm l ∧ sm l ≤ c * (l.length : Int)
  | [], _ => by simp [sm]
  | x :: xs, h => by
    have h1 := sm_bound c xs (fun y hy => h y (List.mem_cons_of_mem _ hy))
    have h2 := h x List.mem_cons_self
    rw [sm, List.length_cons, Int.natCast_add, Int.mul_add]
    simp only [Int.natCast_one, Int.mul_one]
    omega
theorem take_next (l : List Int) (n : Nat) (h : n < l.length) : l.take (n + 1) = l.take n ++ [rd l (n : Int)] := by
  rw [List.take_succ_eq_append_getElem h, rd_nat l n h]
theorem acc_in (l : List Int) (h8 : l.length ≤ 100) (hb : ∀ x ∈ l, -1000 ≤ x ∧ x ≤ 1000) (n : Nat) : -100000 ≤ sm (l.take n) ∧ sm (l.take n) ≤ 100000 := by
  have h := sm_bound 1000 (l.take n) (fun x hx => hb x (List.mem_of_mem_take hx))
  have : (l.take n).length ≤ 100 := by rw [List.length_take]; omega
  omega
end Go.Proofs.YtflgalpfbjhdlaaGreat.Plain
