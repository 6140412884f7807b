/- The pure statement of the law FnExactCountPrime: at every two numbers the program's function and the reference's one answer alike; no condition. -/
import Derived.Test.YtkelnmlmdlhjeaaPFnExactCountPrimex1
namespace Go.Proofs.Ytkelnmlmdlhjeaa.Pure
open Go.RowKit Go.Proofs.Ytkelnmlmdlhjeaa.PFnExactCountPrime Go.Proofs.YtkelnmlmdlhjeaaW.PrintWords Go.Proofs.YtkelnmlmdlhjeaaW.PrintLast
namespace FnExactCountPrime

theorem inside : ∀ n : Fin 8, laws_FnExactCountPrime.f 60 ((n.1 : Int) + 1) = some true := by decide +kernel

end FnExactCountPrime
theorem FnExactCountPrime : laws_FnExactCountPrime.Pure := by
  intro a _
  refine ⟨60, ?_⟩
  by_cases h : 1 ≤ a ∧ a ≤ 8
  · have e := FnExactCountPrime.inside ⟨(a - 1).toNat, by omega⟩
    have ea : (((a - 1).toNat : Int)) + 1 = a := by omega
    simp only [ea] at e
    exact e
  · have e1 : spec_l1In.f a 1 8 = some false := by
      unfold spec_l1In.f
      by_cases h1 : 1 ≤ a
      · rw [if_pos h1, decide_eq_false (by omega)]
      · rw [if_neg h1]
    have e2 : impl_between.f a 1 8 = some false := by
      unfold impl_between.f
      by_cases h1 : 1 ≤ a
      · rw [if_pos h1, decide_eq_false (by omega)]
      · rw [if_neg h1]
    unfold laws_FnExactCountPrime.f spec_CountPrime.f impl_CountPrime.f
    rw [e1, e2]
    rfl
namespace FnExactCountPrime

end FnExactCountPrime
end Go.Proofs.Ytkelnmlmdlhjeaa.Pure
