/- The pure statement of the law FnExactCountSlope: at every two numbers the program's function and the reference's one answer alike; no condition. -/
import Derived.Test.YtkelnmlmdlhjeaaPFnExactCountSlopex1
namespace Go.Proofs.Ytkelnmlmdlhjeaa.Pure
open Go.RowKit Go.Proofs.Ytkelnmlmdlhjeaa.PFnExactCountSlope Go.Proofs.YtkelnmlmdlhjeaaW.PrintWords Go.Proofs.YtkelnmlmdlhjeaaW.PrintLast
namespace FnExactCountSlope

theorem l1In_eq (a lo hi : Int) : spec_l1In.f a lo hi = some (decide (lo ≤ a ∧ a ≤ hi)) := by
  unfold spec_l1In.f
  by_cases h : lo ≤ a
  · rw [if_pos h]; simp [h]
  · rw [if_neg h]; simp [h]

theorem between_eq (a lo hi : Int) : impl_between.f a lo hi = some (decide (lo ≤ a ∧ a ≤ hi)) := by
  unfold impl_between.f
  by_cases h : lo ≤ a
  · rw [if_pos h]; simp [h]
  · rw [if_neg h]; simp [h]

theorem slIs_out (k : Nat) (a b : Int) (h : ¬ ((1 ≤ a ∧ a ≤ 6) ∧ 1 ≤ b ∧ b ≤ 13)) : spec_slIs.f (k + 1) a b = some false := by
  unfold spec_slIs.f
  rw [l1In_eq]
  by_cases h1 : 1 ≤ a ∧ a ≤ 6
  · have h2 : ¬ (1 ≤ b ∧ b ≤ 13) := fun h2 => h ⟨h1, h2⟩
    rw [decide_eq_true h1, Option.bind_some, if_pos rfl, l1In_eq, decide_eq_false h2, Option.bind_some]
    rfl
  · rw [decide_eq_false h1, Option.bind_some, if_neg (by decide)]
    rfl

theorem isSlope_out (k : Nat) (a b : Int) (h : ¬ ((1 ≤ a ∧ a ≤ 6) ∧ 1 ≤ b ∧ b ≤ 13)) : impl_isSlope.f k a b = some false := by
  unfold impl_isSlope.f
  rw [between_eq]
  by_cases h1 : 1 ≤ a ∧ a ≤ 6
  · have h2 : ¬ (1 ≤ b ∧ b ≤ 13) := fun h2 => h ⟨h1, h2⟩
    rw [decide_eq_true h1, Option.bind_some, if_pos rfl, between_eq, decide_eq_false h2, Option.bind_some, if_neg (by decide)]
  · rw [decide_eq_false h1, Option.bind_some, if_neg (by decide)]

theorem pair_cases (a b : Int) (h : (1 ≤ a ∧ a ≤ 6) ∧ 1 ≤ b ∧ b ≤ 13) (P : Int → Int → Prop)
    (hp : ∀ n : Fin 6, ∀ m : Fin 13, P ((n.1 : Int) + 1) ((m.1 : Int) + 1)) : P a b := by
  have e := hp ⟨(a - 1).toNat, by omega⟩ ⟨(b - 1).toNat, by omega⟩
  have ea : (((a - 1).toNat : Int)) + 1 = a := by omega
  have eb : (((b - 1).toNat : Int)) + 1 = b := by omega
  simp only [ea, eb] at e
  exact e

theorem inside : ∀ n : Fin 6, ∀ m : Fin 13, laws_FnExactCountSlope.f 60 ((n.1 : Int) + 1) ((m.1 : Int) + 1) = some true := by decide +kernel

theorem outside (a b : Int) (h : ¬ ((1 ≤ a ∧ a ≤ 6) ∧ 1 ≤ b ∧ b ≤ 13)) : laws_FnExactCountSlope.f 60 a b = some true := by
  have e1 : spec_CountSlope.f 60 a b = some (0, false) := by
    unfold spec_CountSlope.f
    rw [slIs_out 59 a b h]
    rfl
  have e2 : impl_CountSlope.f 60 a b = some (0, false) := by
    unfold impl_CountSlope.f
    rw [isSlope_out 60 a b h]
    rfl
  unfold laws_FnExactCountSlope.f
  rw [e1, e2]
  rfl

end FnExactCountSlope
theorem FnExactCountSlope : laws_FnExactCountSlope.Pure := by
  intro a b _ _
  refine ⟨60, ?_⟩
  by_cases h : (1 ≤ a ∧ a ≤ 6) ∧ 1 ≤ b ∧ b ≤ 13
  · exact FnExactCountSlope.pair_cases a b h (fun a b => laws_FnExactCountSlope.f 60 a b = some true) FnExactCountSlope.inside
  · exact FnExactCountSlope.outside a b h
namespace FnExactCountSlope

end FnExactCountSlope
end Go.Proofs.Ytkelnmlmdlhjeaa.Pure
