/- The pure statement of the law FnExactBoundsOf: at every two numbers the program's function and the reference's one answer alike; no condition. -/
import Derived.Test.YtkelnmlmdlhjeaaPFnExactBoundsOfx2
namespace Go.Proofs.Ytkelnmlmdlhjeaa.Pure
open Go.RowKit Go.Proofs.Ytkelnmlmdlhjeaa.PFnExactBoundsOf Go.Proofs.YtkelnmlmdlhjeaaW.PrintWords Go.Proofs.YtkelnmlmdlhjeaaW.PrintLast
namespace FnExactBoundsOf

theorem l1In_eq (a lo hi : Int) : spec_l1In.f a lo hi = some (decide (lo ≤ a ∧ a ≤ hi)) := by
  unfold spec_l1In.f
  by_cases h : lo ≤ a
  · rw [if_pos h]; simp [h]
  · rw [if_neg h]; simp [h]

theorem between_eq (a lo hi : Int) : impl_between.f a lo hi = some (decide (lo ≤ a ∧ a ≤ hi)) := by
  unfold impl_between.f
  by_cases h : lo ≤ a
  · rw [if_pos h]; simp [h]
  · rw [if_neg h]; simp [h]

theorem slIs_out (k : Nat) (a b : Int) (h : ¬ ((1 ≤ a ∧ a ≤ 6) ∧ 1 ≤ b ∧ b ≤ 13)) : spec_slIs.f (k + 1) a b = some false := by
  unfold spec_slIs.f
  rw [l1In_eq]
  by_cases h1 : 1 ≤ a ∧ a ≤ 6
  · have h2 : ¬ (1 ≤ b ∧ b ≤ 13) := fun h2 => h ⟨h1, h2⟩
    rw [decide_eq_true h1, Option.bind_some, if_pos rfl, l1In_eq, decide_eq_false h2, Option.bind_some]
    rfl
  · rw [decide_eq_false h1, Option.bind_some, if_neg (by decide)]
    rfl

theorem isSlope_out (k : Nat) (a b : Int) (h : ¬ ((1 ≤ a ∧ a ≤ 6) ∧ 1 ≤ b ∧ b ≤ 13)) : impl_isSlope.f k a b = some false := by
  unfold impl_isSlope.f
  rw [between_eq]
  by_cases h1 : 1 ≤ a ∧ a ≤ 6
  · have h2 : ¬ (1 ≤ b ∧ b ≤ 13) := fun h2 => h ⟨h1, h2⟩
    rw [decide_eq_true h1, Option.bind_some, if_pos rfl, between_eq, decide_eq_false h2, Option.bind_some, if_neg (by decide)]
  · rw [decide_eq_false h1, Option.bind_some, if_neg (by decide)]

theorem pair_cases (a b : Int) (h : (1 ≤ a ∧ a ≤ 6) ∧ 1 ≤ b ∧ b ≤ 13) (P : Int → Int → Prop)
    (hp : ∀ n : Fin 6, ∀ m : Fin 13, P ((n.1 : Int) + 1) ((m.1 : Int) + 1)) : P a b := by
  have e := hp ⟨(a - 1).toNat, by omega⟩ ⟨(b - 1).toNat, by omega⟩
  have ea : (((a - 1).toNat : Int)) + 1 = a := by omega
  have eb : (((b - 1).toNat : Int)) + 1 = b := by omega
  simp only [ea, eb] at e
  exact e

theorem inside : ∀ n : Fin 6, ∀ m : Fin 13, laws_FnExactBoundsOf.f 60 ((n.1 : Int) + 1) ((m.1 : Int) + 1) = some true := by decide +kernel

theorem outside (a b : Int) (h : ¬ ((1 ≤ a ∧ a ≤ 6) ∧ 1 ≤ b ∧ b ≤ 13)) : laws_FnExactBoundsOf.f 60 a b = some true := by
  have e1 : spec_BoundsOf.f 60 a b = some ([], false) := by
    unfold spec_BoundsOf.f
    rw [slIs_out 59 a b h]
    rfl
  have e2 : ∀ k, impl_BoundsOf.f k a b = some ([], false) := by
    intro k
    unfold impl_BoundsOf.f
    rw [isSlope_out k a b h]
    rfl
  unfold laws_FnExactBoundsOf.f
  rw [e1, e2]
  simp only [Option.bind_some]
  rw [show laws_eqIntS.f 60 [] [] = some true from by decide +kernel]
  simp only [Option.bind_some, if_true]
  show laws_FnExactBoundsOf.j0 (59 + 1) a b [] false [] (false != false) = some true
  rw [laws_FnExactBoundsOf.j0, if_neg (by decide), show laws_markIntS.f 59 [] 1 = some (1, []) from by decide +kernel]
  simp only [Option.bind_some]
  rw [show laws_heldIntS.f 59 [] 1 = some 1 from by decide +kernel]
  simp only [Option.bind_some]
  rw [if_neg (by decide)]
  simp only [if_true]
  rw [e2]
  simp only [Option.bind_some]
  rw [show laws_eqIntS.f 59 [] [] = some true from by decide +kernel]
  decide +kernel

end FnExactBoundsOf
theorem FnExactBoundsOf : laws_FnExactBoundsOf.Pure := by
  intro a b _ _
  refine ⟨60, ?_⟩
  by_cases h : (1 ≤ a ∧ a ≤ 6) ∧ 1 ≤ b ∧ b ≤ 13
  · exact FnExactBoundsOf.pair_cases a b h (fun a b => laws_FnExactBoundsOf.f 60 a b = some true) FnExactBoundsOf.inside
  · exact FnExactBoundsOf.outside a b h
namespace FnExactBoundsOf

end FnExactBoundsOf
end Go.Proofs.Ytkelnmlmdlhjeaa.Pure
