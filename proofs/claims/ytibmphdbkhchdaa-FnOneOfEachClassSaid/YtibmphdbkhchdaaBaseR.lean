/- Slopes and their bounds, as the program and the reference tell them. No condition beside a slope. -/
import Derived.Test.YtibmphdbkhchdaaPAllx1
import Derived.Test.YtibmphdbkhchdaaPAllx2
import Derived.Test.YtibmphdbkhchdaaBaseE
namespace Go.Proofs.Ytibmphdbkhchdaa.Plain
open Go.RowKit Go.Proofs.YtibmphdbkhchdaaW.PrintWords Go.Proofs.YtibmphdbkhchdaaW.PrintLast Go.Proofs.Ytibmphdbkhchdaa.Hand Go.Proofs.Ytibmphdbkhchdaa.PAll
set_option linter.unusedVariables false

/-- Numbers are a slope. -/
def slope (n a : Int) : Bool := decide (1 ≤ n ∧ n ≤ 6) && (decide (1 ≤ a ∧ a ≤ 13) && decide (Int.gcd n a = 1))
theorem slope_in {n a : Int} (h : slope n a = true) : (1 ≤ n ∧ n ≤ 6) ∧ 1 ≤ a ∧ a ≤ 13 := by
  unfold slope at h
  simp only [Bool.and_eq_true, decide_eq_true_eq] at h
  exact ⟨h.1, h.2.1⟩
theorem slope_pairs (P : Int → Int → Prop) (hp : ∀ n : Fin 6, ∀ m : Fin 13, P ((n.1 : Int) + 1) ((m.1 : Int) + 1)) {a b : Int} (h : (1 ≤ a ∧ a ≤ 6) ∧ 1 ≤ b ∧ b ≤ 13) : P a b := by
  have e := hp ⟨(a - 1).toNat, by omega⟩ ⟨(b - 1).toNat, by omega⟩
  have ea : (((a - 1).toNat : Int)) + 1 = a := by omega
  have eb : (((b - 1).toNat : Int)) + 1 = b := by omega
  simp only [ea, eb] at e
  exact e
theorem slIs_fin : ∀ n : Fin 6, ∀ m : Fin 13, spec_slIs.f 60 ((n.1 : Int) + 1) ((m.1 : Int) + 1) = some (slope ((n.1 : Int) + 1) ((m.1 : Int) + 1)) := by decide +kernel
theorem isSlope_fin : ∀ n : Fin 6, ∀ m : Fin 13, impl_isSlope.f 60 ((n.1 : Int) + 1) ((m.1 : Int) + 1) = some (slope ((n.1 : Int) + 1) ((m.1 : Int) + 1)) := by decide +kernel
theorem slope_out {a b : Int} (h : ¬ ((1 ≤ a ∧ a ≤ 6) ∧ 1 ≤ b ∧ b ≤ 13)) : slope a b = false := by
  cases h2 : slope a b with
  | false => rfl
  | true => exact absurd (slope_in h2) h
theorem slIs_ev (a b : Int) : Ev (fun k => spec_slIs.f k a b) (slope a b) := by
  by_cases h : (1 ≤ a ∧ a ≤ 6) ∧ 1 ≤ b ∧ b ≤ 13
  · exact Ev.of (k := 60) (fun k => spec_slIs.mono a b k) (slope_pairs (fun a b => spec_slIs.f 60 a b = some (slope a b)) slIs_fin h)
  · rw [slope_out h]
    unfold spec_slIs.f
    refine Ev.bindc (l1In_eq a 1 6) ?_
    by_cases h1 : 1 ≤ a ∧ a ≤ 6
    · rw [decide_eq_true h1]
      refine Ev.pos rfl (Ev.bindc (l1In_eq b 1 13) ?_)
      rw [decide_eq_false (fun h2 => h ⟨h1, h2⟩)]
      refine Ev.step (f := fun _ => some false) (fun k => ?_) (Ev.now _)
      rw [spec_slIs.j0, if_pos (by decide)]
    · rw [decide_eq_false h1]
      refine Ev.neg (by decide) (Ev.step (f := fun _ => some false) (fun k => ?_) (Ev.now _))
      rw [spec_slIs.j0, if_pos (by decide)]
theorem isSlope_ev (a b : Int) : Ev (fun k => impl_isSlope.f k a b) (slope a b) := by
  by_cases h : (1 ≤ a ∧ a ≤ 6) ∧ 1 ≤ b ∧ b ≤ 13
  · exact Ev.of (k := 60) (fun k => impl_isSlope.mono a b k) (slope_pairs (fun a b => impl_isSlope.f 60 a b = some (slope a b)) isSlope_fin h)
  · rw [slope_out h]
    unfold impl_isSlope.f
    refine Ev.bindc (between_eq a 1 6) ?_
    by_cases h1 : 1 ≤ a ∧ a ≤ 6
    · rw [decide_eq_true h1]
      refine Ev.pos rfl (Ev.bindc (between_eq b 1 13) ?_)
      rw [decide_eq_false (fun h2 => h ⟨h1, h2⟩)]
      exact Ev.neg (by decide) (Ev.now _)
    · rw [decide_eq_false h1]
      exact Ev.neg (by decide) (Ev.now _)

/-- The bounds of a slope. -/
def bnds (n a : Int) : List Int := (List.range n.toNat).map fun i : Nat => ((i : Int) * a) / n
theorem bnds_length (n a : Int) : (bnds n a).length = n.toNat := by simp [bnds]
theorem slBounds_fin : ∀ n : Fin 6, ∀ m : Fin 13, spec_slBounds.f 60 ((n.1 : Int) + 1) ((m.1 : Int) + 1) = some (bnds ((n.1 : Int) + 1) ((m.1 : Int) + 1)) := by decide +kernel
theorem bounds_fin : ∀ n : Fin 6, ∀ m : Fin 13, impl_bounds.f 60 ((n.1 : Int) + 1) ((m.1 : Int) + 1) = some (bnds ((n.1 : Int) + 1) ((m.1 : Int) + 1)) := by decide +kernel
theorem bnds_fin : ∀ n : Fin 6, ∀ m : Fin 13, ∀ b ∈ bnds ((n.1 : Int) + 1) ((m.1 : Int) + 1), 0 ≤ b ∧ b < (m.1 : Int) + 1 := by decide +kernel
theorem slBounds_ev {a b : Int} (h : slope a b = true) : Ev (fun k => spec_slBounds.f k a b) (bnds a b) :=
  Ev.of (k := 60) (fun k => spec_slBounds.mono a b k) (slope_pairs (fun a b => spec_slBounds.f 60 a b = some (bnds a b)) slBounds_fin (slope_in h))
theorem bounds_ev {a b : Int} (h : slope a b = true) : Ev (fun k => impl_bounds.f k a b) (bnds a b) :=
  Ev.of (k := 60) (fun k => impl_bounds.mono a b k) (slope_pairs (fun a b => impl_bounds.f 60 a b = some (bnds a b)) bounds_fin (slope_in h))
theorem bnds_lt {a b : Int} (h : slope a b = true) : ∀ x ∈ bnds a b, 0 ≤ x ∧ x < b :=
  slope_pairs (fun a b => ∀ x ∈ bnds a b, 0 ≤ x ∧ x < b) bnds_fin (slope_in h)

theorem l1Own_eq (l : List Int) (hs : l.length ≤ 1099511627776) : spec_l1Own.f l = some l := by
  unfold spec_l1Own.f
  simp only [Option.bind_some, List.nil_append]
  rw [if_pos (by simp; omega)]
end Go.Proofs.Ytibmphdbkhchdaa.Plain
