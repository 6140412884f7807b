/- Planes between two points: none exactly where all sides are alike. Conditions: at most 8 places. -/
import Derived.Test.YthanbhbibjnmjaaPAllx5
import Derived.Test.YthanbhbibjnmjaaPAllx6
import Derived.Test.YthanbhbibjnmjaaBaseA
namespace Go.Proofs.Ythanbhbibjnmjaa.Plain
open Go.RowKit Go.Proofs.YthanbhbibjnmjaaW.PrintWords Go.Proofs.YthanbhbibjnmjaaW.PrintLast Go.Proofs.Ythanbhbibjnmjaa.Hand Go.Proofs.Ythanbhbibjnmjaa.PAll
set_option linter.unusedVariables false
/-- On which side of the plane (i, j, u) a point lies. -/
def side (x : List Int) (i j : Nat) (u : Int) : Bool := decide (wrap64 (rd x (i : Int) - rd x (j : Int)) > u)
def same (x y : List Int) (i j : Nat) : Prop := side x i j 0 = side y i j 0 ∧ side x i j 100 = side y i j 100
theorem pb_step (x y : List Int) (N m i j t : Nat) (u : Int) (hxl : x.length = N) (hyl : y.length = N) (hm : m ≤ 1000000) (hij : i < j) (hj : j < N) (ht : t < 2) (hu : rd ([0, 100] : List Int) (t : Int) = u) (r : Int × Bool)
    (h : Ev (fun k => impl_PlanesBetween.l2 k x y ((m + (if side x i j u = side y i j u then 0 else 1) : Nat) : Int) (j : Int) (i : Int) (N : Int) (j : Int) (j : Int) (i : Int) [0, 100] 2 ((t + 1 : Nat) : Int)) r) :
    Ev (fun k => impl_PlanesBetween.l2 k x y (m : Int) (j : Int) (i : Int) (N : Int) (j : Int) (j : Int) (i : Int) [0, 100] 2 (t : Int)) r := by
  refine Ev.step (f := fun k => impl_PlanesBetween.l2 k x y ((m + (if side x i j u = side y i j u then 0 else 1) : Nat) : Int) (j : Int) (i : Int) (N : Int) (j : Int) (j : Int) (i : Int) [0, 100] 2 ((t + 1 : Nat) : Int)) (fun k => ?_) h
  rw [impl_PlanesBetween.l2, if_pos (by omega), if_pos (by omega), if_pos (by simp; omega), if_pos (by omega), if_pos (by omega), if_pos (by omega), if_pos (by omega), if_pos (by omega), if_pos (by omega), hu, wrap_succ t (by omega)]
  change (if (side x i j u != side y i j u) = true then _ else _) = _
  by_cases e : side x i j u = side y i j u
  · rw [if_pos e, if_neg (by rw [e]; simp)]
    simp only [Nat.add_zero]
  · rw [if_neg e, if_pos (by simpa using e), wrap_succ m (by omega)]
theorem pb_l2 (x y : List Int) (N m i j : Nat) (hN : N ≤ 8) (hxl : x.length = N) (hyl : y.length = N) (hm : m + 2 ≤ 1000000) (hij : i < j) (hj : j < N) :
    ∃ m' : Nat, m ≤ m' ∧ m' ≤ m + 2 ∧ (m' = m ↔ same x y i j) ∧ ∀ r, Ev (fun k => impl_PlanesBetween.l1 k x y (m' : Int) (j : Int) (N : Int) (j : Int) (j : Int) ((i + 1 : Nat) : Int)) r → Ev (fun k => impl_PlanesBetween.l1 k x y (m : Int) (j : Int) (N : Int) (j : Int) (j : Int) (i : Int)) r := by
  obtain ⟨a, ha⟩ : ∃ a : Nat, a = if side x i j 0 = side y i j 0 then 0 else 1 := ⟨_, rfl⟩
  obtain ⟨b, hb⟩ : ∃ b : Nat, b = if side x i j 100 = side y i j 100 then 0 else 1 := ⟨_, rfl⟩
  have ha2 : a ≤ 1 ∧ (a = 0 ↔ side x i j 0 = side y i j 0) := by rw [ha]; split <;> simp_all
  have hb2 : b ≤ 1 ∧ (b = 0 ↔ side x i j 100 = side y i j 100) := by rw [hb]; split <;> simp_all
  refine ⟨m + a + b, by omega, by omega, ⟨fun e => ⟨ha2.2.1 (by omega), hb2.2.1 (by omega)⟩, fun e => by have := ha2.2.2 e.1; have := hb2.2.2 e.2; omega⟩, fun r h => ?_⟩
  refine Ev.step (f := fun k => impl_PlanesBetween.l2 k x y (m : Int) (j : Int) (i : Int) (N : Int) (j : Int) (j : Int) (i : Int) [0, 100] 2 ((0 : Nat) : Int)) (fun k => ?_) ?_
  · rw [impl_PlanesBetween.l1, if_pos (by omega)]
    rfl
  refine pb_step x y N m i j 0 0 hxl hyl (by omega) hij hj (by omega) rfl r ?_
  rw [← ha]
  refine pb_step x y N (m + a) i j 1 100 hxl hyl (by omega) hij hj (by omega) rfl r ?_
  rw [← hb]
  refine Ev.step (f := fun k => impl_PlanesBetween.l1 k x y ((m + a + b : Nat) : Int) (j : Int) (N : Int) (j : Int) (j : Int) ((i + 1 : Nat) : Int)) (fun k => ?_) h
  rw [impl_PlanesBetween.l2, if_neg (by omega), wrap_succ i (by omega)]
theorem pb_l1 (x y : List Int) (N j : Nat) (hN : N ≤ 8) (hxl : x.length = N) (hyl : y.length = N) (hj : j < N) : ∀ (d i m : Nat), i + d = j → m + 2 * d ≤ 1000000 →
    ∃ m' : Nat, m ≤ m' ∧ m' ≤ m + 2 * d ∧ (m' = m ↔ ∀ i', i ≤ i' → i' < j → same x y i' j) ∧ ∀ r, Ev (fun k => impl_PlanesBetween.l0 k x y (m' : Int) (N : Int) ((j + 1 : Nat) : Int)) r → Ev (fun k => impl_PlanesBetween.l1 k x y (m : Int) (j : Int) (N : Int) (j : Int) (j : Int) (i : Int)) r := by
  intro d
  induction d with
  | zero =>
    intro i m hi hm
    refine ⟨m, by omega, by omega, ⟨fun _ i' h1 h2 => by omega, fun _ => rfl⟩, fun r h => ?_⟩
    refine Ev.step (f := fun k => impl_PlanesBetween.l0 k x y (m : Int) (N : Int) ((j + 1 : Nat) : Int)) (fun k => ?_) h
    rw [impl_PlanesBetween.l1, if_neg (by omega), wrap_succ j (by omega)]
  | succ d ih =>
    intro i m hi hm
    obtain ⟨m1, a1, a2, a3, a4⟩ := pb_l2 x y N m i j hN hxl hyl (by omega) (by omega) hj
    obtain ⟨m2, b1, b2, b3, b4⟩ := ih (i + 1) m1 (by omega) (by omega)
    refine ⟨m2, by omega, by omega, ⟨fun e i' h1 h2 => ?_, fun e => ?_⟩, fun r h => a4 r (b4 r h)⟩
    · by_cases c : i' = i
      · rw [c]; exact a3.1 (by omega)
      · exact b3.1 (by omega) i' (by omega) h2
    · have e1 := a3.2 (e i (Nat.le_refl _) (by omega))
      have e2 := b3.2 (fun i' h1 h2 => e i' (by omega) h2)
      omega
theorem pb_l0 (x y : List Int) (N : Nat) (hxl : x.length = N) (hyl : y.length = N) (hN : N ≤ 8) : ∀ (d j m : Nat), j + d = N → m + 16 * d ≤ 1000000 →
    ∃ m' : Nat, m ≤ m' ∧ (m' = m ↔ ∀ j', j ≤ j' → j' < N → ∀ i', i' < j' → same x y i' j') ∧ Ev (fun k => impl_PlanesBetween.l0 k x y (m : Int) (N : Int) (j : Int)) ((m' : Int), true) := by
  intro d
  induction d with
  | zero =>
    intro j m hi hm
    refine ⟨m, by omega, ⟨fun _ j' h1 h2 => by omega, fun _ => rfl⟩, ?_⟩
    refine Ev.step (f := fun _ => some ((m : Int), true)) (fun k => ?_) (Ev.now _)
    rw [impl_PlanesBetween.l0, if_neg (by omega)]
  | succ d ih =>
    intro j m hi hm
    obtain ⟨m1, a1, a2, a3, a4⟩ := pb_l1 x y N j hN hxl hyl (by omega) j 0 m (by omega) (by omega)
    obtain ⟨m2, b1, b3, b4⟩ := ih (j + 1) m1 (by omega) (by omega)
    refine ⟨m2, by omega, ⟨fun e j' h1 h2 i' h3 => ?_, fun e => ?_⟩, ?_⟩
    · by_cases c : j' = j
      · subst c; exact a3.1 (by omega) i' (Nat.zero_le _) h3
      · exact b3.1 (by omega) j' (by omega) h2 i' h3
    · have e1 := a3.2 (fun i' _ h2 => e j (Nat.le_refl _) (by omega) i' h2)
      have e2 := b3.2 (fun j' h1 h2 => e j' (by omega) h2)
      omega
    · refine Ev.step (f := fun k => impl_PlanesBetween.l1 k x y (m : Int) (j : Int) (N : Int) (j : Int) (j : Int) ((0 : Nat) : Int)) (fun k => ?_) (a4 _ b4)
      rw [impl_PlanesBetween.l0, if_pos (by omega)]
      rfl
/-- The sides of all planes. -/
def sides (x : List Int) (N : Nat) : List (List (Bool × Bool)) := (List.range N).map fun j => (List.range j).map fun i => (side x i j 0, side x i j 100)
theorem sides_iff (x y : List Int) (N : Nat) : sides x N = sides y N ↔ ∀ j', 0 ≤ j' → j' < N → ∀ i', i' < j' → same x y i' j' := by
  unfold sides
  rw [List.map_inj_left]
  constructor
  · intro h j _ hj i hi
    have h1 := (List.map_inj_left.1 (h j (List.mem_range.2 hj))) i (List.mem_range.2 hi)
    exact ⟨congrArg Prod.fst h1, congrArg Prod.snd h1⟩
  · intro h j hj
    rw [List.map_inj_left]
    intro i hi
    have h1 := h j (Nat.zero_le _) (List.mem_range.1 hj) i (List.mem_range.1 hi)
    exact Prod.ext h1.1 h1.2
theorem planes_ev (x y : List Int) (N : Nat) (hxl : x.length = N) (hyl : y.length = N) (hN : N ≤ 8) (hx : Ev (fun k => impl_isPoint.f k x) true) (hy : Ev (fun k => impl_isPoint.f k y) true) :
    ∃ m : Nat, (m = 0 ↔ sides x N = sides y N) ∧ Ev (fun k => impl_PlanesBetween.f k x y) ((m : Int), true) := by
  obtain ⟨m, h0, h1, h2⟩ := pb_l0 x y N hxl hyl hN N 0 0 (by omega) (by omega)
  refine ⟨m, h1.trans (sides_iff x y N).symm, ?_⟩
  unfold impl_PlanesBetween.f
  refine Ev.bind hx (Ev.pos rfl (Ev.bind hy (Ev.pos rfl ?_)))
  refine Ev.step (f := fun k => impl_PlanesBetween.l0 k x y ((0 : Nat) : Int) (N : Int) ((0 : Nat) : Int)) (fun k => ?_) h2
  rw [hxl, hyl, impl_PlanesBetween.j0, if_neg (by simp), hxl]
  rfl
end Go.Proofs.Ythanbhbibjnmjaa.Plain
