/- FnAllRegionsListed: the plain law. For n from 0 to 4 the kernel reckons all the lists (printed by wip/gen/mkregions.py); the sides of the points tell them apart. -/
import Derived.Test.YthanbhbibjnmjaaPAllx1
import Derived.Test.YthanbhbibjnmjaaPAllx2
import Derived.Test.YthanbhbibjnmjaaPAllx4
import Derived.Test.YthanbhbibjnmjaaPAllx5
import Derived.Test.YthanbhbibjnmjaaPAllx6
import Derived.Test.YthanbhbibjnmjaaBaseDr
import Derived.Test.YthanbhbibjnmjaaBaseWs
import Derived.Test.YthanbhbibjnmjaaBasePb
import Derived.Test.YthanbhbibjnmjaaBaseO
namespace Go.Proofs.Ythanbhbibjnmjaa.Pure
open Go.RowKit Go.Proofs.YthanbhbibjnmjaaW.PrintWords Go.Proofs.YthanbhbibjnmjaaW.PrintLast Go.Proofs.Ythanbhbibjnmjaa.Hand Go.Proofs.Ythanbhbibjnmjaa.PAll Go.Proofs.Ythanbhbibjnmjaa.Plain
set_option linter.unusedVariables false
set_option maxRecDepth 100000
namespace AllReg
theorem up {α : Type} {g : Nat → Option α} (hm : ∀ k, LeO (g k) (g (k + 1))) {k0 : Nat} {r : α} (h : g k0 = some r) : Ev g r := by
  refine ⟨k0, fun k hk => ?_⟩
  induction hk with
  | refl => exact h
  | step _ ih => exact hm _ _ ih
def flat (A : List S33) : List (List Int × List Int) := A.map fun r => (r.f0, r.f1)
def okR (N : Nat) (z : S33 × List Int × List Int) : Bool :=
  decide (z.1.f0.Nodup) && z.1.f0.all (fun x => decide (0 ≤ x ∧ x < (z.1.f0.length : Int))) && decide (z.2.2.length = N ∧ z.2.1.length ≤ 8 ∧ z.1.f0.length ≤ 8 ∧ z.1.f1.length = z.1.f0.length) && decide (impl_isPoint.f 400 z.2.2 = some true) &&
  decide (impl_isRegion.j0 400 ((z.1.f1.length : Int) != (z.1.f0.length : Int)) z.1.f0 z.1.f1 = some true) && decide (impl_LabelOfRegion.l0 400 (List.replicate z.1.f0.length 0) z.1.f0 (z.1.f0.length : Int) 0 z.1.f0 z.1.f1 = some (z.2.1, true)) &&
  decide ((ptT z.1.f1 z.1.f0.length 400 (List.replicate z.1.f0.length 0, true)).map (fun m => ptOut z.1.f0 m z.1.f0.length) = some z.2.2)
theorem isOrd (l : List Int) (h8 : l.length ≤ 8) (hn : l.Nodup) (hi : ∀ x ∈ l, 0 ≤ x ∧ x < (l.length : Int)) : Ev (fun k => impl_isOrder.f k l) true := by
  have h := isOrder_ev l (by omega)
  have e : order l = true := by
    unfold order
    rw [decide_eq_true ((order_iff l).2 ⟨hn, hi⟩), decide_eq_true h8]
    rfl
  rwa [e] at h
structure Tab (n : Int) (N : Nat) (A : List S33) (P X : List (List Int)) : Prop where
  a1 : (impl_AllRegions.f 400 n).map (fun z => (flat z.1, z.2)) = some (flat A, true)
  a2 : (spec_AllRegions.f 400 n).map (fun z => (flat z.1, z.2)) = some (flat A, true)
  p : impl_AllParking.f 400 n = some (P, true)
  len : A.length = P.length ∧ A.length = X.length ∧ 0 < A.length ∧ A.length ≤ 1000
  row : (A.zip (P.zip X)).all (okR N) = true
  nd : (X.map (fun x => sides x N)).Nodup
  n8 : N ≤ 8
theorem flat_inj {A B : List S33} (h : flat A = flat B) : A = B := by
  refine List.map_inj_right (f := fun r : S33 => (r.f0, r.f1)) (fun x y e => ?_) |>.1 h
  cases x; cases y; simp only [Prod.mk.injEq] at e; rw [e.1, e.2]
theorem of_flat {o : Option (List S33 × Bool)} {A : List S33} (h : o.map (fun z => (flat z.1, z.2)) = some (flat A, true)) : o = some (A, true) := by
  cases o with
  | none => cases h
  | some z =>
    obtain ⟨a, b⟩ := z
    simp only [Option.map_some, Option.some.injEq, Prod.mk.injEq] at h
    rw [flat_inj h.1, h.2]
section
variable {n : Int} {N : Nat} {A : List S33} {P X : List (List Int)}
theorem at_row (T : Tab n N A P X) (i : Nat) (hi : i < A.length) :
    Ev (fun k => impl_LabelOfRegion.f k A[i].f0 A[i].f1) (P[i]'(by have := T.len; omega), true) ∧ Ev (fun k => impl_PointOfRegion.f k A[i].f0 A[i].f1) (X[i]'(by have := T.len; omega), true) ∧ Ev (fun k => impl_isPoint.f k (X[i]'(by have := T.len; omega))) true ∧
    (X[i]'(by have := T.len; omega)).length = N ∧ (P[i]'(by have := T.len; omega)).length ≤ 8 ∧ A[i].f0.length ≤ 8 ∧ A[i].f1.length ≤ 8 := by
  have hl := T.len
  have h := List.all_eq_true.1 T.row (A[i], P[i]'(by omega), X[i]'(by omega)) (by
    have hz : i < (A.zip (P.zip X)).length := by rw [List.length_zip, List.length_zip]; omega
    have := List.getElem_mem hz
    rwa [List.getElem_zip, List.getElem_zip] at this)
  generalize A[i] = r at h ⊢
  generalize P[i]'(by omega) = p at h ⊢
  generalize X[i]'(by omega) = x at h ⊢
  unfold okR at h
  simp only [Bool.and_eq_true, decide_eq_true_eq, List.all_eq_true] at h
  obtain ⟨⟨⟨⟨⟨⟨h1, h2⟩, h3, h4, h5, h6⟩, h7⟩, h8⟩, h9⟩, h10⟩ := h
  have hr : Ev (fun k => impl_isRegion.f k r.f0 r.f1) true := by
    unfold impl_isRegion.f
    exact Ev.bind (isOrd r.f0 h5 h1 h2) (Ev.pos rfl (up (fun k => (impl_isRegion.mono_l k).1 _ _ _) h8))
  refine ⟨?_, ?_, up (fun k => impl_isPoint.mono _ k) h7, h3, h4, h5, by omega⟩
  · unfold impl_LabelOfRegion.f
    refine Ev.bind hr (Ev.pos rfl (Ev.pos (by omega) (Ev.pos (by omega) ?_)))
    rw [Int.toNat_natCast]
    exact up (fun k => impl_LabelOfRegion.mono_l k _ _ _ _ _ _) h9
  · unfold impl_PointOfRegion.f
    refine Ev.bind hr (Ev.pos rfl (Ev.pos ⟨h5, h6, List.all_eq_true.2 fun x hx => decide_eq_true (h2 x hx)⟩ ?_))
    obtain ⟨m, hm, e⟩ := Option.map_eq_some_iff.1 h10
    refine Ev.bind (up (fun k => ptT_mono _ _ k _) hm) ?_
    rw [e]
    exact Ev.now _
theorem rdT (i : Nat) (hi : i < A.length) : rd_T33 A (i : Int) = A[i] := by
  unfold rd_T33
  rw [Int.toNat_natCast, List.getD_eq_getElem?_getD, List.getElem?_eq_getElem hi]
  rfl
theorem wReg (r : S33) (h0 : r.f0.length ≤ 8) (h1 : r.f1.length ≤ 8) : Ev (fun k => laws_wSameRegion.f k r.f0 r.f1 r.f0 r.f1) true := by
  unfold laws_wSameRegion.f
  exact Ev.bind (wSame_ev _ (by omega)) (Ev.pos rfl (Ev.bind (wSame_ev _ (by omega)) (Ev.now _)))
theorem loop (T : Tab n N A P X) (l0 l1 : List Int) (h0 : l0.length ≤ 2000000) (h1 : l1.length ≤ 2000000) : ∀ d i : Nat, i + d = A.length →
    Ev (fun k => laws_FnAllRegionsListed.l0 k l0 l1 A A P A (A.length : Int) (i : Int)) true := by
  have hl := T.len
  intro d
  induction d with
  | zero =>
    intro i hi
    obtain ⟨a, ha⟩ : ∃ a : Nat, (a : Int) = (l1.length : Int) % (A.length : Int) := ⟨((l1.length : Int) % (A.length : Int)).toNat, Int.toNat_of_nonneg (Int.emod_nonneg _ (by omega))⟩
    obtain ⟨b, hb⟩ : ∃ b : Nat, (b : Int) = Int.tmod (wrap64 ((l1.length : Int) + (l0.length : Int))) (A.length : Int) := ⟨(Int.tmod (wrap64 ((l1.length : Int) + (l0.length : Int))) (A.length : Int)).toNat, Int.toNat_of_nonneg (by rw [wrap64_in _ (by omega) (by omega)]; exact Int.tmod_nonneg _ (by omega))⟩
    have a1 : a < A.length := by have := Int.emod_lt_of_pos (l1.length : Int) (b := (A.length : Int)) (by omega); omega
    have b1 : b < A.length := by
      have := Int.tmod_lt_of_pos (wrap64 ((l1.length : Int) + (l0.length : Int))) (b := (A.length : Int)) (by omega)
      omega
    obtain ⟨_, ra, pa, xa, _⟩ := at_row T a a1
    obtain ⟨_, rb, pb, xb, _⟩ := at_row T b b1
    obtain ⟨m, hm, hp⟩ := planes_ev _ _ N xa xb T.n8 pa pb
    have he : (m = 0 ↔ a = b) := by
      rw [hm]
      constructor
      · intro e
        have hnd := T.nd
        have := (List.getElem_inj (i := a) (j := b) (h₀ := by rw [List.length_map]; omega) (h₁ := by rw [List.length_map]; omega) hnd).1 (by rw [List.getElem_map, List.getElem_map]; exact e)
        exact this
      · intro e
        subst e
        rfl
    refine Ev.step (f := ?f1) (fun k => ?h1) ?g1
    case h1 => rw [laws_FnAllRegionsListed.l0, if_neg (by omega), if_neg (by omega), ← ha, ← hb, if_pos (by omega), if_pos (by omega), rdT a a1, rdT b b1]
    refine Ev.bind ra (Ev.pos (by omega) (Ev.pos (by omega) (Ev.bind rb (Ev.bind hp (Ev.pos rfl (Ev.pos rfl (Ev.pos rfl (Ev.const ?_))))))))
    by_cases e : a = b
    · have := he.2 e
      subst e
      rw [this]
      simp
    · have h2 : m ≠ 0 := fun h => e (he.1 h)
      have h3 : ((m : Int) == 0) = false := beq_eq_false_iff_ne.2 (by omega)
      have h4 : ((a : Int) == (b : Int)) = false := beq_eq_false_iff_ne.2 (by omega)
      dsimp only
      rw [h3, h4]
      rfl
  | succ d ih =>
    intro i hi
    have hlt : i < A.length := by omega
    obtain ⟨hL, _, _, _, hp8, h08, h18⟩ := at_row T i hlt
    have eP : rd_L2 P (i : Int) = P[i]'(by omega) := by
      unfold rd_L2
      rw [Int.toNat_natCast, List.getD_eq_getElem?_getD, List.getElem?_eq_getElem (show i < P.length by omega)]
      rfl
    refine Ev.step (f := ?f2) (fun k => ?h2) ?g2
    case h2 => rw [laws_FnAllRegionsListed.l0, if_pos (by omega), if_pos (by omega), if_pos (by omega), rdT i hlt, eP]
    refine Ev.bind hL (Ev.pos rfl (Ev.pos (by omega) (Ev.bind (wSame_ev _ (by dsimp only; omega)) (Ev.pos rfl (Ev.pos (by omega) (Ev.bind (wReg _ h08 h18) (Ev.pos rfl ?_)))))))
    rw [wrap_succ i (by omega)]
    exact ih (i + 1) (by omega)
theorem one (T : Tab n N A P X) {g : Nat → (List S33 × Bool) → (List S33 × Bool) → Option Bool} (hg : Ev (fun k => g k (A, true) (A, true)) true) :
    Ev (fun k => (impl_AllRegions.f k n).bind fun a => (spec_AllRegions.f k n).bind fun b => g k a b) true :=
  Ev.bind (up (fun k => impl_AllRegions.mono _ k) (of_flat T.a1)) (Ev.bind (up (fun k => spec_AllRegions.mono _ k) (of_flat T.a2)) hg)
end
def reg0 : List S33 := [⟨[], []⟩]
def lab0 : List (List Int) := [[]]
def pts0 : List (List Int) := [[]]
set_option maxHeartbeats 16000000 in
theorem fact0 : Tab 0 0 reg0 lab0 pts0 := by
  refine ⟨?_, ?_, ?_, ?_, ?_, ?_, ?_⟩ <;> decide +kernel
def reg1 : List S33 := [⟨[0], [0]⟩]
def lab1 : List (List Int) := [[0]]
def pts1 : List (List Int) := [[0]]
set_option maxHeartbeats 16000000 in
theorem fact1 : Tab 1 1 reg1 lab1 pts1 := by
  refine ⟨?_, ?_, ?_, ?_, ?_, ?_, ?_⟩ <;> decide +kernel
def reg2 : List S33 := [⟨[0, 1], [0, 0]⟩, ⟨[0, 1], [0, 1]⟩, ⟨[1, 0], [0, 0]⟩]
def lab2 : List (List Int) := [[0, 0], [0, 1], [1, 0]]
def pts2 : List (List Int) := [[0, -1], [0, -101], [-1, 0]]
set_option maxHeartbeats 16000000 in
theorem fact2 : Tab 2 2 reg2 lab2 pts2 := by
  refine ⟨?_, ?_, ?_, ?_, ?_, ?_, ?_⟩ <;> decide +kernel
def reg3 : List S33 := [⟨[0, 1, 2], [0, 0, 0]⟩, ⟨[0, 1, 2], [0, 0, 1]⟩, ⟨[0, 1, 2], [0, 0, 2]⟩, ⟨[0, 2, 1], [0, 0, 0]⟩, ⟨[0, 1, 2], [0, 1, 1]⟩, ⟨[0, 1, 2], [0, 1, 2]⟩, ⟨[0, 2, 1], [0, 0, 1]⟩, ⟨[0, 2, 1], [0, 1, 1]⟩, ⟨[1, 0, 2], [0, 0, 0]⟩, ⟨[1, 0, 2], [0, 0, 1]⟩, ⟨[1, 0, 2], [0, 0, 2]⟩, ⟨[2, 0, 1], [0, 0, 0]⟩, ⟨[2, 0, 1], [0, 0, 2]⟩, ⟨[1, 2, 0], [0, 0, 0]⟩, ⟨[1, 2, 0], [0, 1, 1]⟩, ⟨[2, 1, 0], [0, 0, 0]⟩]
def lab3 : List (List Int) := [[0, 0, 0], [0, 0, 1], [0, 0, 2], [0, 1, 0], [0, 1, 1], [0, 1, 2], [0, 2, 0], [0, 2, 1], [1, 0, 0], [1, 0, 1], [1, 0, 2], [1, 1, 0], [1, 2, 0], [2, 0, 0], [2, 0, 1], [2, 1, 0]]
def pts3 : List (List Int) := [[0, -1, -2], [0, -2, -101], [0, -1, -102], [0, -2, -1], [0, -101, -102], [0, -101, -202], [0, -101, -2], [0, -102, -101], [-1, 0, -2], [-2, 0, -101], [-1, 0, -102], [-1, -2, 0], [-1, -102, 0], [-2, 0, -1], [-102, 0, -101], [-2, -1, 0]]
set_option maxHeartbeats 16000000 in
theorem fact3 : Tab 3 3 reg3 lab3 pts3 := by
  refine ⟨?_, ?_, ?_, ?_, ?_, ?_, ?_⟩ <;> decide +kernel
def reg4 : List S33 := [⟨[0, 1, 2, 3], [0, 0, 0, 0]⟩, ⟨[0, 1, 2, 3], [0, 0, 0, 1]⟩, ⟨[0, 1, 2, 3], [0, 0, 0, 2]⟩, ⟨[0, 1, 2, 3], [0, 0, 0, 3]⟩, ⟨[0, 1, 3, 2], [0, 0, 0, 0]⟩, ⟨[0, 1, 2, 3], [0, 0, 1, 1]⟩, ⟨[0, 1, 2, 3], [0, 0, 1, 2]⟩, ⟨[0, 1, 2, 3], [0, 0, 1, 3]⟩, ⟨[0, 1, 3, 2], [0, 0, 0, 1]⟩, ⟨[0, 1, 3, 2], [0, 0, 1, 1]⟩, ⟨[0, 1, 2, 3], [0, 0, 2, 2]⟩, ⟨[0, 1, 2, 3], [0, 0, 2, 3]⟩, ⟨[0, 1, 3, 2], [0, 0, 0, 2]⟩, ⟨[0, 1, 3, 2], [0, 0, 1, 2]⟩, ⟨[0, 1, 3, 2], [0, 0, 2, 2]⟩, ⟨[0, 2, 1, 3], [0, 0, 0, 0]⟩, ⟨[0, 2, 1, 3], [0, 0, 0, 1]⟩, ⟨[0, 2, 1, 3], [0, 0, 0, 2]⟩, ⟨[0, 2, 1, 3], [0, 0, 0, 3]⟩, ⟨[0, 3, 1, 2], [0, 0, 0, 0]⟩, ⟨[0, 1, 2, 3], [0, 1, 1, 1]⟩, ⟨[0, 1, 2, 3], [0, 1, 1, 2]⟩, ⟨[0, 1, 2, 3], [0, 1, 1, 3]⟩, ⟨[0, 3, 1, 2], [0, 0, 0, 1]⟩, ⟨[0, 1, 3, 2], [0, 1, 1, 1]⟩, ⟨[0, 1, 2, 3], [0, 1, 2, 2]⟩, ⟨[0, 1, 2, 3], [0, 1, 2, 3]⟩, ⟨[0, 3, 1, 2], [0, 0, 0, 3]⟩, ⟨[0, 1, 3, 2], [0, 1, 1, 2]⟩, ⟨[0, 1, 3, 2], [0, 1, 2, 2]⟩, ⟨[0, 2, 3, 1], [0, 0, 0, 0]⟩, ⟨[0, 2, 1, 3], [0, 0, 1, 1]⟩, ⟨[0, 2, 1, 3], [0, 0, 1, 2]⟩, ⟨[0, 2, 1, 3], [0, 0, 1, 3]⟩, ⟨[0, 3, 2, 1], [0, 0, 0, 0]⟩, ⟨[0, 2, 1, 3], [0, 1, 1, 1]⟩, ⟨[0, 2, 1, 3], [0, 1, 1, 2]⟩, ⟨[0, 2, 1, 3], [0, 1, 1, 3]⟩, ⟨[0, 3, 1, 2], [0, 0, 1, 1]⟩, ⟨[0, 3, 1, 2], [0, 1, 1, 1]⟩, ⟨[0, 3, 1, 2], [0, 0, 1, 3]⟩, ⟨[0, 3, 1, 2], [0, 1, 1, 3]⟩, ⟨[0, 2, 3, 1], [0, 0, 0, 1]⟩, ⟨[0, 2, 3, 1], [0, 0, 1, 1]⟩, ⟨[0, 2, 3, 1], [0, 0, 2, 2]⟩, ⟨[0, 3, 2, 1], [0, 0, 0, 1]⟩, ⟨[0, 2, 3, 1], [0, 1, 1, 1]⟩, ⟨[0, 2, 3, 1], [0, 1, 2, 2]⟩, ⟨[0, 3, 2, 1], [0, 0, 1, 1]⟩, ⟨[0, 3, 2, 1], [0, 1, 1, 1]⟩, ⟨[1, 0, 2, 3], [0, 0, 0, 0]⟩, ⟨[1, 0, 2, 3], [0, 0, 0, 1]⟩, ⟨[1, 0, 2, 3], [0, 0, 0, 2]⟩, ⟨[1, 0, 2, 3], [0, 0, 0, 3]⟩, ⟨[1, 0, 3, 2], [0, 0, 0, 0]⟩, ⟨[1, 0, 2, 3], [0, 0, 1, 1]⟩, ⟨[1, 0, 2, 3], [0, 0, 1, 2]⟩, ⟨[1, 0, 2, 3], [0, 0, 1, 3]⟩, ⟨[1, 0, 3, 2], [0, 0, 0, 1]⟩, ⟨[1, 0, 3, 2], [0, 0, 1, 1]⟩, ⟨[1, 0, 2, 3], [0, 0, 2, 2]⟩, ⟨[1, 0, 2, 3], [0, 0, 2, 3]⟩, ⟨[1, 0, 3, 2], [0, 0, 0, 2]⟩, ⟨[1, 0, 3, 2], [0, 0, 1, 2]⟩, ⟨[1, 0, 3, 2], [0, 0, 2, 2]⟩, ⟨[2, 0, 1, 3], [0, 0, 0, 0]⟩, ⟨[2, 0, 1, 3], [0, 0, 0, 1]⟩, ⟨[2, 0, 1, 3], [0, 0, 0, 2]⟩, ⟨[2, 0, 1, 3], [0, 0, 0, 3]⟩, ⟨[3, 0, 1, 2], [0, 0, 0, 0]⟩, ⟨[3, 0, 1, 2], [0, 0, 0, 2]⟩, ⟨[3, 0, 1, 2], [0, 0, 0, 3]⟩, ⟨[2, 0, 3, 1], [0, 0, 0, 0]⟩, ⟨[2, 0, 3, 1], [0, 0, 1, 1]⟩, ⟨[2, 0, 1, 3], [0, 0, 2, 2]⟩, ⟨[2, 0, 1, 3], [0, 0, 2, 3]⟩, ⟨[3, 0, 2, 1], [0, 0, 0, 0]⟩, ⟨[3, 0, 1, 2], [0, 0, 2, 2]⟩, ⟨[3, 0, 1, 2], [0, 0, 2, 3]⟩, ⟨[2, 0, 3, 1], [0, 0, 0, 2]⟩, ⟨[2, 0, 3, 1], [0, 0, 1, 2]⟩, ⟨[2, 0, 3, 1], [0, 0, 2, 2]⟩, ⟨[3, 0, 2, 1], [0, 0, 0, 2]⟩, ⟨[3, 0, 2, 1], [0, 0, 2, 2]⟩, ⟨[1, 2, 0, 3], [0, 0, 0, 0]⟩, ⟨[1, 2, 0, 3], [0, 0, 0, 1]⟩, ⟨[1, 2, 0, 3], [0, 0, 0, 2]⟩, ⟨[1, 2, 0, 3], [0, 0, 0, 3]⟩, ⟨[1, 3, 0, 2], [0, 0, 0, 0]⟩, ⟨[1, 2, 0, 3], [0, 1, 1, 1]⟩, ⟨[1, 2, 0, 3], [0, 1, 1, 2]⟩, ⟨[1, 2, 0, 3], [0, 1, 1, 3]⟩, ⟨[1, 3, 0, 2], [0, 0, 0, 1]⟩, ⟨[1, 3, 0, 2], [0, 1, 1, 1]⟩, ⟨[1, 3, 0, 2], [0, 0, 0, 3]⟩, ⟨[1, 3, 0, 2], [0, 1, 1, 3]⟩, ⟨[2, 1, 0, 3], [0, 0, 0, 0]⟩, ⟨[2, 1, 0, 3], [0, 0, 0, 1]⟩, ⟨[2, 1, 0, 3], [0, 0, 0, 2]⟩, ⟨[2, 1, 0, 3], [0, 0, 0, 3]⟩, ⟨[3, 1, 0, 2], [0, 0, 0, 0]⟩, ⟨[3, 1, 0, 2], [0, 0, 0, 2]⟩, ⟨[3, 1, 0, 2], [0, 0, 0, 3]⟩, ⟨[2, 3, 0, 1], [0, 0, 0, 0]⟩, ⟨[2, 3, 0, 1], [0, 1, 1, 1]⟩, ⟨[3, 2, 0, 1], [0, 0, 0, 0]⟩, ⟨[2, 3, 0, 1], [0, 0, 0, 3]⟩, ⟨[2, 3, 0, 1], [0, 1, 1, 3]⟩, ⟨[3, 2, 0, 1], [0, 0, 0, 3]⟩, ⟨[1, 2, 3, 0], [0, 0, 0, 0]⟩, ⟨[1, 2, 3, 0], [0, 0, 1, 1]⟩, ⟨[1, 2, 3, 0], [0, 0, 2, 2]⟩, ⟨[1, 3, 2, 0], [0, 0, 0, 0]⟩, ⟨[1, 2, 3, 0], [0, 1, 1, 1]⟩, ⟨[1, 2, 3, 0], [0, 1, 2, 2]⟩, ⟨[1, 3, 2, 0], [0, 0, 1, 1]⟩, ⟨[1, 3, 2, 0], [0, 1, 1, 1]⟩, ⟨[2, 1, 3, 0], [0, 0, 0, 0]⟩, ⟨[2, 1, 3, 0], [0, 0, 1, 1]⟩, ⟨[2, 1, 3, 0], [0, 0, 2, 2]⟩, ⟨[3, 1, 2, 0], [0, 0, 0, 0]⟩, ⟨[3, 1, 2, 0], [0, 0, 2, 2]⟩, ⟨[2, 3, 1, 0], [0, 0, 0, 0]⟩, ⟨[2, 3, 1, 0], [0, 1, 1, 1]⟩, ⟨[3, 2, 1, 0], [0, 0, 0, 0]⟩]
def lab4 : List (List Int) := [[0, 0, 0, 0], [0, 0, 0, 1], [0, 0, 0, 2], [0, 0, 0, 3], [0, 0, 1, 0], [0, 0, 1, 1], [0, 0, 1, 2], [0, 0, 1, 3], [0, 0, 2, 0], [0, 0, 2, 1], [0, 0, 2, 2], [0, 0, 2, 3], [0, 0, 3, 0], [0, 0, 3, 1], [0, 0, 3, 2], [0, 1, 0, 0], [0, 1, 0, 1], [0, 1, 0, 2], [0, 1, 0, 3], [0, 1, 1, 0], [0, 1, 1, 1], [0, 1, 1, 2], [0, 1, 1, 3], [0, 1, 2, 0], [0, 1, 2, 1], [0, 1, 2, 2], [0, 1, 2, 3], [0, 1, 3, 0], [0, 1, 3, 1], [0, 1, 3, 2], [0, 2, 0, 0], [0, 2, 0, 1], [0, 2, 0, 2], [0, 2, 0, 3], [0, 2, 1, 0], [0, 2, 1, 1], [0, 2, 1, 2], [0, 2, 1, 3], [0, 2, 2, 0], [0, 2, 2, 1], [0, 2, 3, 0], [0, 2, 3, 1], [0, 3, 0, 0], [0, 3, 0, 1], [0, 3, 0, 2], [0, 3, 1, 0], [0, 3, 1, 1], [0, 3, 1, 2], [0, 3, 2, 0], [0, 3, 2, 1], [1, 0, 0, 0], [1, 0, 0, 1], [1, 0, 0, 2], [1, 0, 0, 3], [1, 0, 1, 0], [1, 0, 1, 1], [1, 0, 1, 2], [1, 0, 1, 3], [1, 0, 2, 0], [1, 0, 2, 1], [1, 0, 2, 2], [1, 0, 2, 3], [1, 0, 3, 0], [1, 0, 3, 1], [1, 0, 3, 2], [1, 1, 0, 0], [1, 1, 0, 1], [1, 1, 0, 2], [1, 1, 0, 3], [1, 1, 1, 0], [1, 1, 2, 0], [1, 1, 3, 0], [1, 2, 0, 0], [1, 2, 0, 1], [1, 2, 0, 2], [1, 2, 0, 3], [1, 2, 1, 0], [1, 2, 2, 0], [1, 2, 3, 0], [1, 3, 0, 0], [1, 3, 0, 1], [1, 3, 0, 2], [1, 3, 1, 0], [1, 3, 2, 0], [2, 0, 0, 0], [2, 0, 0, 1], [2, 0, 0, 2], [2, 0, 0, 3], [2, 0, 1, 0], [2, 0, 1, 1], [2, 0, 1, 2], [2, 0, 1, 3], [2, 0, 2, 0], [2, 0, 2, 1], [2, 0, 3, 0], [2, 0, 3, 1], [2, 1, 0, 0], [2, 1, 0, 1], [2, 1, 0, 2], [2, 1, 0, 3], [2, 1, 1, 0], [2, 1, 2, 0], [2, 1, 3, 0], [2, 2, 0, 0], [2, 2, 0, 1], [2, 2, 1, 0], [2, 3, 0, 0], [2, 3, 0, 1], [2, 3, 1, 0], [3, 0, 0, 0], [3, 0, 0, 1], [3, 0, 0, 2], [3, 0, 1, 0], [3, 0, 1, 1], [3, 0, 1, 2], [3, 0, 2, 0], [3, 0, 2, 1], [3, 1, 0, 0], [3, 1, 0, 1], [3, 1, 0, 2], [3, 1, 1, 0], [3, 1, 2, 0], [3, 2, 0, 0], [3, 2, 0, 1], [3, 2, 1, 0]]
def pts4 : List (List Int) := [[0, -1, -2, -3], [0, -2, -3, -101], [0, -1, -3, -102], [0, -1, -2, -103], [0, -1, -3, -2], [0, -3, -101, -102], [0, -2, -101, -103], [0, -2, -101, -202], [0, -2, -101, -3], [0, -3, -102, -101], [0, -1, -102, -103], [0, -1, -102, -203], [0, -1, -102, -3], [0, -2, -103, -101], [0, -1, -103, -102], [0, -2, -1, -3], [0, -3, -2, -101], [0, -3, -1, -102], [0, -2, -1, -103], [0, -2, -3, -1], [0, -101, -102, -103], [0, -101, -103, -202], [0, -101, -102, -203], [0, -3, -101, -2], [0, -101, -103, -102], [0, -101, -202, -203], [0, -101, -202, -303], [0, -2, -103, -1], [0, -101, -202, -103], [0, -101, -203, -202], [0, -3, -1, -2], [0, -101, -3, -102], [0, -101, -2, -103], [0, -101, -2, -202], [0, -3, -2, -1], [0, -102, -101, -103], [0, -103, -101, -202], [0, -102, -101, -203], [0, -101, -102, -3], [0, -102, -103, -101], [0, -101, -202, -2], [0, -102, -203, -101], [0, -101, -2, -3], [0, -102, -3, -101], [0, -103, -1, -102], [0, -101, -3, -2], [0, -103, -101, -102], [0, -203, -101, -202], [0, -102, -101, -3], [0, -103, -102, -101], [-1, 0, -2, -3], [-2, 0, -3, -101], [-1, 0, -3, -102], [-1, 0, -2, -103], [-1, 0, -3, -2], [-3, 0, -101, -102], [-2, 0, -101, -103], [-2, 0, -101, -202], [-2, 0, -101, -3], [-3, 0, -102, -101], [-1, 0, -102, -103], [-1, 0, -102, -203], [-1, 0, -102, -3], [-2, 0, -103, -101], [-1, 0, -103, -102], [-1, -2, 0, -3], [-2, -3, 0, -101], [-1, -3, 0, -102], [-1, -2, 0, -103], [-1, -2, -3, 0], [-1, -3, -102, 0], [-1, -2, -103, 0], [-1, -3, 0, -2], [-3, -102, 0, -101], [-1, -102, 0, -103], [-1, -102, 0, -203], [-1, -3, -2, 0], [-1, -102, -103, 0], [-1, -102, -203, 0], [-1, -102, 0, -3], [-2, -103, 0, -101], [-1, -103, 0, -102], [-1, -102, -3, 0], [-1, -103, -102, 0], [-2, 0, -1, -3], [-3, 0, -2, -101], [-3, 0, -1, -102], [-2, 0, -1, -103], [-2, 0, -3, -1], [-102, 0, -101, -103], [-103, 0, -101, -202], [-102, 0, -101, -203], [-3, 0, -101, -2], [-102, 0, -103, -101], [-2, 0, -103, -1], [-102, 0, -203, -101], [-2, -1, 0, -3], [-3, -2, 0, -101], [-3, -1, 0, -102], [-2, -1, 0, -103], [-2, -1, -3, 0], [-3, -1, -102, 0], [-2, -1, -103, 0], [-2, -3, 0, -1], [-102, -103, 0, -101], [-2, -3, -1, 0], [-2, -103, 0, -1], [-102, -203, 0, -101], [-2, -103, -1, 0], [-3, 0, -1, -2], [-102, 0, -3, -101], [-103, 0, -1, -102], [-3, 0, -2, -1], [-103, 0, -101, -102], [-203, 0, -101, -202], [-102, 0, -101, -3], [-103, 0, -102, -101], [-3, -1, 0, -2], [-102, -3, 0, -101], [-103, -1, 0, -102], [-3, -1, -2, 0], [-103, -1, -102, 0], [-3, -2, 0, -1], [-103, -102, 0, -101], [-3, -2, -1, 0]]
set_option maxHeartbeats 16000000 in
theorem fact4 : Tab 4 4 reg4 lab4 pts4 := by
  refine ⟨?_, ?_, ?_, ?_, ?_, ?_, ?_⟩ <;> decide +kernel
theorem out1 : impl_AllRegions.f 400 (-1) = some ([], false) ∧ spec_AllRegions.f 400 (-1) = some ([], false) := by constructor <;> rfl
theorem out5 : impl_AllRegions.f 400 5 = some ([], false) ∧ spec_AllRegions.f 400 5 = some ([], false) := by constructor <;> rfl
theorem draw_ok {code : List Int} (hc : Bytes code) : ∃ n : Int, spec_DrawAllRegions.f code = some n ∧ -1 ≤ n ∧ n ≤ 5 := by
  unfold spec_DrawAllRegions.f spec_l1Cur_sized.f
  obtain ⟨b, a, s, e, ha0, ha1⟩ := one_ok hc 0 0 6 (by omega) (by decide)
  rw [e, Option.bind_some]
  dsimp only
  cases b with
  | true =>
    obtain ⟨x, a2, s2, e2, hx, _⟩ := among_ok hc a s [(-1), 0, 1, 4, wrap64 (4 + 1)] (by decide) (by decide) (by omega)
    have w5 : wrap64 (4 + 1) = 5 := by decide +kernel
    rw [if_pos rfl, e2, Option.bind_some]
    rw [w5] at hx
    simp only [List.mem_cons, List.not_mem_nil, or_false] at hx
    exact ⟨x, rfl, by omega, by omega⟩
  | false =>
    have w5 : wrap64 (4 + 1) = 5 := by decide +kernel
    obtain ⟨x, a2, s2, e2, hx0, hx1, _⟩ := pick_ok hc a s 5 (by omega) (by decide)
    have := hx1 (by decide)
    rw [if_neg (by decide), w5, e2, Option.bind_some]
    exact ⟨x, rfl, by omega, by omega⟩
end AllReg
open AllReg in
theorem FnAllRegionsListed : laws_FnAllRegionsListed.Pure := by
  intro l0 l1 _ _ hw0 _ _ hw1
  refine Ev.rounds ?_
  have hb0 := bytes_of hw0
  unfold laws_FnAllRegionsListed.f laws_big.f
  by_cases hb : (l0.length : Int) > 1048576
  · rw [if_pos hb]
    exact Ev.bindc rfl (Ev.pos rfl (Ev.now _))
  rw [if_neg hb]
  refine Ev.bindc rfl ?_
  by_cases hb2 : decide ((l1.length : Int) > wrap64 (1048576 - (l0.length : Int))) = true
  · exact Ev.pos hb2 (Ev.now _)
  refine Ev.neg hb2 ?_
  rw [wrap64_in (1048576 - (l0.length : Int)) (by omega) (by omega)] at hb2
  have h0 : l0.length ≤ 2000000 := by omega
  have h1 : l1.length ≤ 2000000 := by
    have : ¬ ((l1.length : Int) > 1048576 - (l0.length : Int)) := fun h => hb2 (decide_eq_true h)
    omega
  obtain ⟨n, hn, ha, hz⟩ := draw_ok hb0
  refine Ev.bindc hn ?_
  have all : ∀ {n : Int} {N : Nat} {A : List S33} {P X : List (List Int)} (T : Tab n N A P X), Ev (fun k => (impl_AllRegions.f k n).bind fun bt382 => (spec_AllRegions.f k n).bind fun bt386 => (if (bt382.2 != bt386.2) = true then (none) else (if (bt382.1.length : Int) = (bt386.1.length : Int) then (if bt386.2 = true then ((impl_AllParking.f k n).bind fun bt390 => (if bt390.2 = true then (if (bt382.1.length : Int) = (bt390.1.length : Int) then (laws_FnAllRegionsListed.l0 k l0 l1 bt382.1 bt386.1 bt390.1 bt382.1 (bt382.1.length : Int) 0) else (none)) else (none))) else (some true)) else (none)))) true := by
    intro n N A P X T
    have hl := T.len
    refine AllReg.one T (Ev.neg (by simp) (Ev.pos rfl (Ev.pos rfl (Ev.bind (up (fun k => impl_AllParking.mono _ k) T.p) (Ev.pos rfl (Ev.pos (by dsimp only; omega) ?_))))))
    exact loop T l0 l1 h0 h1 A.length 0 (by omega)
  have hn7 : n = -1 ∨ n = 0 ∨ n = 1 ∨ n = 2 ∨ n = 3 ∨ n = 4 ∨ n = 5 := by omega
  rcases hn7 with rfl | rfl | rfl | rfl | rfl | rfl | rfl
  · exact Ev.bind (up (fun k => impl_AllRegions.mono _ k) out1.1) (Ev.bind (up (fun k => spec_AllRegions.mono _ k) out1.2) (Ev.neg (by decide) (Ev.pos rfl (Ev.neg (by decide) (Ev.now _)))))
  · exact all fact0
  · exact all fact1
  · exact all fact2
  · exact all fact3
  · exact all fact4
  · exact Ev.bind (up (fun k => impl_AllRegions.mono _ k) out5.1) (Ev.bind (up (fun k => spec_AllRegions.mono _ k) out5.2) (Ev.neg (by decide) (Ev.pos rfl (Ev.neg (by decide) (Ev.now _)))))
end Go.Proofs.Ythanbhbibjnmjaa.Pure
