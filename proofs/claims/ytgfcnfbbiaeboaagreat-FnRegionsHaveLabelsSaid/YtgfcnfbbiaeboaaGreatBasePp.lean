/- Points: what the program's and the reference's tests of a point come to. No condition beside what each theorem states. -/
import Derived.Test.YtgfcnfbbiaeboaaGreatPAllx8
import Derived.Test.YtgfcnfbbiaeboaaGreatBaseE
import Derived.Test.YtgfcnfbbiaeboaaGreatBaseX
namespace Go.Proofs.YtgfcnfbbiaeboaaGreat.Plain
open Go.RowKit Go.Proofs.YtgfcnfbbiaeboaaGreatW.PrintWords Go.Proofs.YtgfcnfbbiaeboaaGreatW.PrintLast Go.Proofs.YtgfcnfbbiaeboaaGreat.Hand Go.Proofs.YtgfcnfbbiaeboaaGreat.PAll
set_option linter.unusedVariables false
def pair (x : List Int) (i j : Nat) : Bool := decide (rd x (i : Int) ≠ rd x (j : Int) ∧ rd x (i : Int) ≠ rd x (j : Int) + 100)
def ptRow (x : List Int) (j : Nat) : Bool := (List.range j).all fun i => pair x i j
/-- A point. -/
def ptB (x : List Int) : Bool := decide (x.length ≤ 8) && (x.all fun v => decide (-100000 ≤ v ∧ v ≤ 100000)) && (List.range x.length).all fun j => ptRow x j
structure Pt (x : List Int) : Prop where
  len : x.length ≤ 8
  inr : ∀ v ∈ x, -100000 ≤ v ∧ v ≤ 100000
  ne : ∀ i j : Nat, i < j → j < x.length → rd x (i : Int) ≠ rd x (j : Int) ∧ rd x (i : Int) ≠ rd x (j : Int) + 100
theorem Pt.rd {x : List Int} (h : Pt x) (p : Nat) (hp : p < x.length) : -100000 ≤ Go.Proofs.YtgfcnfbbiaeboaaGreatW.PrintWords.rd x (p : Int) ∧ Go.Proofs.YtgfcnfbbiaeboaaGreatW.PrintWords.rd x (p : Int) ≤ 100000 := by
  rw [rd_nat x p hp]
  exact h.inr _ (List.getElem_mem hp)
theorem ptB_iff (x : List Int) : ptB x = true ↔ Pt x := by
  unfold ptB ptRow pair
  simp only [Bool.and_eq_true, decide_eq_true_eq, List.all_eq_true, List.mem_range]
  exact ⟨fun h => ⟨h.1.1, h.1.2, fun i j hi hj => h.2 j hj i hi⟩, fun h => ⟨⟨h.len, h.inr⟩, fun j hj i hi => h.ne i j hi hj⟩⟩
theorem range_drop (N j : Nat) (h : j < N) : (List.range N).drop j = j :: (List.range N).drop (j + 1) := by
  rw [List.drop_eq_getElem_cons (by simpa using h)]
  simp
theorem rd_take (x : List Int) (j i : Nat) (hi : i < j) (hj : j ≤ x.length) : rd (x.take j) (i : Int) = rd x (i : Int) := by
  rw [rd_nat _ i (by rw [List.length_take]; omega), rd_nat x i (by omega), List.getElem_take]
theorem isPoint_l1 (x : List Int) (j : Nat) (hj : j < x.length) (hb : ∀ v ∈ x, -100000 ≤ v ∧ v ≤ 100000) (h8 : x.length ≤ 100) (r : Bool)
    (hr : Ev (fun k => impl_isPoint.l0 k x x (x.length : Int) ((j + 1 : Nat) : Int)) r) : ∀ (d i : Nat), i + d = j →
    Ev (fun k => impl_isPoint.l1 k x (rd x (j : Int)) x (x.length : Int) (j : Int) (x.take j) ((x.take j).length : Int) (i : Int)) (((List.range j).drop i).all (fun i => pair x i j) && r) := by
  intro d
  have hl : (x.take j).length = j := by rw [List.length_take]; omega
  induction d with
  | zero =>
    intro i hi
    obtain rfl : i = j := by omega
    rw [List.drop_eq_nil_of_le (by simp), List.all_nil, Bool.true_and]
    refine Ev.step (f := fun k => impl_isPoint.l0 k x x (x.length : Int) ((i + 1 : Nat) : Int)) (fun k => ?_) hr
    rw [impl_isPoint.l1, if_neg (by omega), wrap_succ i (by omega)]
  | succ d ih =>
    intro i hi
    have h1 := hb (rd x (i : Int)) (by rw [rd_nat x i (by omega)]; exact List.getElem_mem _)
    have h2 := hb (rd x (j : Int)) (by rw [rd_nat x j hj]; exact List.getElem_mem _)
    rw [range_drop j i (by omega), List.all_cons]
    by_cases e1 : rd x (i : Int) = rd x (j : Int)
    · have e : pair x i j = false := decide_eq_false (fun h => h.1 e1)
      rw [e, Bool.false_and, Bool.false_and]
      refine Ev.step (f := fun _ => some false) (fun k => ?_) (Ev.now _)
      rw [impl_isPoint.l1, if_pos (by omega), if_pos (by omega), if_pos (by omega), rd_take x j i (by omega) (by omega), if_pos e1]
    · by_cases e2 : rd x (i : Int) = rd x (j : Int) + 100
      · have e : pair x i j = false := decide_eq_false (fun h => h.2 e2)
        rw [e, Bool.false_and, Bool.false_and]
        refine Ev.step (f := fun _ => some false) (fun k => ?_) (Ev.now _)
        rw [impl_isPoint.l1, if_pos (by omega), if_pos (by omega), if_pos (by omega), rd_take x j i (by omega) (by omega), if_neg e1, wrap64_in _ (by omega) (by omega), if_pos e2]
      · have e : pair x i j = true := decide_eq_true ⟨e1, e2⟩
        rw [e, Bool.true_and]
        refine Ev.step (fun k => ?h1) (ih (i + 1) (by omega))
        rw [impl_isPoint.l1, if_pos (by omega), if_pos (by omega), if_pos (by omega), rd_take x j i (by omega) (by omega), if_neg e1, wrap64_in _ (by omega) (by omega), if_neg e2, wrap_succ i (by omega)]
theorem isPoint_l0 (x : List Int) (hb : ∀ v ∈ x, -100000 ≤ v ∧ v ≤ 100000) (h8 : x.length ≤ 100) : ∀ (d j : Nat), j + d = x.length →
    Ev (fun k => impl_isPoint.l0 k x x (x.length : Int) (j : Int)) (((List.range x.length).drop j).all (fun j => ptRow x j)) := by
  intro d
  induction d with
  | zero =>
    intro j hj
    rw [List.drop_eq_nil_of_le (by simp; omega), List.all_nil]
    refine Ev.step (f := fun _ => some true) (fun k => ?_) (Ev.now _)
    rw [impl_isPoint.l0, if_neg (by omega)]
  | succ d ih =>
    intro j hj
    rw [range_drop x.length j (by omega), List.all_cons]
    have h := isPoint_l1 x j (by omega) hb h8 _ (ih (j + 1) (by omega)) j 0 (by omega)
    rw [List.drop_zero] at h
    refine Ev.step (fun k => ?h1) h
    rw [impl_isPoint.l0, if_pos (by omega), if_pos (by omega), if_pos (by omega), if_pos (by omega), Int.toNat_natCast]
    rfl
theorem isPoint_ev (x : List Int) : Ev (fun k => impl_isPoint.f k x) (ptB x) := by
  unfold impl_isPoint.f ptB
  have hc : impl_isCars.f (x.length : Int) = some (decide (x.length ≤ 8)) := by
    unfold impl_isCars.f impl_between.f
    by_cases h : x.length ≤ 8
    · rw [if_pos (by omega), decide_eq_true h, Option.bind_some, Option.some.injEq]
      exact decide_eq_true (by omega)
    · rw [decide_eq_false h]
      first
        | (rw [if_pos (by omega), Option.bind_some, Option.some.injEq]; exact decide_eq_false (by omega))
        | (rw [if_neg (by omega)]; rfl)
  refine Ev.bindc hc ?_
  by_cases h8 : x.length ≤ 8
  · rw [decide_eq_true h8, Bool.true_and]
    refine Ev.pos rfl (Ev.bindc rfl ?_)
    by_cases hb : x.all (fun v => decide (-100000 ≤ v ∧ v ≤ 100000)) = true
    · rw [hb, Bool.true_and]
      have hb' : ∀ v ∈ x, -100000 ≤ v ∧ v ≤ 100000 := fun v hv => of_decide_eq_true (List.all_eq_true.1 hb v hv)
      have h := isPoint_l0 x hb' (by omega) x.length 0 (by omega)
      rw [List.drop_zero] at h
      refine Ev.step (fun k => ?h1) h
      rw [impl_isPoint.j0, if_neg (by simp)]
      rfl
    · have hb' : x.all (fun v => decide (-100000 ≤ v ∧ v ≤ 100000)) = false := Bool.eq_false_iff.2 hb
      rw [hb', Bool.false_and]
      refine Ev.step (f := fun _ => some false) (fun k => ?_) (Ev.now _)
      rw [impl_isPoint.j0]; exact if_pos (by rfl)
  · rw [decide_eq_false h8, Bool.false_and, Bool.false_and]
    refine Ev.neg (by decide) (Ev.step (f := fun _ => some false) (fun k => ?_) (Ev.now _))
    rw [impl_isPoint.j0]; exact if_pos (by rfl)
end Go.Proofs.YtgfcnfbbiaeboaaGreat.Plain
