/- What isParking and cuts of the program, and those of the reference, come to. Conditions: lengths below 2^40. -/
import Derived.Test.YtkelnmlmdlhjeaaPAllx7
import Derived.Test.YtkelnmlmdlhjeaaPAllx8
import Derived.Test.YtkelnmlmdlhjeaaPAllx9
import Derived.Test.YtkelnmlmdlhjeaaPAllx10
import Derived.Test.YtkelnmlmdlhjeaaBaseB
import Derived.Test.YtkelnmlmdlhjeaaHandC
namespace Go.Proofs.Ytkelnmlmdlhjeaa.Plain
open Go.RowKit Go.Proofs.YtkelnmlmdlhjeaaW.PrintWords Go.Proofs.YtkelnmlmdlhjeaaW.PrintLast Go.Proofs.Ytkelnmlmdlhjeaa.Hand Go.Proofs.Ytkelnmlmdlhjeaa.PAll
set_option linter.unusedVariables false

/-- A parking function. -/
def parking (l : List Int) : Bool := decide (l.length ≤ 8) && ((l.all fun x => decide (0 ≤ x ∧ x ≤ (l.length : Int) - 1)) && !decide ((-1 : Int) ∈ sdrive (l.length : Int) [] l))
theorem parking_cars {l : List Int} (h : parking l = true) : l.length ≤ 8 := by
  unfold parking at h
  simp only [Bool.and_eq_true, decide_eq_true_eq] at h
  exact h.1
theorem parking_in {l : List Int} (h : parking l = true) : ∀ x ∈ l, 0 ≤ x ∧ x < (l.length : Int) := by
  unfold parking at h
  simp only [Bool.and_eq_true, decide_eq_true_eq, List.all_eq_true] at h
  intro x hx
  have := h.2.1 x hx
  omega
theorem parking_all {l : List Int} (h : parking l = true) : (-1 : Int) ∉ sdrive (l.length : Int) [] l := by
  unfold parking at h
  simp only [Bool.and_eq_true, Bool.not_eq_true', decide_eq_false_iff_not] at h
  exact h.2.2
/-- A car with a favourite beyond the street fails. -/
theorem sdrive_far (p : Int) : ∀ (l out : List Int), (∃ x ∈ l, p ≤ x) → (-1 : Int) ∈ sdrive p out l := by
  intro l
  induction l with
  | nil => intro out h; obtain ⟨x, hx, _⟩ := h; cases hx
  | cons x xs ih =>
    intro out h
    rw [sdrive]
    by_cases hx : p ≤ x
    · obtain ⟨t, ht⟩ := sdrive_pre p xs (out ++ [told p (nf p out (p - x).toNat x)])
      rw [ht, show (p - x).toNat = 0 by omega, nf]
      unfold told
      rw [if_pos hx]
      simp
    · obtain ⟨y, hy, hp⟩ := h
      rcases List.mem_cons.1 hy with rfl | hy
      · exact absurd hp hx
      · exact ih _ ⟨y, hy, hp⟩

theorem paDrive_any (l : List Int) (p : Int) (hp0 : 0 ≤ p) (hp : p ≤ 1000) (hs : l.length ≤ 1000) (hx : ∀ x ∈ l, 0 ≤ x ∧ x ≤ 1000) : Ev (fun k => spec_paDrive.f k l p) (sdrive p [] l) := by
  unfold spec_paDrive.f
  exact paDrive_l p l hp0 hp hs l [] 0 rfl rfl (by omega) hx
theorem paAll_any (l : List Int) (p : Int) (hp0 : 0 ≤ p) (hp : p ≤ 1000) (hs : l.length ≤ 1000) (hx : ∀ x ∈ l, 0 ≤ x ∧ x ≤ 1000) : Ev (fun k => spec_paAll.f k l p) (!decide ((-1 : Int) ∈ sdrive p [] l)) := by
  unfold spec_paAll.f
  refine Ev.bind (paDrive_any l p hp0 hp hs hx) (Ev.bind (l1Has_ev _ _ ?_) (Ev.now _))
  rw [sdrive_length]
  simp
  omega
theorem paParking_ev (l : List Int) : Ev (fun k => spec_paParking.f k l) (parking l) := by
  unfold spec_paParking.f parking
  by_cases h1 : l.length ≤ 8
  · refine Ev.pos (by omega) ?_
    rw [decide_eq_true h1, Bool.true_and, wrap64_in ((l.length : Int) - 1) (by omega) (by omega)]
    refine Ev.bind (l1All_ev l 0 ((l.length : Int) - 1) (by omega)) ?_
    cases h2 : (l.all fun x => decide (0 ≤ x ∧ x ≤ (l.length : Int) - 1)) with
    | false => exact Ev.neg (by decide) (Ev.now _)
    | true =>
      rw [Bool.true_and]
      refine Ev.pos rfl (Ev.bind (paAll_any l (l.length : Int) (by omega) (by omega) (by omega) (fun x hx => ?_)) (Ev.now _))
      have := of_decide_eq_true (List.all_eq_true.1 h2 x hx)
      omega
  · rw [decide_eq_false h1, Bool.false_and]
    exact Ev.neg (by omega) (Ev.now _)
theorem areCars_eq (l : List Int) : impl_areCars.f l = some (decide (l.length ≤ 8) && l.all fun x => decide (0 ≤ x ∧ x ≤ 99)) := by
  unfold impl_areCars.f
  by_cases h1 : l.length ≤ 8
  · rw [decide_eq_true h1, Bool.true_and, if_pos (by omega)]
    rfl
  · rw [decide_eq_false h1, Bool.false_and, if_neg (by omega)]
theorem isParking_ev (l : List Int) : Ev (fun k => impl_isParking.f k l) (parking l) := by
  unfold impl_isParking.f parking
  refine Ev.bindc (areCars_eq l) ?_
  by_cases h1 : l.length ≤ 8
  · rw [decide_eq_true h1, Bool.true_and, Bool.true_and]
    cases h2 : (l.all fun x => decide (0 ≤ x ∧ x ≤ 99)) with
    | false =>
      refine Ev.neg (by decide) (Ev.const ?_)
      cases h3 : (l.all fun x => decide (0 ≤ x ∧ x ≤ (l.length : Int) - 1)) with
      | false => rfl
      | true =>
        exfalso
        rw [List.all_eq_false] at h2
        obtain ⟨x, hx, hn⟩ := h2
        have := of_decide_eq_true (List.all_eq_true.1 h3 x hx)
        exact hn (decide_eq_true (by omega))
    | true =>
      have hin : ∀ x ∈ l, 0 ≤ x ∧ x ≤ 99 := fun x hx => of_decide_eq_true (List.all_eq_true.1 h2 x hx)
      refine Ev.pos rfl (Ev.bind (drive_ev l (l.length : Int) (by omega) (by omega) (by omega) (fun x hx => by have := hin x hx; omega)) ?_)
      by_cases hm : (-1 : Int) ∈ sdrive (l.length : Int) [] l
      · rw [if_pos hm, decide_eq_true hm]
        exact Ev.const (by simp)
      · rw [if_neg hm, decide_eq_false hm]
        refine Ev.const ?_
        have h3 : (l.all fun x => decide (0 ≤ x ∧ x ≤ (l.length : Int) - 1)) = true := by
          rw [List.all_eq_true]
          intro x hx
          have h4 := hin x hx
          by_cases hc : (l.length : Int) ≤ x
          · exact absurd (sdrive_far _ l [] ⟨x, hx, hc⟩) hm
          · exact decide_eq_true (by omega)
        rw [h3]
        rfl
  · rw [decide_eq_false h1, Bool.false_and, Bool.false_and]
    exact Ev.neg (by decide) (Ev.now _)

/-- The cuts from j on, behind those that were found. -/
def cutsR (l : List Int) : Nat → Nat → List Int → List Int
  | 0, _, out => out
  | d + 1, j, out => cutsR l d (j + 1) (if cnt (fun x => decide (x < (j : Int))) l = (j : Int) then out ++ [(j : Int)] else out)
def cutsL (l : List Int) : List Int := cutsR l (l.length - 1) 1 []
theorem cutsR_length (l : List Int) : ∀ (d j : Nat) (out : List Int), (cutsR l d j out).length ≤ out.length + d := by
  intro d
  induction d with
  | zero => intro j out; exact Nat.le_refl _
  | succ d ih =>
    intro j out
    rw [cutsR]
    refine Nat.le_trans (ih _ _) ?_
    split
    · simp; omega
    · omega
theorem cutsL_length (l : List Int) : (cutsL l).length ≤ l.length := by
  have := cutsR_length l (l.length - 1) 1 []
  unfold cutsL
  simp at this
  omega
theorem cnt_cons (p : Int → Bool) (x : Int) (l : List Int) : cnt p (x :: l) = (if p x = true then 1 else 0) + cnt p l := by
  unfold cnt
  rw [List.filter_cons]
  split
  · simp; omega
  · simp
theorem cnt_split (j : Int) (l : List Int) : cnt (fun x => decide (x ≥ j)) l + cnt (fun x => decide (x < j)) l = (l.length : Int) := by
  induction l with
  | nil => rfl
  | cons x xs ih =>
    rw [cnt_cons, cnt_cons, List.length_cons]
    by_cases h : x ≥ j
    · rw [if_pos (decide_eq_true h), if_neg (by simp; omega)]
      omega
    · rw [if_neg (by simp; omega), if_pos (decide_eq_true (by omega))]
      omega
theorem cuts_l0 (l : List Int) (hs : l.length ≤ 1099511627776) : ∀ (d j : Nat) (out : List Int), d = l.length - j → 1 ≤ j → j ≤ l.length ∨ d = 0 ∧ j = 1 → out.length ≤ j →
    Ev (fun k => impl_cuts.l0 k l out (j : Int)) (cutsR l d j out) := by
  intro d
  induction d with
  | zero =>
    intro j out hd h1 h2 ho
    refine Ev.step (f := fun _ => some out) (fun k => ?_) (Ev.const rfl)
    rw [impl_cuts.l0, if_neg (by omega)]
  | succ d ih =>
    intro j out hd h1 h2 ho
    rw [cutsR]
    by_cases hc : cnt (fun x => decide (x < (j : Int))) l = (j : Int)
    · rw [if_pos hc]
      refine Ev.step (fun k => ?_) (ih (j + 1) _ (by omega) (by omega) (by omega) (by simp; omega))
      rw [impl_cuts.l0, if_pos (by omega), countIf_cuts.f, Option.bind_some, if_pos hc, if_pos (by omega), wrap_succ j (by omega)]
    · rw [if_neg hc]
      refine Ev.step (fun k => ?_) (ih (j + 1) _ (by omega) (by omega) (by omega) (by omega))
      rw [impl_cuts.l0, if_pos (by omega), countIf_cuts.f, Option.bind_some, if_neg hc, wrap_succ j (by omega)]
theorem cuts_ev (l : List Int) (hs : l.length ≤ 1099511627776) : Ev (fun k => impl_cuts.f k l) (cutsL l) := by
  unfold impl_cuts.f cutsL
  exact cuts_l0 l hs (l.length - 1) 1 [] rfl (by omega) (by omega) (by simp)
theorem paFrom_l0 (l : List Int) (j : Int) (hs : l.length ≤ 1099511627776) : ∀ (d n : Nat) (m : Int), n + d = l.length → m = cnt (fun x => decide (x ≥ j)) (l.take n) →
    Ev (fun k => spec_paFrom.l0 k j m l (l.length : Int) (n : Int)) (cnt (fun x => decide (x ≥ j)) l) := by
  intro d
  induction d with
  | zero =>
    intro n m hn hm
    refine Ev.step (f := fun _ => some m) (fun k => ?_) (Ev.const ?_)
    · rw [spec_paFrom.l0, if_neg (by omega)]
    · rw [hm, List.take_of_length_le (by omega)]
  | succ d ih =>
    intro n m hn hm
    have h1 : n < l.length := by omega
    have hc := cnt_snoc (fun x => decide (x ≥ j)) l (n : Int) (by omega) (by omega)
    rw [show ((n : Int) + 1).toNat = n + 1 by omega, Int.toNat_natCast, ← hm, rd_nat l n h1] at hc
    have h2 := cnt_le (fun x => decide (x ≥ j)) (l.take n)
    have h3 := cnt_nonneg (fun x => decide (x ≥ j)) (l.take n)
    rw [← hm] at h2 h3
    have h4 : (l.take n).length ≤ n := List.length_take_le _ _
    by_cases hx : l[n] ≥ j
    · rw [if_pos (decide_eq_true hx)] at hc
      refine Ev.step (fun k => ?_) (ih (n + 1) (m + 1) (by omega) hc.symm)
      rw [spec_paFrom.l0, if_pos (by omega), if_pos (by omega), if_pos (by omega), rd_nat l n h1, if_pos hx, wrap64_in (m + 1) (by omega) (by omega), wrap_succ n (by omega)]
    · rw [if_neg (by simp; omega), Int.add_zero] at hc
      refine Ev.step (fun k => ?_) (ih (n + 1) m (by omega) hc.symm)
      rw [spec_paFrom.l0, if_pos (by omega), if_pos (by omega), if_pos (by omega), rd_nat l n h1, if_neg hx, wrap_succ n (by omega)]
theorem paFrom_ev (l : List Int) (j : Int) (hs : l.length ≤ 1099511627776) : Ev (fun k => spec_paFrom.f k l j) (cnt (fun x => decide (x ≥ j)) l) := by
  unfold spec_paFrom.f
  exact paFrom_l0 l j hs l.length 0 0 (by omega) (by simp [cnt])
theorem paCuts_l0 (l : List Int) (hs : l.length ≤ 1099511627776) : ∀ (d j : Nat) (out : List Int), d = l.length - j → 1 ≤ j → j ≤ l.length ∨ d = 0 ∧ j = 1 → out.length ≤ j →
    Ev (fun k => spec_paCuts.l0 k l out (j : Int)) (cutsR l d j out) := by
  intro d
  induction d with
  | zero =>
    intro j out hd h1 h2 ho
    refine Ev.step (f := fun _ => some out) (fun k => ?_) (Ev.const rfl)
    rw [spec_paCuts.l0, if_neg (by omega)]
  | succ d ih =>
    intro j out hd h1 h2 ho
    rw [cutsR]
    have hsp := cnt_split (j : Int) l
    have h3 := cnt_nonneg (fun x => decide (x < (j : Int))) l
    have h4 := cnt_le (fun x => decide (x < (j : Int))) l
    refine Ev.step (f := ?f) (fun k => ?h) ?g
    case h => rw [spec_paCuts.l0, if_pos (by omega)]
    refine Ev.bind (paFrom_ev l (j : Int) hs) ?_
    rw [wrap64_in _ (by omega) (by omega), wrap_succ j (by omega), show (l.length : Int) - cnt (fun x => decide (x ≥ (j : Int))) l = cnt (fun x => decide (x < (j : Int))) l by omega]
    by_cases hc : cnt (fun x => decide (x < (j : Int))) l = (j : Int)
    · rw [if_pos hc]
      exact Ev.pos hc (Ev.pos (by omega) (ih (j + 1) _ (by omega) (by omega) (by omega) (by simp; omega)))
    · rw [if_neg hc]
      exact Ev.neg hc (ih (j + 1) _ (by omega) (by omega) (by omega) (by omega))
theorem paCuts_ev (l : List Int) (hs : l.length ≤ 1099511627776) : Ev (fun k => spec_paCuts.f k l) (cutsL l) := by
  unfold spec_paCuts.f cutsL
  exact paCuts_l0 l hs (l.length - 1) 1 [] rfl (by omega) (by omega) (by simp)
end Go.Proofs.Ytkelnmlmdlhjeaa.Plain
