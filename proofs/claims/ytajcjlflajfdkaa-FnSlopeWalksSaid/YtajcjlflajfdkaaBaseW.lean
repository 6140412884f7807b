/- Slope walks: what the program's and the reference's tests of a walk come to. No condition but a length below 2^40 where a theorem states it. -/
import Derived.Test.YtajcjlflajfdkaaPAllx5
import Derived.Test.YtajcjlflajfdkaaPAllx6
import Derived.Test.YtajcjlflajfdkaaBaseS
namespace Go.Proofs.Ytajcjlflajfdkaa.Plain
open Go.RowKit Go.Proofs.YtajcjlflajfdkaaW.PrintWords Go.Proofs.YtajcjlflajfdkaaW.PrintLast Go.Proofs.Ytajcjlflajfdkaa.Hand Go.Proofs.Ytajcjlflajfdkaa.PAll
set_option linter.unusedVariables false

theorem less_eq (x y : Int) : cmp_Less_int.f x y = some (decide (x < y)) := by
  unfold cmp_Less_int.f cmp_isNaN_int.f
  simp
theorem l1Same_l0 (a b : List Int) (hl : a.length = b.length) (hs : a.length ≤ 1099511627776) : ∀ (d n : Nat), n + d = a.length →
    Ev (fun k => spec_l1Same.l0 k a b (a.length : Int) (n : Int)) (decide (a.drop n = b.drop n)) := by
  intro d
  induction d with
  | zero =>
    intro n hn
    refine Ev.step (f := fun _ => some true) (fun k => ?_) (Ev.const ?_)
    · rw [spec_l1Same.l0, if_neg (by omega)]
    · rw [List.drop_eq_nil_of_le (by omega), List.drop_eq_nil_of_le (by omega)]
      simp
  | succ d ih =>
    intro n hn
    have h1 : n < a.length := by omega
    have h2 : n < b.length := by omega
    rw [List.drop_eq_getElem_cons h1, List.drop_eq_getElem_cons h2, cons_eq]
    by_cases hx : a[n] = b[n]
    · rw [decide_eq_true hx, Bool.true_and]
      refine Ev.step (fun k => ?_) (ih (n + 1) (by omega))
      rw [spec_l1Same.l0, if_pos (by omega), if_pos (by omega), if_pos (by omega), if_pos (by omega), rd_nat a n h1, rd_nat b n h2, if_pos hx, wrap_succ n (by omega)]
    · rw [decide_eq_false hx, Bool.false_and]
      refine Ev.step (f := fun _ => some false) (fun k => ?_) (Ev.now _)
      rw [spec_l1Same.l0, if_pos (by omega), if_pos (by omega), if_pos (by omega), if_pos (by omega), rd_nat a n h1, rd_nat b n h2, if_neg hx]
theorem l1Same_ev (a b : List Int) (hl : a.length = b.length) (hs : a.length ≤ 1099511627776) : Ev (fun k => spec_l1Same.f k a b) (decide (a = b)) := by
  unfold spec_l1Same.f
  refine Ev.pos (by omega) ?_
  have h := l1Same_l0 a b hl hs a.length 0 (by omega)
  rwa [List.drop_zero, List.drop_zero] at h

/-- Numbers up to place n do not fall. -/
def adj (l : List Int) : Nat → Bool
  | 0 => true
  | n + 1 => decide (l.getD n 0 ≤ l.getD (n + 1) 0) && adj l n
theorem adj_le {l : List Int} : ∀ {n : Nat}, adj l n = true → ∀ i j, i ≤ j → j ≤ n → l.getD i 0 ≤ l.getD j 0
  | 0, _, i, j, h1, h2 => by
    obtain rfl : i = 0 := by omega
    obtain rfl : j = 0 := by omega
    exact Int.le_refl _
  | n + 1, h, i, j, h1, h2 => by
    rw [adj, Bool.and_eq_true, decide_eq_true_eq] at h
    rcases Nat.lt_or_ge j (n + 1) with hj | hj
    · exact adj_le h.2 i j h1 (by omega)
    · obtain rfl : j = n + 1 := by omega
      rcases Nat.lt_or_ge i (n + 1) with hi | hi
      · exact Int.le_trans (adj_le h.2 i n (by omega) (Nat.le_refl _)) h.1
      · obtain rfl : i = n + 1 := by omega
        exact Int.le_refl _
theorem adj_of {l : List Int} (h : l.Pairwise (· ≤ ·)) : ∀ n, n < l.length → adj l n = true
  | 0, _ => rfl
  | n + 1, hn => by
    rw [adj, Bool.and_eq_true, decide_eq_true_eq]
    refine ⟨?_, adj_of h n (by omega)⟩
    have := (List.pairwise_iff_getElem.1 h) n (n + 1) (by omega) hn (by omega)
    simpa [List.getD_eq_getElem?_getD, List.getElem?_eq_getElem hn, List.getElem?_eq_getElem (show n < l.length by omega)] using this
theorem adj_srt {l : List Int} (h0 : 0 < l.length) : adj l (l.length - 1) = decide (srt l = l) := by
  cases h : adj l (l.length - 1) with
  | true =>
    refine (decide_eq_true (srt_same (List.pairwise_iff_getElem.2 fun i j hi hj hij => ?_))).symm
    have := adj_le h i j (by omega) (by omega)
    simpa [List.getD_eq_getElem?_getD, List.getElem?_eq_getElem hi, List.getElem?_eq_getElem hj] using this
  | false =>
    refine (decide_eq_false (fun e => ?_)).symm
    have h2 := adj_of (l := l) (by rw [← e]; exact srt_sorted l) (l.length - 1) (by omega)
    rw [h] at h2
    cases h2
theorem isSorted_l0 (l : List Int) (hs : l.length ≤ 1099511627776) : ∀ (n : Nat), n < l.length → Ev (fun k => slices_IsSorted_int_int.l0 k l (n : Int)) (adj l n) := by
  intro n
  induction n with
  | zero =>
    intro hn
    refine Ev.step (f := fun _ => some true) (fun k => ?_) (Ev.now _)
    rw [slices_IsSorted_int_int.l0, if_neg (by omega)]
  | succ n ih =>
    intro hn
    have e1 : l.getD n 0 = l[n] := by simp [List.getD_eq_getElem?_getD, List.getElem?_eq_getElem (show n < l.length by omega)]
    have e2 : l.getD (n + 1) 0 = l[n + 1] := by simp [List.getD_eq_getElem?_getD, List.getElem?_eq_getElem hn]
    rw [adj, e1, e2]
    have e3 : wrap64 (((n + 1 : Nat) : Int) - 1) = (n : Int) := by rw [wrap64_in _ (by omega) (by omega)]; omega
    by_cases hx : l[n] ≤ l[n + 1]
    · rw [decide_eq_true hx, Bool.true_and]
      refine Ev.step (fun k => ?_) (ih (by omega))
      rw [slices_IsSorted_int_int.l0, if_pos (by omega), if_pos (by omega), if_pos (by omega), e3, if_pos (by omega), if_pos (by omega), rd_nat l (n + 1) hn, rd_nat l n (by omega), less_eq, decide_eq_false (by omega), Option.bind_some, if_neg (by decide)]
    · rw [decide_eq_false hx, Bool.false_and]
      refine Ev.step (f := fun _ => some false) (fun k => ?_) (Ev.now _)
      rw [slices_IsSorted_int_int.l0, if_pos (by omega), if_pos (by omega), if_pos (by omega), e3, if_pos (by omega), if_pos (by omega), rd_nat l (n + 1) hn, rd_nat l n (by omega), less_eq, decide_eq_true (by omega), Option.bind_some, if_pos rfl]
theorem isSorted_ev (l : List Int) (h0 : 0 < l.length) (hs : l.length ≤ 1099511627776) : Ev (fun k => slices_IsSorted_int_int.f k l) (decide (srt l = l)) := by
  unfold slices_IsSorted_int_int.f
  rw [wrap64_in _ (by omega) (by omega), show (l.length : Int) - 1 = ((l.length - 1 : Nat) : Int) by omega, ← adj_srt h0]
  exact isSorted_l0 l hs _ (by omega)

/-- A slope walk. -/
def slw (l : List Int) (a : Int) : Bool := slp l a && decide (srt l = l)
theorem slw_slp {l : List Int} {a : Int} (h : slw l a = true) : slp l a = true := by
  unfold slw at h
  rw [Bool.and_eq_true] at h
  exact h.1
theorem slWalk_ev (l : List Int) (a : Int) : Ev (fun k => spec_slWalk.f k l a) (slw l a) := by
  unfold spec_slWalk.f slw
  refine Ev.bind (slGood_ev l a) ?_
  cases h : slp l a with
  | false => exact Ev.neg (by decide) (Ev.now _)
  | true =>
    have hl := slp_length h
    exact Ev.pos rfl (Ev.bind (paSorted_ev l (by omega)) (Ev.bind (l1Same_ev _ _ (srt_length l) (by rw [srt_length]; omega)) (Ev.now _)))
theorem isSlopeWalk_ev (l : List Int) (a : Int) : Ev (fun k => impl_isSlopeWalk.f k l a) (slw l a) := by
  unfold impl_isSlopeWalk.f slw
  refine Ev.bind (isSlopeParking_ev l a) ?_
  cases h : slp l a with
  | false => exact Ev.neg (by decide) (Ev.now _)
  | true =>
    have hl := slp_length h
    have hp := slope_in (slp_slope h)
    exact Ev.pos rfl (Ev.bind (isSorted_ev l (by omega) (by omega)) (Ev.now _))
end Go.Proofs.Ytajcjlflajfdkaa.Plain
