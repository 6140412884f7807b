/- What cuts of the program, and that of the reference, come to. Conditions: lengths below 2^40. -/
import Derived.Test.YtcfolhafjeefaaaPAllx2
import Derived.Test.YtcfolhafjeefaaaBaseP
import Derived.Test.YtcfolhafjeefaaaHandC
namespace Go.Proofs.Ytcfolhafjeefaaa.Plain
open Go.RowKit Go.Proofs.YtcfolhafjeefaaaW.PrintWords Go.Proofs.YtcfolhafjeefaaaW.PrintLast Go.Proofs.Ytcfolhafjeefaaa.Hand Go.Proofs.Ytcfolhafjeefaaa.PAll
set_option linter.unusedVariables false

/-- The cuts from j on, behind those that were found. -/
def cutsR (l : List Int) : Nat → Nat → List Int → List Int
  | 0, _, out => out
  | d + 1, j, out => cutsR l d (j + 1) (if cnt (fun x => decide (x < (j : Int))) l = (j : Int) then out ++ [(j : Int)] else out)
def cutsL (l : List Int) : List Int := cutsR l (l.length - 1) 1 []
theorem cutsR_length (l : List Int) : ∀ (d j : Nat) (out : List Int), (cutsR l d j out).length ≤ out.length + d := by
  intro d
  induction d with
  | zero => intro j out; exact Nat.le_refl _
  | succ d ih =>
    intro j out
    rw [cutsR]
    refine Nat.le_trans (ih _ _) ?_
    split
    · simp; omega
    · omega
theorem cutsL_length (l : List Int) : (cutsL l).length ≤ l.length := by
  have := cutsR_length l (l.length - 1) 1 []
  unfold cutsL
  simp at this
  omega
theorem cnt_cons (p : Int → Bool) (x : Int) (l : List Int) : cnt p (x :: l) = (if p x = true then 1 else 0) + cnt p l := by
  unfold cnt
  rw [List.filter_cons]
  split
  · simp; omega
  · simp
theorem cnt_split (j : Int) (l : List Int) : cnt (fun x => decide (x ≥ j)) l + cnt (fun x => decide (x < j)) l = (l.length : Int) := by
  induction l with
  | nil => rfl
  | cons x xs ih =>
    rw [cnt_cons, cnt_cons, List.length_cons]
    by_cases h : x ≥ j
    · rw [if_pos (decide_eq_true h), if_neg (by simp; omega)]
      omega
    · rw [if_neg (by simp; omega), if_pos (decide_eq_true (by omega))]
      omega
theorem cuts_l0 (l : List Int) (hs : l.length ≤ 1099511627776) : ∀ (d j : Nat) (out : List Int), d = l.length - j → 1 ≤ j → j ≤ l.length ∨ d = 0 ∧ j = 1 → out.length ≤ j →
    Ev (fun k => impl_cuts.l0 k l out (j : Int)) (cutsR l d j out) := by
  intro d
  induction d with
  | zero =>
    intro j out hd h1 h2 ho
    refine Ev.step (f := fun _ => some out) (fun k => ?_) (Ev.const rfl)
    rw [impl_cuts.l0, if_neg (by omega)]
  | succ d ih =>
    intro j out hd h1 h2 ho
    rw [cutsR]
    by_cases hc : cnt (fun x => decide (x < (j : Int))) l = (j : Int)
    · rw [if_pos hc]
      refine Ev.step (fun k => ?_) (ih (j + 1) _ (by omega) (by omega) (by omega) (by simp; omega))
      rw [impl_cuts.l0, if_pos (by omega), countIf_cuts.f, Option.bind_some, if_pos hc, if_pos (by omega), wrap_succ j (by omega)]
    · rw [if_neg hc]
      refine Ev.step (fun k => ?_) (ih (j + 1) _ (by omega) (by omega) (by omega) (by omega))
      rw [impl_cuts.l0, if_pos (by omega), countIf_cuts.f, Option.bind_some, if_neg hc, wrap_succ j (by omega)]
theorem cuts_ev (l : List Int) (hs : l.length ≤ 1099511627776) : Ev (fun k => impl_cuts.f k l) (cutsL l) := by
  unfold impl_cuts.f cutsL
  exact cuts_l0 l hs (l.length - 1) 1 [] rfl (by omega) (by omega) (by simp)
theorem paFrom_l0 (l : List Int) (j : Int) (hs : l.length ≤ 1099511627776) : ∀ (d n : Nat) (m : Int), n + d = l.length → m = cnt (fun x => decide (x ≥ j)) (l.take n) →
    Ev (fun k => spec_paFrom.l0 k j m l (l.length : Int) (n : Int)) (cnt (fun x => decide (x ≥ j)) l) := by
  intro d
  induction d with
  | zero =>
    intro n m hn hm
    refine Ev.step (f := fun _ => some m) (fun k => ?_) (Ev.const ?_)
    · rw [spec_paFrom.l0, if_neg (by omega)]
    · rw [hm, List.take_of_length_le (by omega)]
  | succ d ih =>
    intro n m hn hm
    have h1 : n < l.length := by omega
    have hc := cnt_snoc (fun x => decide (x ≥ j)) l (n : Int) (by omega) (by omega)
    rw [show ((n : Int) + 1).toNat = n + 1 by omega, Int.toNat_natCast, ← hm, rd_nat l n h1] at hc
    have h2 := cnt_le (fun x => decide (x ≥ j)) (l.take n)
    have h3 := cnt_nonneg (fun x => decide (x ≥ j)) (l.take n)
    rw [← hm] at h2 h3
    have h4 : (l.take n).length ≤ n := List.length_take_le _ _
    by_cases hx : l[n] ≥ j
    · rw [if_pos (decide_eq_true hx)] at hc
      refine Ev.step (fun k => ?_) (ih (n + 1) (m + 1) (by omega) hc.symm)
      rw [spec_paFrom.l0, if_pos (by omega), if_pos (by omega), if_pos (by omega), rd_nat l n h1, if_pos hx, wrap64_in (m + 1) (by omega) (by omega), wrap_succ n (by omega)]
    · rw [if_neg (by simp; omega), Int.add_zero] at hc
      refine Ev.step (fun k => ?_) (ih (n + 1) m (by omega) hc.symm)
      rw [spec_paFrom.l0, if_pos (by omega), if_pos (by omega), if_pos (by omega), rd_nat l n h1, if_neg hx, wrap_succ n (by omega)]
theorem paFrom_ev (l : List Int) (j : Int) (hs : l.length ≤ 1099511627776) : Ev (fun k => spec_paFrom.f k l j) (cnt (fun x => decide (x ≥ j)) l) := by
  unfold spec_paFrom.f
  exact paFrom_l0 l j hs l.length 0 0 (by omega) (by simp [cnt])
theorem paCuts_l0 (l : List Int) (hs : l.length ≤ 1099511627776) : ∀ (d j : Nat) (out : List Int), d = l.length - j → 1 ≤ j → j ≤ l.length ∨ d = 0 ∧ j = 1 → out.length ≤ j →
    Ev (fun k => spec_paCuts.l0 k l out (j : Int)) (cutsR l d j out) := by
  intro d
  induction d with
  | zero =>
    intro j out hd h1 h2 ho
    refine Ev.step (f := fun _ => some out) (fun k => ?_) (Ev.const rfl)
    rw [spec_paCuts.l0, if_neg (by omega)]
  | succ d ih =>
    intro j out hd h1 h2 ho
    rw [cutsR]
    have hsp := cnt_split (j : Int) l
    have h3 := cnt_nonneg (fun x => decide (x < (j : Int))) l
    have h4 := cnt_le (fun x => decide (x < (j : Int))) l
    refine Ev.step (f := ?f) (fun k => ?h) ?g
    case h => rw [spec_paCuts.l0, if_pos (by omega)]
    refine Ev.bind (paFrom_ev l (j : Int) hs) ?_
    rw [wrap64_in _ (by omega) (by omega), wrap_succ j (by omega), show (l.length : Int) - cnt (fun x => decide (x ≥ (j : Int))) l = cnt (fun x => decide (x < (j : Int))) l by omega]
    by_cases hc : cnt (fun x => decide (x < (j : Int))) l = (j : Int)
    · rw [if_pos hc]
      exact Ev.pos hc (Ev.pos (by omega) (ih (j + 1) _ (by omega) (by omega) (by omega) (by simp; omega)))
    · rw [if_neg hc]
      exact Ev.neg hc (ih (j + 1) _ (by omega) (by omega) (by omega) (by omega))
theorem paCuts_ev (l : List Int) (hs : l.length ≤ 1099511627776) : Ev (fun k => spec_paCuts.f k l) (cutsL l) := by
  unfold spec_paCuts.f cutsL
  exact paCuts_l0 l hs (l.length - 1) 1 [] rfl (by omega) (by omega) (by simp)
end Go.Proofs.Ytcfolhafjeefaaa.Plain
