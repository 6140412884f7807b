/- Orders: what the program's and the reference's tests of an order of cars come to. No condition. -/
import Derived.Test.YtleemfmhilhklaaGreatPAllx1
import Derived.Test.YtleemfmhilhklaaGreatPAllx2
import Derived.Test.YtleemfmhilhklaaGreatPAllx4
import Derived.Test.YtleemfmhilhklaaGreatBaseX
import Derived.Test.YtleemfmhilhklaaGreatHandE
import Derived.Test.YtleemfmhilhklaaGreatBaseH
namespace Go.Proofs.YtleemfmhilhklaaGreat.Plain
open Go.RowKit Go.Proofs.YtleemfmhilhklaaGreatW.PrintWords Go.Proofs.YtleemfmhilhklaaGreatW.PrintLast Go.Proofs.YtleemfmhilhklaaGreat.Hand Go.Proofs.YtleemfmhilhklaaGreat.PAll
set_option linter.unusedVariables false
theorem sorted_eq (l : List Int) (hs : l.length ≤ 1099511627776) : impl_sorted.f l = some (srt l) := by
  unfold impl_sorted.f
  rw [if_pos hs]
  rfl
/-- An order of cars. -/
def order (l : List Int) : Bool := decide (srt l = iota 0 l.length) && decide (l.length ≤ 8)
theorem order_iff (l : List Int) : srt l = iota 0 l.length ↔ l.Nodup ∧ ∀ x ∈ l, 0 ≤ x ∧ x < (l.length : Int) := by
  constructor
  · intro h
    have hp : l.Perm (iota 0 l.length) := by rw [← h]; exact (srt_perm l).symm
    exact ⟨(hp.nodup_iff).2 (iota_nodup _), fun x hx => (iota_mem _ x).1 (hp.mem_iff.1 hx)⟩
  · rintro ⟨hn, hb⟩
    have hp : l.Perm (iota 0 l.length) := nodup_perm l _ hn (fun x hx => (iota_mem _ x).2 (hb x hx)) (by rw [iota_length]; exact Nat.le_refl _)
    exact (srt_unique hp.symm (iota_sorted _)).symm
theorem isOrder_l0 (l xs : List Int) (hs : xs.length ≤ 1099511627776) : ∀ (d n : Nat), n + d = xs.length →
    Ev (fun k => impl_isOrder.l0 k l xs (xs.length : Int) (n : Int)) (decide (xs.drop n = (iota 0 xs.length).drop n) && decide ((l.length : Int) ≤ 8)) := by
  intro d
  induction d with
  | zero =>
    intro n hn
    refine Ev.step (f := fun _ => some (decide ((l.length : Int) ≤ 8))) (fun k => ?_) (Ev.const ?_)
    · rw [impl_isOrder.l0, if_neg (by omega)]
    · rw [List.drop_eq_nil_of_le (by omega), List.drop_eq_nil_of_le (by rw [iota_length]; omega)]
      simp
  | succ d ih =>
    intro n hn
    have h1 : n < xs.length := by omega
    have h2 : n < (iota 0 xs.length).length := by rw [iota_length]; omega
    rw [List.drop_eq_getElem_cons h1, List.drop_eq_getElem_cons h2, cons_eq, iota_get]
    by_cases hx : xs[n] = 0 + (n : Int)
    · rw [decide_eq_true hx, Bool.true_and]
      refine Ev.step (fun k => ?_) (ih (n + 1) (by omega))
      rw [impl_isOrder.l0, if_pos (by omega), if_pos (by omega), if_pos (by omega), rd_nat xs n h1, if_pos (by omega), wrap_succ n (by omega)]
    · rw [decide_eq_false hx, Bool.false_and, Bool.false_and]
      refine Ev.step (f := fun _ => some false) (fun k => ?_) (Ev.now _)
      rw [impl_isOrder.l0, if_pos (by omega), if_pos (by omega), if_pos (by omega), rd_nat xs n h1, if_neg (by omega)]
theorem isOrder_ev (l : List Int) (hs : l.length ≤ 1099511627776) : Ev (fun k => impl_isOrder.f k l) (order l) := by
  unfold impl_isOrder.f order
  refine Ev.bindc (sorted_eq l hs) ?_
  have h := isOrder_l0 l (srt l) (by rw [srt_length]; omega) (srt l).length 0 (by omega)
  rw [List.drop_zero, List.drop_zero, srt_length] at h
  have e : decide ((l.length : Int) ≤ 8) = decide (l.length ≤ 8) := by
    by_cases h8 : l.length ≤ 8
    · rw [decide_eq_true h8, decide_eq_true (by omega)]
    · rw [decide_eq_false h8, decide_eq_false (by omega)]
  rw [e] at h
  rw [srt_length]
  exact h
/-- No number stands twice, from place n on. -/
theorem paOutcome_l0 (l : List Int) (hs : l.length ≤ 1099511627776) : ∀ (d n : Nat), n + d = l.length → (l.take n).Nodup →
    Ev (fun k => spec_paOutcome.l0 k l l (l.length : Int) (n : Int)) (decide l.Nodup) := by
  intro d
  induction d with
  | zero =>
    intro n hn hd
    rw [List.take_of_length_le (by omega)] at hd
    refine Ev.step (f := fun _ => some true) (fun k => ?_) (Ev.const (by rw [decide_eq_true hd]))
    rw [spec_paOutcome.l0, if_neg (by omega)]
  | succ d ih =>
    intro n hn hd
    have h1 : n < l.length := by omega
    have e : l.take (n + 1) = l.take n ++ [l[n]] := List.take_succ_eq_append_getElem h1
    refine Ev.step (f := ?f1) (fun k => ?h1) ?g1
    case h1 => rw [spec_paOutcome.l0, if_pos (by omega), if_pos (by omega), if_pos (by omega), if_pos (by omega), Int.toNat_natCast, rd_nat l n h1]
    refine Ev.bind (l1Has_ev (l.take n) l[n] (by simp; omega)) ?_
    by_cases hm : l[n] ∈ l.take n
    · rw [decide_eq_true hm]
      have hnd : ¬ l.Nodup := by
        intro h2
        have h3 : (l.take (n + 1)).Nodup := h2.sublist (List.take_sublist _ _)
        rw [e, List.nodup_append] at h3
        exact h3.2.2 _ hm _ List.mem_cons_self rfl
      rw [decide_eq_false hnd]
      exact Ev.pos rfl (Ev.now _)
    · rw [decide_eq_false hm, wrap_succ n (by omega)]
      refine Ev.neg (by decide) (ih (n + 1) (by omega) ?_)
      rw [e, List.nodup_append]
      refine ⟨hd, by simp, fun x hx y hy => ?_⟩
      rw [List.mem_singleton] at hy
      subst hy
      exact fun e2 => hm (e2 ▸ hx)
theorem paOutcome_ev (l : List Int) : Ev (fun k => spec_paOutcome.f k l) (order l) := by
  unfold spec_paOutcome.f order
  by_cases h8 : l.length ≤ 8
  · rw [decide_eq_true h8, Bool.and_true]
    refine Ev.neg (by omega) ?_
    rw [wrap64_in _ (by omega) (by omega)]
    refine Ev.bind (l1All_ev l 0 ((l.length : Int) - 1) (by omega)) ?_
    cases h2 : (l.all fun x => decide (0 ≤ x ∧ x ≤ (l.length : Int) - 1)) with
    | false =>
      have hn : ¬ srt l = iota 0 l.length := by
        intro h3
        rw [order_iff] at h3
        rw [List.all_eq_false] at h2
        obtain ⟨x, hx, hc⟩ := h2
        have := h3.2 x hx
        exact hc (decide_eq_true (by omega))
      rw [decide_eq_false hn]
      refine Ev.step (f := fun _ => some false) (fun k => ?_) (Ev.now _)
      rw [spec_paOutcome.j0, if_pos (by decide)]
    | true =>
      have e : decide (srt l = iota 0 l.length) = decide l.Nodup := by
        refine decide_eq_decide.2 ((order_iff l).trans ⟨fun h => h.1, fun h => ⟨h, fun x hx => ?_⟩⟩)
        have := of_decide_eq_true (List.all_eq_true.1 h2 x hx)
        omega
      rw [e]
      refine Ev.step (f := ?f1) (fun k => ?h1) ?g1
      case h1 => rw [spec_paOutcome.j0, if_neg (by decide)]
      exact paOutcome_l0 l (by omega) l.length 0 (by omega) (by simp)
  · rw [decide_eq_false h8, Bool.and_false]
    refine Ev.pos (by omega) (Ev.step (f := fun _ => some false) (fun k => ?_) (Ev.now _))
    rw [spec_paOutcome.j0, if_pos rfl]
end Go.Proofs.YtleemfmhilhklaaGreat.Plain
