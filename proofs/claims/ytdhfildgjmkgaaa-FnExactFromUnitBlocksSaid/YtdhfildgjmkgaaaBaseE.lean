/- What the printed helper functions of the laws come to: equal lists, copies, bounds. Conditions: lengths below 2^40. -/
import Derived.Test.YtdhfildgjmkgaaaPAllx1
import Derived.Test.YtdhfildgjmkgaaaPAllx3
import Derived.Test.YtdhfildgjmkgaaaPAllx4
import Derived.Test.YtdhfildgjmkgaaaBaseA
namespace Go.Proofs.Ytdhfildgjmkgaaa.Plain
open Go.RowKit Go.Proofs.YtdhfildgjmkgaaaW.PrintWords Go.Proofs.YtdhfildgjmkgaaaW.PrintLast Go.Proofs.Ytdhfildgjmkgaaa.Hand Go.Proofs.Ytdhfildgjmkgaaa.PAll
set_option linter.unusedVariables false

theorem eqIntS_l0 (a b : List Int) (hl : a.length = b.length) (hs : a.length ≤ 1099511627776) : ∀ (d n : Nat), n + d = a.length →
    Ev (fun k => laws_eqIntS.l0 k a b (n : Int)) (decide (a.drop n = b.drop n)) := by
  intro d
  induction d with
  | zero =>
    intro n hn
    refine Ev.step (f := fun _ => some true) (fun k => ?_) (Ev.const ?_)
    · rw [laws_eqIntS.l0, if_neg (by omega)]
    · rw [List.drop_eq_nil_of_le (by omega), List.drop_eq_nil_of_le (by omega)]
      simp
  | succ d ih =>
    intro n hn
    have h1 : n < a.length := by omega
    have h2 : n < b.length := by omega
    have e : (decide (a.drop n = b.drop n)) = (decide (a[n] = b[n]) && decide (a.drop (n + 1) = b.drop (n + 1))) := by
      rw [List.drop_eq_getElem_cons h1, List.drop_eq_getElem_cons h2]
      exact cons_eq _ _ _ _
    rw [e]
    by_cases hx : a[n] = b[n]
    · rw [decide_eq_true hx, Bool.true_and]
      refine Ev.step (f := fun k => laws_eqIntS.l0 k a b ((n + 1 : Nat) : Int)) (fun k => ?_) (ih (n + 1) (by omega))
      rw [laws_eqIntS.l0, if_pos (by omega), if_pos (by omega), if_pos (by omega), rd_nat a n h1, rd_nat b n h2, if_pos hx, wrap_succ n (by omega)]
    · rw [decide_eq_false hx, Bool.false_and]
      refine Ev.step (f := fun _ => some false) (fun k => ?_) (Ev.const rfl)
      rw [laws_eqIntS.l0, if_pos (by omega), if_pos (by omega), if_pos (by omega), rd_nat a n h1, rd_nat b n h2, if_neg hx]

theorem eqIntS_ev (a b : List Int) (hs : a.length ≤ 1099511627776) : Ev (fun k => laws_eqIntS.f k a b) (decide (a = b)) := by
  unfold laws_eqIntS.f
  by_cases hl : a.length = b.length
  · refine Ev.pos (by omega) ?_
    have h := eqIntS_l0 a b hl hs a.length 0 (by omega)
    rw [List.drop_zero, List.drop_zero] at h
    exact h
  · refine Ev.neg (by omega) (Ev.const ?_)
    rw [decide_eq_false (fun e => hl (by rw [e]))]
theorem eqIntS_same (a : List Int) (hs : a.length ≤ 1099511627776) : Ev (fun k => laws_eqIntS.f k a a) true := by
  have h := eqIntS_ev a a hs
  rwa [decide_eq_true rfl] at h

theorem toIntS_l0 (l : List Int) (hs : l.length ≤ 1099511627776) : ∀ (d n : Nat), n + d = l.length →
    Ev (fun k => laws_toIntS.l0 k l (l.take n ++ List.replicate (l.length - n) 0) (n : Int)) l := by
  intro d
  induction d with
  | zero =>
    intro n hn
    refine Ev.step (f := fun _ => some l) (fun k => ?_) (Ev.const rfl)
    rw [laws_toIntS.l0, if_neg (by omega), List.take_of_length_le (by omega), show l.length - n = 0 by omega, List.replicate_zero, List.append_nil]
  | succ d ih =>
    intro n hn
    have hn2 : n < l.length := by omega
    have e : (l.take n ++ List.replicate (l.length - n) (0 : Int)).set n l[n] = l.take (n + 1) ++ List.replicate (l.length - (n + 1)) 0 := by
      rw [List.set_append_right _ _ (by rw [List.length_take]; omega), List.length_take, Nat.min_eq_left (by omega), Nat.sub_self, show l.length - n = (l.length - (n + 1)) + 1 by omega, List.replicate_succ, List.set_cons_zero, List.take_succ_eq_append_getElem hn2, List.append_assoc]
      rfl
    refine Ev.step (f := fun k => laws_toIntS.l0 k l (l.take (n + 1) ++ List.replicate (l.length - (n + 1)) 0) ((n + 1 : Nat) : Int)) (fun k => ?_) (ih (n + 1) (by omega))
    rw [laws_toIntS.l0, if_pos (by omega), if_pos (by omega), if_pos (by rw [List.length_append, List.length_take, List.length_replicate]; omega), Int.toNat_natCast, rd_nat l n hn2, e, wrap_succ n (by omega)]
theorem toIntS_ev (l : List Int) (hs : l.length ≤ 1099511627776) : Ev (fun k => laws_toIntS.f k l) l := by
  unfold laws_toIntS.f
  refine Ev.pos (by omega) (Ev.pos (by omega) ?_)
  have h := toIntS_l0 l hs l.length 0 (by omega)
  simpa using h

theorem l1In_eq (a lo hi : Int) : spec_l1In.f a lo hi = some (decide (lo ≤ a ∧ a ≤ hi)) := by
  unfold spec_l1In.f
  by_cases h : lo ≤ a
  · rw [if_pos h]; simp [h]
  · rw [if_neg h]; simp [h]
theorem between_eq (a lo hi : Int) : impl_between.f a lo hi = some (decide (lo ≤ a ∧ a ≤ hi)) := by
  unfold impl_between.f
  by_cases h : lo ≤ a
  · rw [if_pos h]; simp [h]
  · rw [if_neg h]; simp [h]

theorem l1All_l0 (l : List Int) (lo hi : Int) (hs : l.length ≤ 1099511627776) : ∀ (d n : Nat), n + d = l.length →
    Ev (fun k => spec_l1All.l0 k lo hi l (l.length : Int) (n : Int)) ((l.drop n).all fun x => decide (lo ≤ x ∧ x ≤ hi)) := by
  intro d
  induction d with
  | zero =>
    intro n hn
    refine Ev.step (f := fun _ => some true) (fun k => ?_) (Ev.const ?_)
    · rw [spec_l1All.l0, if_neg (by omega)]
    · rw [List.drop_eq_nil_of_le (by omega)]
      rfl
  | succ d ih =>
    intro n hn
    have h1 : n < l.length := by omega
    rw [List.drop_eq_getElem_cons h1, List.all_cons]
    by_cases hx : lo ≤ l[n] ∧ l[n] ≤ hi
    · rw [decide_eq_true hx, Bool.true_and]
      refine Ev.step (f := fun k => spec_l1All.l0 k lo hi l (l.length : Int) ((n + 1 : Nat) : Int)) (fun k => ?_) (ih (n + 1) (by omega))
      rw [spec_l1All.l0, if_pos (by omega), if_pos (by omega), if_pos (by omega), rd_nat l n h1, l1In_eq, decide_eq_true hx, Option.bind_some, if_pos rfl, wrap_succ n (by omega)]
    · rw [decide_eq_false hx, Bool.false_and]
      refine Ev.step (f := fun _ => some false) (fun k => ?_) (Ev.const rfl)
      rw [spec_l1All.l0, if_pos (by omega), if_pos (by omega), if_pos (by omega), rd_nat l n h1, l1In_eq, decide_eq_false hx, Option.bind_some, if_neg (by decide)]
theorem l1All_ev (l : List Int) (lo hi : Int) (hs : l.length ≤ 1099511627776) : Ev (fun k => spec_l1All.f k l lo hi) (l.all fun x => decide (lo ≤ x ∧ x ≤ hi)) := by
  unfold spec_l1All.f
  have h := l1All_l0 l lo hi hs l.length 0 (by omega)
  rwa [List.drop_zero] at h
end Go.Proofs.Ytdhfildgjmkgaaa.Plain
