/- The pure statement of the law FnExactTurnToSlope: the program's TurnToSlope and the reference's one answer alike; no condition beside the row's own. -/
import Derived.Test.YtibmphdbkhchdaaPAllx1
import Derived.Test.YtibmphdbkhchdaaPAllx2
import Derived.Test.YtibmphdbkhchdaaPAllx3
import Derived.Test.YtibmphdbkhchdaaBaseT
import Derived.Test.YtibmphdbkhchdaaBaseM
namespace Go.Proofs.Ytibmphdbkhchdaa.Pure
open Go.RowKit Go.Proofs.YtibmphdbkhchdaaW.PrintWords Go.Proofs.YtibmphdbkhchdaaW.PrintLast Go.Proofs.Ytibmphdbkhchdaa.Hand Go.Proofs.Ytibmphdbkhchdaa.PAll Go.Proofs.Ytibmphdbkhchdaa.Plain
set_option linter.unusedVariables false
namespace TurnToSlope
theorem slTurned_l0 (l : List Int) (a b : Int) (ha : 0 < a ∧ a ≤ 13) (hb : 0 ≤ b ∧ b < a) (hl : ∀ x ∈ l, 0 ≤ x ∧ x < a) (hs : l.length ≤ 1000) : ∀ (d n : Nat), n + d = l.length →
    Ev (fun k => spec_slTurned.l0 k a b ((turned l a b).take n) l (l.length : Int) (n : Int)) (turned l a b) := by
  intro d
  induction d with
  | zero =>
    intro n hn
    refine Ev.step (f := fun _ => some (turned l a b)) (fun k => ?_) (Ev.now _)
    rw [spec_slTurned.l0, if_neg (by omega), List.take_of_length_le (by rw [turned_length]; omega)]
  | succ d ih =>
    intro n hn
    have h1 : n < l.length := by omega
    have hx := hl l[n] (List.getElem_mem h1)
    have h2 : n < (turned l a b).length := by rw [turned_length]; omega
    have e : (turned l a b).take (n + 1) = (turned l a b).take n ++ [Int.tmod (l[n] + b) a] := by
      rw [List.take_succ_eq_append_getElem h2]
      simp [turned]
    refine Ev.step (fun k => ?_) (ih (n + 1) (by omega))
    rw [spec_slTurned.l0, if_pos (by omega), if_pos (by omega), if_pos (by omega), if_neg (by omega), if_pos (by simp [turned_length]; omega), rd_nat l n h1, wrap64_in _ (by omega) (by omega), wrap_succ n (by omega), e]
theorem turn_l0 (l : List Int) (a b : Int) (ha : 0 < a ∧ a ≤ 13) (hb : 0 ≤ b ∧ b < a) (hl : ∀ x ∈ l, 0 ≤ x ∧ x < a) (hs : l.length ≤ 1000) : ∀ (d n : Nat), n + d = l.length →
    Ev (fun k => impl_turn.l0 k a b ((turned l a b).take n) l (l.length : Int) (n : Int)) (turned l a b) := by
  intro d
  induction d with
  | zero =>
    intro n hn
    refine Ev.step (f := fun _ => some (turned l a b)) (fun k => ?_) (Ev.now _)
    rw [impl_turn.l0, if_neg (by omega), List.take_of_length_le (by rw [turned_length]; omega)]
  | succ d ih =>
    intro n hn
    have h1 : n < l.length := by omega
    have hx := hl l[n] (List.getElem_mem h1)
    have h2 : n < (turned l a b).length := by rw [turned_length]; omega
    have e : (turned l a b).take (n + 1) = (turned l a b).take n ++ [Int.tmod (l[n] + b) a] := by
      rw [List.take_succ_eq_append_getElem h2]
      simp [turned]
    have ht : 0 ≤ Int.tmod (l[n] + b) a ∧ Int.tmod (l[n] + b) a < a := by
      rw [turn_one hx hb]
      split <;> omega
    have e2 : Int.tmod (wrap64 (Int.tmod (l[n] + b) a + a)) a = Int.tmod (l[n] + b) a := by
      rw [wrap64_in _ (by omega) (by omega), Int.tmod_eq_emod_of_nonneg (by omega), Int.add_emod_right]
      exact Int.emod_eq_of_lt ht.1 ht.2
    refine Ev.step (fun k => ?_) (ih (n + 1) (by omega))
    rw [impl_turn.l0, if_pos (by omega), if_pos (by omega), if_pos (by omega), if_neg (by omega), if_pos (by simp [turned_length]; omega), rd_nat l n h1, wrap64_in (l[n] + b) (by omega) (by omega), e2, wrap_succ n (by omega), e]
theorem slTurned_ev (l : List Int) (a b : Int) (ha : 0 < a ∧ a ≤ 13) (hb : 0 ≤ b ∧ b < a) (hl : ∀ x ∈ l, 0 ≤ x ∧ x < a) (hs : l.length ≤ 1000) : Ev (fun k => spec_slTurned.f k l a b) (turned l a b) := by
  unfold spec_slTurned.f
  exact slTurned_l0 l a b ha hb hl hs l.length 0 (by omega)
theorem turn_ev (l : List Int) (a b : Int) (ha : 0 < a ∧ a ≤ 13) (hb : 0 ≤ b ∧ b < a) (hl : ∀ x ∈ l, 0 ≤ x ∧ x < a) (hs : l.length ≤ 1000) : Ev (fun k => impl_turn.f k l a b) (turned l a b) := by
  unfold impl_turn.f
  exact turn_l0 l a b ha hb hl hs l.length 0 (by omega)
theorem search (l : List Int) (a : Int) (hs : slope (l.length : Int) a = true) (hl : ∀ x ∈ l, 0 ≤ x ∧ x < a) : ∀ (d b : Nat), (b : Int) + (d : Int) = a → (∃ c : Int, (b : Int) ≤ c ∧ c < a ∧ under (turned l a c) a = true) →
    ∃ r : List Int × Int, Ev (fun k => spec_slTurn.l0 k l a (b : Int)) r ∧ Ev (fun k => impl_TurnToSlope.l0 k l a a (b : Int)) (r.1, r.2, true) ∧ r.1.length = l.length ∧ ((b : Int) ≤ r.2 ∧ r.2 < a ∧ r.1 = turned l a r.2 ∧ under (turned l a r.2) a = true) := by
  have hin := slope_in hs
  intro d
  induction d with
  | zero =>
    rintro b hb ⟨c, h1, h2, h3⟩
    omega
  | succ d ih =>
    rintro b hb ⟨c, h1, h2, h3⟩
    have hsl : slope ((turned l a (b : Int)).length : Int) a = true := by rw [turned_length]; exact hs
    have hg := slGood_ev (turned l a (b : Int)) a
    have hu := isUnder_ev hsl
    have e : slp (turned l a (b : Int)) a = under (turned l a (b : Int)) a := by unfold slp; rw [hsl, Bool.true_and]
    rw [e] at hg
    have ht1 := slTurned_ev l a (b : Int) (by omega) (by omega) hl (by omega)
    have ht2 := turn_ev l a (b : Int) (by omega) (by omega) hl (by omega)
    cases hb2 : under (turned l a (b : Int)) a with
    | true =>
      rw [hb2] at hg hu
      refine ⟨(turned l a (b : Int), (b : Int)), ?_, ?_, turned_length _ _ _, Int.le_refl _, by omega, rfl, hb2⟩
      · refine Ev.step (f := ?f1) (fun k => ?h1) ?g1
        case h1 => rw [spec_slTurn.l0]
        exact Ev.bind ht1 (Ev.bind hg (Ev.pos rfl (Ev.bind ht1 (Ev.now _))))
      · refine Ev.step (f := ?f2) (fun k => ?h2) ?g2
        case h2 => rw [impl_TurnToSlope.l0, if_pos (by omega)]
        exact Ev.bind ht2 (Ev.bind hu (Ev.pos rfl (Ev.now _)))
    | false =>
      rw [hb2] at hg hu
      have hne : c ≠ (b : Int) := by
        intro e2
        rw [e2, hb2] at h3
        cases h3
      obtain ⟨r, hr1, hr2, hr3⟩ := ih (b + 1) (by omega) ⟨c, by omega, h2, h3⟩
      refine ⟨r, ?_, ?_, hr3.1, by omega, hr3.2.2⟩
      · refine Ev.step (f := ?f5) (fun k => ?h5) ?g5
        case h5 => rw [spec_slTurn.l0, wrap_succ b (by omega)]
        exact Ev.bind ht1 (Ev.bind hg (Ev.neg (by decide) hr1))
      · refine Ev.step (f := ?f6) (fun k => ?h6) ?g6
        case h6 => rw [impl_TurnToSlope.l0, if_pos (by omega), wrap_succ b (by omega)]
        exact Ev.bind ht2 (Ev.bind hu (Ev.neg (by decide) hr2))
theorem both2 (l : List Int) (a : Int) : ∃ r : List Int × Int × Bool, (Ev (fun k => spec_TurnToSlope.f k l a) r ∧ Ev (fun k => impl_TurnToSlope.f k l a) r ∧ r.1.length ≤ 100) ∧ (r.2.2 = true → slope (l.length : Int) a = true ∧ (∀ x ∈ l, 0 ≤ x ∧ x < a) ∧ 0 ≤ r.2.1 ∧ r.2.1 < a ∧ r.1 = turned l a r.2.1 ∧ under (turned l a r.2.1) a = true) := by
  unfold spec_TurnToSlope.f impl_TurnToSlope.f
  cases h : slope (l.length : Int) a with
  | false =>
    have h1 := slIs_ev (l.length : Int) a
    have h2 := isSlope_ev (l.length : Int) a
    rw [h] at h1 h2
    refine ⟨([], 0, false), ⟨Ev.bind h1 (Ev.neg (by decide) (Ev.now _)), Ev.bind h2 (Ev.neg (by decide) (Ev.step (f := fun _ => some ([], 0, false)) (fun k => ?_) (Ev.now _))), by simp⟩, fun h => by cases h⟩
    rw [impl_TurnToSlope.j0, if_pos rfl]
  | true =>
    have h1 := slIs_ev (l.length : Int) a
    have h2 := isSlope_ev (l.length : Int) a
    rw [h] at h1 h2
    have hin := slope_in h
    rw [wrap64_in (a - 1) (by omega) (by omega)]
    have h3 := l1All_ev l 0 (a - 1) (by omega)
    have h4 : impl_areBetween.f l 0 (a - 1) = some (l.all fun x => decide (0 ≤ x ∧ x ≤ a - 1)) := rfl
    cases hall : (l.all fun x => decide (0 ≤ x ∧ x ≤ a - 1)) with
    | false =>
      rw [hall] at h3 h4
      refine ⟨([], 0, false), ⟨Ev.bind h1 (Ev.pos rfl (Ev.bind h3 (Ev.neg (by decide) (Ev.now _)))), Ev.bind h2 (Ev.pos rfl (Ev.bindc h4 (Ev.step (f := fun _ => some ([], 0, false)) (fun k => ?_) (Ev.now _)))), by simp⟩, fun h => by cases h⟩
      rw [impl_TurnToSlope.j0, if_pos (by decide)]
    | true =>
      rw [hall] at h3 h4
      have hl : ∀ x ∈ l, 0 ≤ x ∧ x < a := fun x hx => by
        have := of_decide_eq_true (List.all_eq_true.1 hall x hx)
        omega
      obtain ⟨c, hc1, hc2, hc3⟩ := turn_exists l a (by omega) hl
      have hu : under (turned l a c) a = true := under_of (by rw [turned_length]; exact h) (turned_in hl ⟨hc1, hc2⟩) (by rw [turned_length]; exact hc3)
      obtain ⟨r, hr1, hr2, hr3⟩ := search l a h hl a.toNat 0 (by omega) ⟨c, by omega, hc2, hu⟩
      refine ⟨(r.1, r.2, true), ⟨Ev.bind h1 (Ev.pos rfl (Ev.bind h3 (Ev.pos rfl (Ev.bind ?_ (Ev.now _))))), Ev.bind h2 (Ev.pos rfl (Ev.bindc h4 (Ev.step (f := ?f2) (fun k => ?h2) ?g2))), by simp only; omega⟩, fun _ => ⟨rfl, hl, by have := hr3.2.1; simpa using this, hr3.2.2⟩⟩
      · unfold spec_slTurn.f
        exact hr1
      case h2 => rw [impl_TurnToSlope.j0, if_neg (by decide)]
      exact hr2
theorem both (l : List Int) (a : Int) : ∃ r : List Int × Int × Bool, Ev (fun k => spec_TurnToSlope.f k l a) r ∧ Ev (fun k => impl_TurnToSlope.f k l a) r ∧ r.1.length ≤ 100 := by
  obtain ⟨r, h, _⟩ := both2 l a
  exact ⟨r, h⟩
noncomputable def res (l : List Int) (a : Int) : List Int × Int × Bool := Classical.choose (both l a)
theorem spec_ev (l : List Int) (a : Int) : Ev (fun k => spec_TurnToSlope.f k l a) (res l a) := (Classical.choose_spec (both l a)).1
theorem impl_ev (l : List Int) (a : Int) : Ev (fun k => impl_TurnToSlope.f k l a) (res l a) := (Classical.choose_spec (both l a)).2.1
theorem res_length (l : List Int) (a : Int) : (res l a).1.length ≤ 100 := (Classical.choose_spec (both l a)).2.2
end TurnToSlope
end Go.Proofs.Ytibmphdbkhchdaa.Pure
