/- The pure statement of the law FnExactLeastGreatest: the program's LeastGreatest and the reference's one answer alike; no condition beside the row's own. -/
import Derived.Test.YtflgalpfbjhdlaaGreatPAllx1
import Derived.Test.YtflgalpfbjhdlaaGreatPAllx2
import Derived.Test.YtflgalpfbjhdlaaGreatPAllx3
import Derived.Test.YtflgalpfbjhdlaaGreatBaseF
import Derived.Test.YtflgalpfbjhdlaaGreatBaseB
import Derived.Test.YtflgalpfbjhdlaaGreatBaseK
import Derived.Test.YtflgalpfbjhdlaaGreatBaseY
namespace Go.Proofs.YtflgalpfbjhdlaaGreat.Pure
open Go.RowKit Go.Proofs.YtflgalpfbjhdlaaGreatW.PrintWords Go.Proofs.YtflgalpfbjhdlaaGreatW.PrintLast Go.Proofs.YtflgalpfbjhdlaaGreat.Hand Go.Proofs.YtflgalpfbjhdlaaGreat.PAll Go.Proofs.YtflgalpfbjhdlaaGreat.Plain
set_option linter.unusedVariables false
namespace LeastGreatest
def all (l : List Int) (p : Int) : Bool := good l p && !decide ((-1 : Int) ∈ sdrive p [] l)
theorem driveCars_ev {l : List Int} {p : Int} (h : good l p = true) : Ev (fun k => impl_DriveCars.f k l p) (if (-1 : Int) ∈ sdrive p [] l then ([], false) else (sdrive p [] l, true)) := by
  have hp := good_places h
  have h8 := good_cars h
  have hd := drive_ev l p (by omega) (by omega) (by omega) (fun x hx => by have := good_in h x hx; omega)
  unfold impl_DriveCars.f
  refine Ev.bindc (areFav_eq l p) ?_
  rw [h]
  exact Ev.pos rfl (Ev.bind hd (Ev.now _))
theorem doPark_ev (l : List Int) (p : Int) : Ev (fun k => impl_doPark.f k l p) (all l p) := by
  unfold impl_doPark.f all
  cases h : good l p with
  | false =>
    refine Ev.bind (a := ([], false)) ?_ (Ev.now _)
    unfold impl_DriveCars.f
    refine Ev.bindc (areFav_eq l p) ?_
    rw [h]
    exact Ev.neg (by decide) (Ev.now _)
  | true =>
    have hd := driveCars_ev h
    by_cases hm : (-1 : Int) ∈ sdrive p [] l
    · rw [if_pos hm] at hd
      rw [decide_eq_true hm]
      exact Ev.bind hd (Ev.now _)
    · rw [if_neg hm] at hd
      rw [decide_eq_false hm]
      exact Ev.bind hd (Ev.now _)
def reo (l o : List Int) (n : Nat) : List Int := (o.take n).map fun x => rd l x
theorem reo_succ (l o : List Int) (n : Nat) (h : n < o.length) : reo l o (n + 1) = reo l o n ++ [rd l o[n]] := by
  unfold reo
  rw [List.take_succ_eq_append_getElem h, List.map_append]
  rfl
theorem reo_length (l o : List Int) (n : Nat) (h : n ≤ o.length) : (reo l o n).length = n := by
  unfold reo
  simp
  omega
theorem order_l0 (l o : List Int) (hs : o.length ≤ 1000) (hl : o.length = l.length) (ho : ∀ x ∈ o, 0 ≤ x ∧ x < (o.length : Int)) : ∀ (d n : Nat), n + d = o.length →
    Ev (fun k => spec_vaOrder.l0 k l (reo l o n) o (o.length : Int) (n : Int)) (reo l o o.length) ∧ Ev (fun k => impl_reordered.l0 k l (reo l o n) o (o.length : Int) (n : Int)) (reo l o o.length) := by
  intro d
  induction d with
  | zero =>
    intro n hn
    obtain rfl : n = o.length := by omega
    refine ⟨Ev.step (f := fun _ => some (reo l o o.length)) (fun k => ?_) (Ev.now _), Ev.step (f := fun _ => some (reo l o o.length)) (fun k => ?_) (Ev.now _)⟩
    · rw [spec_vaOrder.l0, if_neg (by omega)]
    · rw [impl_reordered.l0, if_neg (by omega)]
  | succ d ih =>
    intro n hn
    have h1 : n < o.length := by omega
    have hx := ho o[n] (List.getElem_mem h1)
    refine ⟨Ev.step (fun k => ?_) (ih (n + 1) (by omega)).1, Ev.step (fun k => ?_) (ih (n + 1) (by omega)).2⟩
    · rw [spec_vaOrder.l0, if_pos (by omega), if_pos (by omega), if_pos (by omega), rd_nat o n h1, if_pos (by omega), if_pos (by omega), if_pos (by rw [reo_length l o n (by omega)]; omega), wrap_succ n (by omega), reo_succ l o n h1]
    · rw [impl_reordered.l0, if_pos (by omega), if_pos (by omega), if_pos (by omega), rd_nat o n h1, if_pos (by omega), if_pos (by omega), if_pos (by rw [reo_length l o n (by omega)]; omega), wrap_succ n (by omega), reo_succ l o n h1]
/-- The cars in their fair order. -/
def fcars (l : List Int) : List Int := reo l (fairS l) (fairS l).length
theorem fcars_perm {l : List Int} (h8 : l.length ≤ 8) (hx : ∀ x ∈ l, 0 ≤ x ∧ x < 100) : (fcars l).Perm l := by
  unfold fcars reo
  rw [List.take_of_length_le (Nat.le_refl _)]
  have h1 := (fairS_perm l h8 hx).map fun x => rd l x
  have e : (iota 0 l.length).map (fun x => rd l x) = l := by
    apply List.ext_getElem
    · simp [iota]
    · intro i h2 h3
      rw [List.getElem_map, iota_get, show (0 : Int) + (i : Int) = (i : Int) by omega, rd_nat l i h3]
  rwa [e] at h1
theorem most_l0 (xs : List Int) (hs : xs.length ≤ 1000) : ∀ (d n : Nat) (m : Int), n + d = xs.length →
    ∃ r, Ev (fun k => spec_vaGreatest.l0 k m xs (xs.length : Int) (n : Int)) r ∧ ∀ a, r ≤ a ↔ m ≤ a ∧ ∀ x ∈ xs.drop n, x ≤ a := by
  intro d
  induction d with
  | zero =>
    intro n m hn
    refine ⟨m, Ev.step (f := fun _ => some m) (fun k => ?_) (Ev.now _), fun a => ?_⟩
    · rw [spec_vaGreatest.l0, if_neg (by omega)]
    · rw [List.drop_eq_nil_of_le (by omega)]
      simp
  | succ d ih =>
    intro n m hn
    have h1 : n < xs.length := by omega
    obtain ⟨r, hr, ha⟩ := ih (n + 1) (mx m xs[n]) (by omega)
    have hm : spec_l1Most.f m xs[n] = some (mx m xs[n]) := by
      unfold spec_l1Most.f mx
      split <;> split <;> first | rfl | (congr 1; omega)
    refine ⟨r, Ev.step (fun k => ?_) hr, fun a => ?_⟩
    · rw [spec_vaGreatest.l0, if_pos (by omega), if_pos (by omega), if_pos (by omega), rd_nat xs n h1, hm, Option.bind_some, wrap_succ n (by omega)]
    · rw [ha a, mx_le, List.drop_eq_getElem_cons h1]
      constructor
      · rintro ⟨⟨h2, h3⟩, h4⟩
        refine ⟨h2, fun x hx => ?_⟩
        rcases List.mem_cons.1 hx with rfl | hx
        · exact h3
        · exact h4 x hx
      · rintro ⟨h2, h3⟩
        exact ⟨⟨h2, h3 _ List.mem_cons_self⟩, fun x hx => h3 x (List.mem_cons_of_mem _ hx)⟩
/-- The greatest of 0 and the cars' distances. -/
def IsG (g : Int) (t : List Int) (p : Int) : Prop := ∀ a, g ≤ a ↔ 0 ≤ a ∧ ∀ x ∈ dst (sdrive p [] t) t t.length, x ≤ a
theorem greatest_both {t : List Int} {p : Int} (h : all t p = true) : ∃ r, (Ev (fun k => spec_vaGreatest.f k t p) r ∧ Ev (fun k => impl_greatest.f k t p) r) ∧ IsG r t p := by
  unfold all at h
  rw [Bool.and_eq_true, Bool.not_eq_true', decide_eq_false_iff_not] at h
  have hp := good_places h.1
  have h8 := good_cars h.1
  have hlen : (sdrive p [] t).length = t.length := by rw [sdrive_length]; simp
  obtain ⟨r, hr, ha⟩ := most_l0 (dst (sdrive p [] t) t t.length) (by rw [dst_length]; omega) (dst (sdrive p [] t) t t.length).length 0 0 (by omega)
  obtain ⟨s, hs, hb⟩ := max_ev (dst (sdrive p [] t) t t.length ++ [0]) (by simp) (by simp [dst_length]; omega)
  have e : s = r := by
    have hab : ∀ a, s ≤ a ↔ r ≤ a := by
      intro a
      rw [hb a, ha a, List.drop_zero]
      constructor
      · intro h2
        exact ⟨h2 0 (by simp), fun x hx => h2 x (List.mem_append_left _ hx)⟩
      · rintro ⟨h2, h3⟩ x hx
        rcases List.mem_append.1 hx with hx | hx
        · exact h3 x hx
        · rw [List.mem_singleton] at hx
          omega
    have h1 := (hab r).2 (Int.le_refl _)
    have h2 := (hab s).1 (Int.le_refl _)
    omega
  subst e
  refine ⟨s, ⟨?_, ?_⟩, fun a => by rw [ha a, List.drop_zero]⟩
  · unfold spec_vaGreatest.f
    refine Ev.bind (a := dst (sdrive p [] t) t t.length) ?_ hr
    unfold spec_paDistances.f
    refine Ev.bind (a := sdrive p [] t) ?_ ?_
    · unfold spec_paDrive.f
      exact paDrive_l p t (by omega) (by omega) (by omega) t [] 0 rfl rfl (by omega) (fun x hx => by have := good_in h.1 x hx; omega)
    · exact paDistances_l0 (sdrive p [] t) t hlen (by omega) t.length 0 (by omega)
  · unfold impl_greatest.f
    refine Ev.bind (a := (dst (sdrive p [] t) t t.length, true)) ?_ (Ev.pos (by simp only [dst_length]; omega) (Ev.bind hs (Ev.now _)))
    unfold impl_DistancesOf.f
    have hd := driveCars_ev h.1
    rw [if_neg h.2] at hd
    refine Ev.bind hd ?_
    have h1 := distancesOf_l0 (sdrive p [] t) t true hlen (by omega) t.length 0 (by omega)
    have e : dst (sdrive p [] t) t 0 ++ (sdrive p [] t).drop 0 = sdrive p [] t := by simp [dst]
    rw [e] at h1
    exact h1
theorem both (l : List Int) (p : Int) : ∃ r : Int × Bool, (Ev (fun k => spec_LeastGreatest.f k l p) r ∧ Ev (fun k => impl_LeastGreatest.f k l p) r) ∧ r.2 = all l p ∧ (all l p = true → IsG r.1 (fcars l) p) := by
  have hd := doPark_ev l p
  unfold spec_LeastGreatest.f impl_LeastGreatest.f
  have hg := paGood_ev l p
  cases h : good l p with
  | false =>
    have e : all l p = false := by unfold all; rw [h]; rfl
    rw [e] at hd
    rw [h] at hg
    refine ⟨(0, false), ⟨Ev.bind hg (Ev.neg (by decide) (Ev.step (f := fun _ => some (0, false)) (fun k => ?_) (Ev.now _))), Ev.bind hd (Ev.neg (by decide) (Ev.now _))⟩, e.symm, fun h => absurd (e.symm.trans h) (by decide)⟩
    rw [spec_LeastGreatest.j0, if_pos rfl]
  | true =>
    rw [h] at hg
    have hp := good_places h
    have h8 := good_cars h
    have hx : ∀ x ∈ l, 0 ≤ x ∧ x < 100 := fun x hx => by have := good_in h x hx; omega
    have ha : Ev (fun k => spec_paAll.f k l p) (all l p) := by
      unfold spec_paAll.f all
      rw [h, Bool.true_and]
      refine Ev.bind (a := sdrive p [] l) ?_ (Ev.bind (l1Has_ev _ _ (by rw [sdrive_length]; simp; omega)) (Ev.now _))
      unfold spec_paDrive.f
      exact paDrive_l p l (by omega) (by omega) (by omega) l [] 0 rfl rfl (by omega) (fun x hx2 => by have := hx x hx2; omega)
    cases h2 : all l p with
    | false =>
      rw [h2] at hd ha
      refine ⟨(0, false), ⟨Ev.bind hg (Ev.pos rfl (Ev.bind ha (Ev.step (f := fun _ => some (0, false)) (fun k => ?_) (Ev.now _)))), Ev.bind hd (Ev.neg (by decide) (Ev.now _))⟩, rfl, fun h => absurd h (by decide)⟩
      rw [spec_LeastGreatest.j0, if_pos (by decide)]
    | true =>
      rw [h2] at hd ha
      have hf := fairS_perm l h8 hx
      have hfl := hf.length_eq
      rw [iota_length] at hfl
      have hfi : ∀ x ∈ fairS l, 0 ≤ x ∧ x < ((fairS l).length : Int) := fun x hx2 => by rw [hfl]; exact (iota_mem _ x).1 (hf.mem_iff.1 hx2)
      have ho := order_l0 l (fairS l) (by omega) hfl hfi (fairS l).length 0 (by omega)
      have hperm := fcars_perm h8 hx
      have hall : all (fcars l) p = true := by
        have h3 := h2
        unfold all at h3 ⊢
        rw [Bool.and_eq_true, Bool.not_eq_true', decide_eq_false_iff_not] at h3 ⊢
        refine ⟨?_, street_perm (by omega) hperm.symm (good_in h) h3.2⟩
        unfold good
        rw [decide_eq_true hp, Bool.true_and, decide_eq_true (by rw [hperm.length_eq]; exact h8), Bool.true_and, List.all_eq_true]
        intro x hx2
        have := good_in h x (hperm.mem_iff.1 hx2)
        exact decide_eq_true (by omega)
      obtain ⟨r, ⟨hr1, hr2⟩, hr3⟩ := greatest_both hall
      refine ⟨(r, true), ⟨Ev.bind hg (Ev.pos rfl (Ev.bind ha (Ev.step (f := ?f1) (fun k => ?h1) ?g1))), Ev.bind hd (Ev.pos rfl (Ev.bindc (fair_ev l h8 hx) (Ev.bind (a := fcars l) ?_ (Ev.bind hr2 (Ev.now _)))))⟩, rfl, fun _ => hr3⟩
      case h1 => rw [spec_LeastGreatest.j0, if_neg (by decide)]
      · refine Ev.bind (vaFair_ev l h8 hx) (Ev.bind (a := fcars l) ?_ (Ev.bind hr1 (Ev.now _)))
        unfold spec_vaOrder.f
        exact ho.1
      · unfold impl_reordered.f
        exact ho.2
noncomputable def res (l : List Int) (p : Int) : Int × Bool := Classical.choose (both l p)
theorem spec_ev (l : List Int) (p : Int) : Ev (fun k => spec_LeastGreatest.f k l p) (res l p) := (Classical.choose_spec (both l p)).1.1
theorem impl_ev (l : List Int) (p : Int) : Ev (fun k => impl_LeastGreatest.f k l p) (res l p) := (Classical.choose_spec (both l p)).1.2
theorem res_val (l : List Int) (p : Int) : (res l p).2 = all l p ∧ (all l p = true → IsG (res l p).1 (fcars l) p) := (Classical.choose_spec (both l p)).2
end LeastGreatest
end Go.Proofs.YtflgalpfbjhdlaaGreat.Pure
