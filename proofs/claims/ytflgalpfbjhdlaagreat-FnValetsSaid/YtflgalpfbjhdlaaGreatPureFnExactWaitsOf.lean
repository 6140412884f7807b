/- The pure statement of the law FnExactWaitsOf: the program's WaitsOf and the reference's one answer alike at every list and number of places; no condition beside the row's own. -/
import Derived.Test.YtflgalpfbjhdlaaGreatPAllx2
import Derived.Test.YtflgalpfbjhdlaaGreatPAllx4
import Derived.Test.YtflgalpfbjhdlaaGreatPAllx5
import Derived.Test.YtflgalpfbjhdlaaGreatBaseB
namespace Go.Proofs.YtflgalpfbjhdlaaGreat.Pure
open Go.RowKit Go.Proofs.YtflgalpfbjhdlaaGreatW.PrintWords Go.Proofs.YtflgalpfbjhdlaaGreatW.PrintLast Go.Proofs.YtflgalpfbjhdlaaGreat.Hand Go.Proofs.YtflgalpfbjhdlaaGreat.PAll Go.Proofs.YtflgalpfbjhdlaaGreat.Plain
set_option linter.unusedVariables false
namespace WaitsOf
def bump : Nat → Int → List Int → List Int
  | 0, _, x => x
  | d + 1, y, x => bump d (y + 1) (x.set y.toNat (wrap64 (rd x y + 1)))
theorem bump_length : ∀ (d : Nat) (y : Int) (x : List Int), (bump d y x).length = x.length := by
  intro d
  induction d with
  | zero => intro y x; rfl
  | succ d ih => intro y x; rw [bump, ih, List.length_set]
def waits : List Int → List Int → List Int → List Int
  | x :: xs, a :: bs, w => waits xs bs (bump (a - x).toNat x w)
  | [], _, w => w
  | _ :: _, [], w => w
theorem waits_length : ∀ (xs bs w : List Int), (waits xs bs w).length = w.length := by
  intro xs
  induction xs with
  | nil => intro bs w; rfl
  | cons x xs ih =>
    intro bs w
    cases bs with
    | nil => rfl
    | cons a bs => rw [waits, ih, bump_length]

theorem spec_WaitsOf_l1 (x0 ats : List Int) (P n : Nat) (hP : P ≤ 1000) (hn : n ≤ 1000) (a : Int) (ha : a ≤ P) (r : List Int × Bool) : ∀ (d : Nat) (y : Int) (w : List Int), (a - y).toNat = d → 0 ≤ y → y ≤ 1000 → w.length = P →
    Ev (fun k => spec_WaitsOf.l0 k x0 (bump d y w) ats (ats.length : Int) ((n + 1 : Nat) : Int)) r → Ev (fun k => spec_WaitsOf.l1 k x0 w a y ats (ats.length : Int) (n : Int)) r := by
  intro d
  induction d with
  | zero =>
    intro y w hd h0 h1 hw h
    refine Ev.step (fun k => ?_) h
    rw [spec_WaitsOf.l1, if_neg (by omega), wrap_succ n (by omega)]
    rfl
  | succ d ih =>
    intro y w hd h0 h1 hw h
    refine Ev.step (fun k => ?_) (ih (y + 1) (w.set y.toNat (wrap64 (rd w y + 1))) (by omega) (by omega) (by omega) (by rw [List.length_set]; exact hw) h)
    rw [spec_WaitsOf.l1, if_pos (by omega), if_pos (by omega), if_pos (by omega), wrap64_in (y + 1) (by omega) (by omega)]
theorem spec_WaitsOf_l0 (x0 : List Int) (P : Nat) (hP : P ≤ 1000) (hl : x0.length ≤ 1000) (ats : List Int) (hle : ats.length = x0.length) (ha : ∀ a ∈ ats, a ≤ P) (hx : ∀ x ∈ x0, 0 ≤ x ∧ x ≤ 1000) : ∀ (d n : Nat) (w : List Int), n + d = x0.length → w.length = P →
    Ev (fun k => spec_WaitsOf.l0 k x0 w ats (ats.length : Int) (n : Int)) (waits (x0.drop n) (ats.drop n) w, true) := by
  intro d
  induction d with
  | zero =>
    intro n w hd hw
    refine Ev.step (f := fun _ => some (w, true)) (fun k => ?_) (Ev.const ?_)
    · rw [spec_WaitsOf.l0, if_neg (by omega)]
    · rw [List.drop_eq_nil_of_le (by omega)]
      rfl
  | succ d ih =>
    intro n w hd hw
    have h1 : n < x0.length := by omega
    have h2 : n < ats.length := by omega
    have hx1 := hx x0[n] (List.getElem_mem h1)
    rw [List.drop_eq_getElem_cons h1, List.drop_eq_getElem_cons h2, waits]
    refine Ev.step (fun k => ?_) (spec_WaitsOf_l1 x0 ats P n hP (by omega) ats[n] (ha _ (List.getElem_mem h2)) _ _ x0[n] w rfl (by omega) (by omega) hw (ih (n + 1) _ (by omega) (by rw [bump_length]; exact hw)))
    rw [spec_WaitsOf.l0, if_pos (by omega), if_pos (by omega), if_pos (by omega), if_pos (by omega), rd_nat ats n h2, rd_nat x0 n h1]

theorem impl_WaitsOf_l1 (x0 ats : List Int) (P n : Nat) (hP : P ≤ 1000) (hn : n ≤ 1000) (a : Int) (ha : a ≤ P) (r : List Int × Bool) : ∀ (d : Nat) (y : Int) (w : List Int), (a - y).toNat = d → 0 ≤ y → y ≤ 1000 → w.length = P →
    Ev (fun k => impl_WaitsOf.l0 k x0 (bump d y w) ats (ats.length : Int) ((n + 1 : Nat) : Int)) r → Ev (fun k => impl_WaitsOf.l1 k x0 w a y ats (ats.length : Int) (n : Int)) r := by
  intro d
  induction d with
  | zero =>
    intro y w hd h0 h1 hw h
    refine Ev.step (fun k => ?_) h
    rw [impl_WaitsOf.l1, if_neg (by omega), wrap_succ n (by omega)]
    rfl
  | succ d ih =>
    intro y w hd h0 h1 hw h
    refine Ev.step (fun k => ?_) (ih (y + 1) (w.set y.toNat (wrap64 (rd w y + 1))) (by omega) (by omega) (by omega) (by rw [List.length_set]; exact hw) h)
    rw [impl_WaitsOf.l1, if_pos (by omega), if_pos (by omega), if_pos (by omega), wrap64_in (y + 1) (by omega) (by omega)]
theorem impl_WaitsOf_l0 (x0 : List Int) (P : Nat) (hP : P ≤ 1000) (hl : x0.length ≤ 1000) (ats : List Int) (hle : ats.length = x0.length) (ha : ∀ a ∈ ats, a ≤ P) (hx : ∀ x ∈ x0, 0 ≤ x ∧ x ≤ 1000) : ∀ (d n : Nat) (w : List Int), n + d = x0.length → w.length = P →
    Ev (fun k => impl_WaitsOf.l0 k x0 w ats (ats.length : Int) (n : Int)) (waits (x0.drop n) (ats.drop n) w, true) := by
  intro d
  induction d with
  | zero =>
    intro n w hd hw
    refine Ev.step (f := fun _ => some (w, true)) (fun k => ?_) (Ev.const ?_)
    · rw [impl_WaitsOf.l0, if_neg (by omega)]
    · rw [List.drop_eq_nil_of_le (by omega)]
      rfl
  | succ d ih =>
    intro n w hd hw
    have h1 : n < x0.length := by omega
    have h2 : n < ats.length := by omega
    have hx1 := hx x0[n] (List.getElem_mem h1)
    rw [List.drop_eq_getElem_cons h1, List.drop_eq_getElem_cons h2, waits]
    refine Ev.step (fun k => ?_) (impl_WaitsOf_l1 x0 ats P n hP (by omega) ats[n] (ha _ (List.getElem_mem h2)) _ _ x0[n] w rfl (by omega) (by omega) hw (ih (n + 1) _ (by omega) (by rw [bump_length]; exact hw)))
    rw [impl_WaitsOf.l0, if_pos (by omega), if_pos (by omega), if_pos (by omega), if_pos (by omega), rd_nat ats n h2, rd_nat x0 n h1]

/-- What both come to. -/
def res (l : List Int) (p : Int) : List Int × Bool :=
  if good l p = true ∧ (-1 : Int) ∉ sdrive p [] l then (waits l (sdrive p [] l) (List.replicate p.toNat 0), true) else ([], false)
theorem res_length (l : List Int) (p : Int) : (res l p).1.length ≤ 1000 := by
  unfold res
  split
  · rename_i h
    have := good_places h.1
    rw [waits_length, List.length_replicate]
    omega
  · simp
theorem spec_ev (l : List Int) (p : Int) : Ev (fun k => spec_WaitsOf.f k l p) (res l p) := by
  unfold spec_WaitsOf.f res
  refine Ev.bind (paGood_ev l p) ?_
  cases hg : good l p with
  | false =>
    rw [if_neg (by simp)]
    refine Ev.neg (by decide) (Ev.step (f := fun _ => some ([], false)) (fun k => ?_) (Ev.const rfl))
    rw [spec_WaitsOf.j0, if_pos (by decide)]
  | true =>
    have h1 := good_places hg
    have h2 := good_cars hg
    refine Ev.pos rfl (Ev.bind (paAll_ev l p hg) ?_)
    by_cases hm : (-1 : Int) ∈ sdrive p [] l
    · rw [if_neg (by simp [hm]), decide_eq_true hm]
      refine Ev.step (f := fun _ => some ([], false)) (fun k => ?_) (Ev.const rfl)
      rw [spec_WaitsOf.j0, if_pos (by decide)]
    · rw [if_pos ⟨rfl, hm⟩, decide_eq_false hm]
      refine Ev.step (f := ?f) (fun k => ?h) ?g
      case h => rw [spec_WaitsOf.j0, if_neg (by decide), if_pos (by omega), if_pos (by omega)]
      refine Ev.bind (paDrive_ev l p hg) ?_
      obtain ⟨m, rfl⟩ := Int.eq_ofNat_of_zero_le (show 0 ≤ p by omega)
      have h := spec_WaitsOf_l0 l m (by omega) (by omega) (sdrive (m : Int) [] l) (by rw [sdrive_length]; simp) (fun a ha => by
        rcases sdrive_lt (m : Int) (by omega) l [] a ha with h | h
        · simp at h
        · omega) (fun x hx => by have := good_in hg x hx; omega) l.length 0 (List.replicate m 0) (by omega) (by simp)
      exact h
theorem impl_ev (l : List Int) (p : Int) : Ev (fun k => impl_WaitsOf.f k l p) (res l p) := by
  unfold impl_WaitsOf.f res
  have hd : Ev (fun k => impl_DriveCars.f k l p) (if good l p = true ∧ (-1 : Int) ∉ sdrive p [] l then (sdrive p [] l, true) else ([], false)) := by
    unfold impl_DriveCars.f
    refine Ev.bindc (areFav_eq l p) ?_
    cases hg : good l p with
    | false =>
      rw [if_neg (by simp)]
      exact Ev.neg (by decide) (Ev.now _)
    | true =>
      have h1 := good_places hg
      have h2 := good_cars hg
      refine Ev.pos rfl (Ev.bind (drive_ev l p (by omega) (by omega) (by omega) (fun x hx => by have := good_in hg x hx; omega)) ?_)
      by_cases hm : (-1 : Int) ∈ sdrive p [] l
      · rw [if_pos hm, if_neg (by simp [hm])]
        exact Ev.now _
      · rw [if_neg hm, if_pos ⟨rfl, hm⟩]
        exact Ev.now _
  refine Ev.bind hd ?_
  by_cases hc : good l p = true ∧ (-1 : Int) ∉ sdrive p [] l
  · rw [if_pos hc, if_pos hc]
    obtain ⟨hg, hm⟩ := hc
    have h1 := good_places hg
    have h2 := good_cars hg
    refine Ev.pos rfl (Ev.pos (by omega) (Ev.pos (by omega) ?_))
    obtain ⟨m, rfl⟩ := Int.eq_ofNat_of_zero_le (show 0 ≤ p by omega)
    have h := impl_WaitsOf_l0 l m (by omega) (by omega) (sdrive (m : Int) [] l) (by rw [sdrive_length]; simp) (fun a ha => by
      rcases sdrive_lt (m : Int) (by omega) l [] a ha with h | h
      · simp at h
      · omega) (fun x hx => by have := good_in hg x hx; omega) l.length 0 (List.replicate m 0) (by omega) (by simp)
    exact h
  · rw [if_neg hc, if_neg hc]
    exact Ev.neg (by decide) (Ev.now _)
end WaitsOf
end Go.Proofs.YtflgalpfbjhdlaaGreat.Pure
