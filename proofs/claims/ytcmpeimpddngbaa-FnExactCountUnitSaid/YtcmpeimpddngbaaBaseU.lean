/- Distances and unit parking functions, as the program and the reference tell them. Conditions: those that each theorem states. -/
import Derived.Test.YtcmpeimpddngbaaPAllx4
import Derived.Test.YtcmpeimpddngbaaPAllx12
import Derived.Test.YtcmpeimpddngbaaBaseP
namespace Go.Proofs.Ytcmpeimpddngbaa.Plain
open Go.RowKit Go.Proofs.YtcmpeimpddngbaaW.PrintWords Go.Proofs.YtcmpeimpddngbaaW.PrintLast Go.Proofs.Ytcmpeimpddngbaa.Hand Go.Proofs.Ytcmpeimpddngbaa.PAll
set_option linter.unusedVariables false

/-- The distances of the first n cars. -/
def dst (s l : List Int) (n : Nat) : List Int := (List.range n).map fun i : Nat => wrap64 (rd s (i : Int) - rd l (i : Int))
theorem dst_succ (s l : List Int) (n : Nat) : dst s l (n + 1) = dst s l n ++ [wrap64 (rd s (n : Int) - rd l (n : Int))] := by simp [dst, List.range_succ]
theorem dst_length (s l : List Int) (n : Nat) : (dst s l n).length = n := by simp [dst]
theorem paDistances_l0 (s l : List Int) (hl : s.length = l.length) (hs : l.length ≤ 1000) : ∀ (d n : Nat), n + d = l.length →
    Ev (fun k => spec_paDistances.l0 k l (dst s l n) s (s.length : Int) (n : Int)) (dst s l l.length) := by
  intro d
  induction d with
  | zero =>
    intro n hn
    obtain rfl : n = l.length := by omega
    refine Ev.step (f := fun _ => some (dst s l l.length)) (fun k => ?_) (Ev.now _)
    rw [spec_paDistances.l0, if_neg (by omega)]
  | succ d ih =>
    intro n hn
    refine Ev.step (fun k => ?_) (ih (n + 1) (by omega))
    rw [spec_paDistances.l0, if_pos (by omega), if_pos (by omega), if_pos (by omega), if_pos (by omega), if_pos (by rw [dst_length]; omega), wrap_succ n (by omega), dst_succ]
theorem distancesOf_l0 (s l : List Int) (ok : Bool) (hl : s.length = l.length) (hs : l.length ≤ 1000) : ∀ (d n : Nat), n + d = l.length →
    Ev (fun k => impl_DistancesOf.l0 k l (dst s l n ++ s.drop n) ok (s.length : Int) (n : Int)) (dst s l l.length, ok) := by
  intro d
  induction d with
  | zero =>
    intro n hn
    obtain rfl : n = l.length := by omega
    refine Ev.step (f := fun _ => some (dst s l l.length, ok)) (fun k => ?_) (Ev.now _)
    rw [impl_DistancesOf.l0, if_neg (by omega), List.drop_eq_nil_of_le (by omega), List.append_nil]
  | succ d ih =>
    intro n hn
    have h1 : n < s.length := by omega
    have e1 : rd (dst s l n ++ s.drop n) (n : Int) = rd s (n : Int) := by
      rw [rd_nat _ n (by simp [dst_length]; omega), rd_nat s n h1, List.getElem_append_right (by rw [dst_length]; omega)]
      simp [dst_length]
    have e2 : (dst s l n ++ s.drop n).set n (wrap64 (rd s (n : Int) - rd l (n : Int))) = dst s l (n + 1) ++ s.drop (n + 1) := by
      rw [List.set_append_right _ _ (by rw [dst_length]; omega), dst_length, Nat.sub_self, List.drop_eq_getElem_cons h1, List.set_cons_zero, dst_succ, List.append_assoc]
      rfl
    refine Ev.step (fun k => ?_) (ih (n + 1) (by omega))
    rw [impl_DistancesOf.l0, if_pos (by omega), if_pos (by omega), if_pos (by simp [dst_length]; omega), if_pos (by omega), Int.toNat_natCast, e1, e2, wrap_succ n (by omega)]
theorem mx_le (x y a : Int) : mx x y ≤ a ↔ x ≤ a ∧ y ≤ a := by
  unfold mx
  split <;> omega
theorem max_l0 (xs : List Int) (hs : xs.length ≤ 1000) : ∀ (d n : Nat) (m : Int), n + d = xs.length →
    ∃ r, Ev (fun k => slices_Max_int_int.l0 k xs m (n : Int)) r ∧ ∀ a, r ≤ a ↔ m ≤ a ∧ ∀ x ∈ xs.drop n, x ≤ a := by
  intro d
  induction d with
  | zero =>
    intro n m hn
    refine ⟨m, Ev.step (f := fun _ => some m) (fun k => ?_) (Ev.now _), fun a => ?_⟩
    · rw [slices_Max_int_int.l0, if_neg (by omega)]
    · rw [List.drop_eq_nil_of_le (by omega)]
      simp
  | succ d ih =>
    intro n m hn
    have h1 : n < xs.length := by omega
    obtain ⟨r, hr, ha⟩ := ih (n + 1) (mx m xs[n]) (by omega)
    refine ⟨r, Ev.step (fun k => ?_) hr, fun a => ?_⟩
    · rw [slices_Max_int_int.l0, if_pos (by omega), if_pos (by omega), rd_nat xs n h1, wrap_succ n (by omega)]
    · rw [ha a, mx_le, List.drop_eq_getElem_cons h1]
      constructor
      · rintro ⟨⟨h2, h3⟩, h4⟩
        refine ⟨h2, fun x hx => ?_⟩
        rcases List.mem_cons.1 hx with rfl | hx
        · exact h3
        · exact h4 x hx
      · rintro ⟨h2, h3⟩
        exact ⟨⟨h2, h3 _ List.mem_cons_self⟩, fun x hx => h3 x (List.mem_cons_of_mem _ hx)⟩
theorem max_ev (xs : List Int) (h0 : 0 < xs.length) (hs : xs.length ≤ 1000) : ∃ r, Ev (fun k => slices_Max_int_int.f k xs) r ∧ ∀ a, r ≤ a ↔ ∀ x ∈ xs, x ≤ a := by
  obtain ⟨r, hr, ha⟩ := max_l0 xs hs (xs.length - 1) 1 (rd xs ((0 : Nat) : Int)) (by omega)
  refine ⟨r, ?_, fun a => ?_⟩
  · unfold slices_Max_int_int.f
    exact Ev.neg (by omega) (Ev.pos (by omega) hr)
  · rw [ha a, rd_nat xs 0 h0]
    have e : xs = xs[0] :: xs.drop 1 := by
      have := List.drop_eq_getElem_cons h0
      rwa [List.drop_zero] at this
    constructor
    · rintro ⟨h2, h3⟩ x hx
      rw [e] at hx
      rcases List.mem_cons.1 hx with rfl | hx
      · exact h2
      · exact h3 x hx
    · intro h2
      exact ⟨h2 _ (List.getElem_mem h0), fun x hx => h2 x (List.mem_of_mem_drop hx)⟩
/-- No car parks ahead of its favourite. -/
theorem sdrive_ge (p : Int) : ∀ (l out : List Int) (i : Nat) (h : i < l.length) (h2 : out.length + i < (sdrive p out l).length), (sdrive p out l)[out.length + i] = -1 ∨ l[i] ≤ (sdrive p out l)[out.length + i] := by
  intro l
  induction l with
  | nil => intro out i h; simp at h
  | cons x xs ih =>
    intro out i h h2
    cases i with
    | zero =>
      obtain ⟨t, ht⟩ := sdrive_pre p xs (out ++ [told p (nf p out (p - x).toNat x)])
      have e : (sdrive p out (x :: xs))[out.length + 0] = told p (nf p out (p - x).toNat x) := by
        have e2 : sdrive p out (x :: xs) = out ++ (told p (nf p out (p - x).toNat x) :: t) := by rw [sdrive, ht, List.append_assoc]; rfl
        simp only [e2]
        rw [List.getElem_append_right (by omega)]
        simp
      rw [e]
      have := nf_ge p out (p - x).toNat x
      unfold told
      split
      · exact .inl rfl
      · exact .inr this
    | succ i =>
      have h3 := ih (out ++ [told p (nf p out (p - x).toNat x)]) i (by simpa using h) (by rw [sdrive] at h2; simp; omega)
      simp only [List.length_append, List.length_singleton] at h3
      have e : out.length + 1 + i = out.length + (i + 1) := by omega
      simp only [e] at h3
      simpa [sdrive] using h3
/-- The distances of a parking function. -/
def dists (l : List Int) : List Int := dst (sdrive (l.length : Int) [] l) l l.length
def unit (l : List Int) (a : Int) : Bool := (dists l).all fun x => decide (0 ≤ x ∧ x ≤ a)
theorem dists_nonneg {l : List Int} (h : parking l = true) : ∀ x ∈ dists l, 0 ≤ x := by
  intro x hx
  unfold dists dst at hx
  rw [List.mem_map] at hx
  obtain ⟨i, hi, rfl⟩ := hx
  have hi := List.mem_range.1 hi
  have hlen : (sdrive (l.length : Int) [] l).length = l.length := by rw [sdrive_length]; simp
  have h8 := parking_cars h
  rw [rd_nat _ i (by omega), rd_nat l i hi]
  have hb := parking_in h l[i] (List.getElem_mem hi)
  have hm := List.getElem_mem (show i < (sdrive (l.length : Int) [] l).length by omega)
  have h1 := sdrive_ge (l.length : Int) l [] i hi (by simp; omega)
  simp only [List.length_nil, Nat.zero_add] at h1
  have hlt : (sdrive (l.length : Int) [] l)[i] < (l.length : Int) := by
    rcases sdrive_lt (l.length : Int) (by omega) l [] _ hm with h2 | h2
    · simp at h2
    · exact h2
  rcases h1 with h1 | h1
  · exact absurd (h1 ▸ hm) (parking_all h)
  · rw [wrap64_in _ (by omega) (by omega)]
    omega
theorem vaUnit_ev {l : List Int} (h : parking l = true) (a : Int) : Ev (fun k => spec_vaUnit.f k l a) (unit l a) := by
  have h8 := parking_cars h
  unfold spec_vaUnit.f unit
  refine Ev.bind (a := dists l) ?_ (Ev.bind (l1All_ev _ 0 a (by unfold dists; rw [dst_length]; omega)) (Ev.now _))
  unfold spec_paDistances.f
  refine Ev.bind (paDrive_any l (l.length : Int) (by omega) (by omega) (by omega) (fun x hx => by have := parking_in h x hx; omega)) ?_
  have h0 := paDistances_l0 (sdrive (l.length : Int) [] l) l (by rw [sdrive_length]; simp) (by omega) l.length 0 (by omega)
  exact h0
theorem isUnit_ev {l : List Int} (h : parking l = true) (a : Int) (ha : 0 ≤ a) : Ev (fun k => impl_isUnit.f k l a) (unit l a) := by
  have h8 := parking_cars h
  unfold impl_isUnit.f
  by_cases h0 : l.length = 0
  · have e : l = [] := List.eq_nil_of_length_eq_zero h0
    subst e
    exact Ev.pos rfl (Ev.now _)
  · refine Ev.neg (by omega) ?_
    have hgood : good l (l.length : Int) = true := by
      unfold good
      rw [decide_eq_true (by omega), decide_eq_true (by omega), Bool.true_and, Bool.true_and, List.all_eq_true]
      intro x hx
      have := parking_in h x hx
      exact decide_eq_true (by omega)
    obtain ⟨r, hr, hle⟩ := max_ev (dists l ++ [0]) (by simp) (by unfold dists; simp [dst_length]; omega)
    refine Ev.bind (a := r) ?_ (Ev.const ?_)
    · unfold impl_greatest.f
      refine Ev.bind (a := (dists l, true)) ?_ (Ev.pos (by unfold dists; rw [dst_length]; omega) (Ev.bind hr (Ev.now _)))
      unfold impl_DistancesOf.f
      refine Ev.bind (a := (sdrive (l.length : Int) [] l, true)) ?_ ?_
      · unfold impl_DriveCars.f
        refine Ev.bindc (areFav_eq l (l.length : Int)) ?_
        rw [hgood]
        refine Ev.pos rfl ?_
        have hd := drive_ev l (l.length : Int) (by omega) (by omega) (by omega) (fun x hx => by have := parking_in h x hx; omega)
        rw [if_neg (parking_all h)] at hd
        exact Ev.bind hd (Ev.now _)
      · have h1 := distancesOf_l0 (sdrive (l.length : Int) [] l) l true (by rw [sdrive_length]; simp) (by omega) l.length 0 (by omega)
        have e : dst (sdrive (l.length : Int) [] l) l 0 ++ (sdrive (l.length : Int) [] l).drop 0 = sdrive (l.length : Int) [] l := by simp [dst]
        rw [e] at h1
        exact h1
    · congr 1
      unfold unit
      have e : (r ≤ a) ↔ ((dists l).all fun x => decide (0 ≤ x ∧ x ≤ a)) = true := by
        rw [hle a, List.all_eq_true]
        constructor
        · intro h2 x hx
          exact decide_eq_true ⟨dists_nonneg h x hx, h2 x (List.mem_append_left _ hx)⟩
        · intro h2 x hx
          rcases List.mem_append.1 hx with hx | hx
          · exact (of_decide_eq_true (h2 x hx)).2
          · rw [List.mem_singleton] at hx
            omega
      rcases hb : ((dists l).all fun x => decide (0 ≤ x ∧ x ≤ a)) with _ | _
      · rw [hb] at e
        exact decide_eq_false (fun h2 => by simpa using e.1 h2)
      · rw [hb] at e
        exact decide_eq_true (e.2 rfl)
end Go.Proofs.Ytcmpeimpddngbaa.Plain
