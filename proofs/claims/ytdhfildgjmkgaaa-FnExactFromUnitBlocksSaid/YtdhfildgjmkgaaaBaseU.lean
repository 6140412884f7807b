/- Unit parking functions, as the program and the reference tell them. Conditions: those that each theorem states. -/
import Derived.Test.YtdhfildgjmkgaaaPAllx1
import Derived.Test.YtdhfildgjmkgaaaPAllx3
import Derived.Test.YtdhfildgjmkgaaaBaseP
import Derived.Test.YtdhfildgjmkgaaaBaseY
namespace Go.Proofs.Ytdhfildgjmkgaaa.Plain
open Go.RowKit Go.Proofs.YtdhfildgjmkgaaaW.PrintWords Go.Proofs.YtdhfildgjmkgaaaW.PrintLast Go.Proofs.Ytdhfildgjmkgaaa.Hand Go.Proofs.Ytdhfildgjmkgaaa.PAll
set_option linter.unusedVariables false

/-- No car parks ahead of its favourite. -/
theorem sdrive_ge (p : Int) : ∀ (l out : List Int) (i : Nat) (h : i < l.length) (h2 : out.length + i < (sdrive p out l).length), (sdrive p out l)[out.length + i] = -1 ∨ l[i] ≤ (sdrive p out l)[out.length + i] := by
  intro l
  induction l with
  | nil => intro out i h; simp at h
  | cons x xs ih =>
    intro out i h h2
    cases i with
    | zero =>
      obtain ⟨t, ht⟩ := sdrive_pre p xs (out ++ [told p (nf p out (p - x).toNat x)])
      have e : (sdrive p out (x :: xs))[out.length + 0] = told p (nf p out (p - x).toNat x) := by
        have e2 : sdrive p out (x :: xs) = out ++ (told p (nf p out (p - x).toNat x) :: t) := by rw [sdrive, ht, List.append_assoc]; rfl
        simp only [e2]
        rw [List.getElem_append_right (by omega)]
        simp
      rw [e]
      have := nf_ge p out (p - x).toNat x
      unfold told
      split
      · exact .inl rfl
      · exact .inr this
    | succ i =>
      have h3 := ih (out ++ [told p (nf p out (p - x).toNat x)]) i (by simpa using h) (by rw [sdrive] at h2; simp; omega)
      simp only [List.length_append, List.length_singleton] at h3
      have e : out.length + 1 + i = out.length + (i + 1) := by omega
      simp only [e] at h3
      simpa [sdrive] using h3
/-- The distances of a parking function. -/
def dists (l : List Int) : List Int := dst (sdrive (l.length : Int) [] l) l l.length
def unit (l : List Int) (a : Int) : Bool := (dists l).all fun x => decide (0 ≤ x ∧ x ≤ a)
theorem dists_nonneg {l : List Int} (h : parking l = true) : ∀ x ∈ dists l, 0 ≤ x := by
  intro x hx
  unfold dists dst at hx
  rw [List.mem_map] at hx
  obtain ⟨i, hi, rfl⟩ := hx
  have hi := List.mem_range.1 hi
  have hlen : (sdrive (l.length : Int) [] l).length = l.length := by rw [sdrive_length]; simp
  have h8 := parking_cars h
  rw [rd_nat _ i (by omega), rd_nat l i hi]
  have hb := parking_in h l[i] (List.getElem_mem hi)
  have hm := List.getElem_mem (show i < (sdrive (l.length : Int) [] l).length by omega)
  have h1 := sdrive_ge (l.length : Int) l [] i hi (by simp; omega)
  simp only [List.length_nil, Nat.zero_add] at h1
  have hlt : (sdrive (l.length : Int) [] l)[i] < (l.length : Int) := by
    rcases sdrive_lt (l.length : Int) (by omega) l [] _ hm with h2 | h2
    · simp at h2
    · exact h2
  rcases h1 with h1 | h1
  · exact absurd (h1 ▸ hm) (parking_all h)
  · rw [wrap64_in _ (by omega) (by omega)]
    omega
theorem vaUnit_ev {l : List Int} (h : parking l = true) (a : Int) : Ev (fun k => spec_vaUnit.f k l a) (unit l a) := by
  have h8 := parking_cars h
  unfold spec_vaUnit.f unit
  refine Ev.bind (a := dists l) ?_ (Ev.bind (l1All_ev _ 0 a (by unfold dists; rw [dst_length]; omega)) (Ev.now _))
  unfold spec_paDistances.f
  refine Ev.bind (paDrive_any l (l.length : Int) (by omega) (by omega) (by omega) (fun x hx => by have := parking_in h x hx; omega)) ?_
  have h0 := paDistances_l0 (sdrive (l.length : Int) [] l) l (by rw [sdrive_length]; simp) (by omega) l.length 0 (by omega)
  exact h0
theorem isUnit_ev {l : List Int} (h : parking l = true) (a : Int) (ha : 0 ≤ a) : Ev (fun k => impl_isUnit.f k l a) (unit l a) := by
  have h8 := parking_cars h
  unfold impl_isUnit.f
  by_cases h0 : l.length = 0
  · have e : l = [] := List.eq_nil_of_length_eq_zero h0
    subst e
    exact Ev.pos rfl (Ev.now _)
  · refine Ev.neg (by omega) ?_
    have hgood : good l (l.length : Int) = true := by
      unfold good
      rw [decide_eq_true (by omega), decide_eq_true (by omega), Bool.true_and, Bool.true_and, List.all_eq_true]
      intro x hx
      have := parking_in h x hx
      exact decide_eq_true (by omega)
    obtain ⟨r, hr, hle⟩ := max_ev (dists l ++ [0]) (by simp) (by unfold dists; simp [dst_length]; omega)
    refine Ev.bind (a := r) ?_ (Ev.const ?_)
    · unfold impl_greatest.f
      refine Ev.bind (a := (dists l, true)) ?_ (Ev.pos (by unfold dists; rw [dst_length]; omega) (Ev.bind hr (Ev.now _)))
      unfold impl_DistancesOf.f
      refine Ev.bind (a := (sdrive (l.length : Int) [] l, true)) ?_ ?_
      · unfold impl_DriveCars.f
        refine Ev.bindc (areFav_eq l (l.length : Int)) ?_
        rw [hgood]
        refine Ev.pos rfl ?_
        have hd := drive_ev l (l.length : Int) (by omega) (by omega) (by omega) (fun x hx => by have := parking_in h x hx; omega)
        rw [if_neg (parking_all h)] at hd
        exact Ev.bind hd (Ev.now _)
      · have h1 := distancesOf_l0 (sdrive (l.length : Int) [] l) l true (by rw [sdrive_length]; simp) (by omega) l.length 0 (by omega)
        have e : dst (sdrive (l.length : Int) [] l) l 0 ++ (sdrive (l.length : Int) [] l).drop 0 = sdrive (l.length : Int) [] l := by simp [dst]
        rw [e] at h1
        exact h1
    · congr 1
      unfold unit
      have e : (r ≤ a) ↔ ((dists l).all fun x => decide (0 ≤ x ∧ x ≤ a)) = true := by
        rw [hle a, List.all_eq_true]
        constructor
        · intro h2 x hx
          exact decide_eq_true ⟨dists_nonneg h x hx, h2 x (List.mem_append_left _ hx)⟩
        · intro h2 x hx
          rcases List.mem_append.1 hx with hx | hx
          · exact (of_decide_eq_true (h2 x hx)).2
          · rw [List.mem_singleton] at hx
            omega
      rcases hb : ((dists l).all fun x => decide (0 ≤ x ∧ x ≤ a)) with _ | _
      · rw [hb] at e
        exact decide_eq_false (fun h2 => by simpa using e.1 h2)
      · rw [hb] at e
        exact decide_eq_true (e.2 rfl)
end Go.Proofs.Ytdhfildgjmkgaaa.Plain
