/- What the cars' functions of the program and of the reference come to. Conditions: lengths below 2^40. -/
import Derived.Test.YtdhfildgjmkgaaaPAllx1
import Derived.Test.YtdhfildgjmkgaaaPAllx3
import Derived.Test.YtdhfildgjmkgaaaBaseM
import Derived.Test.YtdhfildgjmkgaaaBaseH
import Derived.Test.YtdhfildgjmkgaaaBaseG
namespace Go.Proofs.Ytdhfildgjmkgaaa.Plain
open Go.RowKit Go.Proofs.YtdhfildgjmkgaaaW.PrintWords Go.Proofs.YtdhfildgjmkgaaaW.PrintLast Go.Proofs.Ytdhfildgjmkgaaa.Hand Go.Proofs.Ytdhfildgjmkgaaa.PAll
set_option linter.unusedVariables false

/-- The reference's drive. -/
theorem paDrive_l (p : Int) (l0 : List Int) (hp0 : 0 ≤ p) (hp : p ≤ 1000) (hs : l0.length ≤ 1000) : ∀ (xs out : List Int) (n : Nat), l0.drop n = xs → out.length = n → n ≤ l0.length → (∀ x ∈ l0, 0 ≤ x ∧ x ≤ 1000) →
    Ev (fun k => spec_paDrive.l0 k p out l0 (l0.length : Int) (n : Int)) (sdrive p out xs) := by
  intro xs
  induction xs with
  | nil =>
    intro out n hd ho hn hx
    have e : n = l0.length := by
      have := congrArg List.length hd
      rw [List.length_drop] at this
      simp at this
      omega
    refine Ev.step (f := fun _ => some out) (fun k => ?_) (Ev.const rfl)
    rw [spec_paDrive.l0, if_neg (by omega)]
  | cons x xs ih =>
    intro out n hd ho hn hx
    have h1 : n < l0.length := by
      have := congrArg List.length hd
      rw [List.length_drop] at this
      simp at this
      omega
    have h2 := List.drop_eq_getElem_cons h1
    rw [hd] at h2
    injection h2 with hxe hxs
    have hx0 := hx l0[n] (List.getElem_mem h1)
    rw [sdrive]
    have next : ∀ y : Int, y = nf p out (p - x).toNat x → Ev (fun k => spec_paDrive.l0 k p (out ++ [told p y]) l0 (l0.length : Int) ((n + 1 : Nat) : Int)) (sdrive p (out ++ [told p (nf p out (p - x).toNat x)]) xs) := by
      intro y hy
      rw [hy]
      exact ih _ (n + 1) hxs.symm (by simp [ho]) (by omega) hx
    have inner : ∀ (d : Nat) (y : Int), (p - y).toNat = d → 0 ≤ y → y ≤ 1000 → nf p out d y = nf p out (p - x).toNat x →
        Ev (fun k => spec_paDrive.l1 k p out y l0 (l0.length : Int) (n : Int)) (sdrive p (out ++ [told p (nf p out (p - x).toNat x)]) xs) := by
      intro d
      induction d with
      | zero =>
        intro y hyd hy0 hy1 he
        refine Ev.step (f := fun k => spec_paDrive.l0 k p (out ++ [told p y]) l0 (l0.length : Int) ((n + 1 : Nat) : Int)) (fun k => ?_) (next y he)
        rw [spec_paDrive.l1, if_neg (by omega), if_pos (by omega), if_pos (by omega), wrap_succ n (by omega)]
        unfold told
        rw [if_pos (by omega)]
      | succ d ihd =>
        intro y hyd hy0 hy1 he
        rw [nf] at he
        refine Ev.step (f := ?f) (fun k => ?h) ?g
        case h => rw [spec_paDrive.l1, if_pos (by omega)]
        refine Ev.bind (l1Has_ev out y (by omega)) ?_
        by_cases hm : y ∈ out
        · rw [if_pos ⟨by omega, hm⟩] at he
          rw [decide_eq_true hm, wrap64_in (y + 1) (by omega) (by omega)]
          exact Ev.pos rfl (ihd (y + 1) (by omega) (by omega) (by omega) he)
        · rw [if_neg (fun h => hm h.2)] at he
          rw [decide_eq_false hm]
          refine Ev.neg (by decide) (Ev.neg (by omega) (Ev.pos (by omega) ?_))
          have h3 := next y he
          unfold told at h3
          rw [if_neg (by omega)] at h3
          rw [wrap_succ n (by omega)]
          exact h3
    refine Ev.step (f := fun k => spec_paDrive.l1 k p out x l0 (l0.length : Int) (n : Int)) (fun k => ?_) (inner _ x rfl (by omega) (by omega) rfl)
    rw [spec_paDrive.l0, if_pos (by omega), if_pos (by omega), if_pos (by omega), rd_nat l0 n h1, hxe]
theorem paDrive_ev (l : List Int) (p : Int) (h : good l p = true) : Ev (fun k => spec_paDrive.f k l p) (sdrive p [] l) := by
  have h1 := good_places h
  have h2 := good_cars h
  unfold spec_paDrive.f
  exact paDrive_l p l (by omega) (by omega) (by omega) l [] 0 rfl rfl (by omega) (fun x hx => by have := good_in h x hx; omega)
theorem paAll_ev (l : List Int) (p : Int) (h : good l p = true) : Ev (fun k => spec_paAll.f k l p) (!decide ((-1 : Int) ∈ sdrive p [] l)) := by
  unfold spec_paAll.f
  refine Ev.bind (paDrive_ev l p h) (Ev.bind (l1Has_ev _ _ ?_) (Ev.now _))
  have := good_cars h
  rw [sdrive_length]
  simp
  omega

/-- Which places are taken, as an array. -/
def taken (p : Nat) (out : List Int) : List Bool := (List.range p).map fun i : Nat => decide ((i : Int) ∈ out)
theorem taken_length (p : Nat) (out : List Int) : (taken p out).length = p := by simp [taken]
theorem taken_at (p : Nat) (out : List Int) (y : Int) (h0 : 0 ≤ y) (h1 : y < p) : rdOf false (taken p out) y = decide (y ∈ out) := by
  unfold rdOf taken
  rw [List.getD_eq_getElem?_getD, List.getElem?_eq_getElem (by simp; omega)]
  simp
  rw [show (max y 0) = y by omega]
theorem taken_set (p : Nat) (out : List Int) (y : Int) (h0 : 0 ≤ y) (h1 : y < p) : (taken p out).set y.toNat true = taken p (out ++ [y]) := by
  apply List.ext_getElem
  · simp [taken]
  · intro i hi1 hi2
    rw [List.getElem_set]
    simp only [taken, List.getElem_map, List.getElem_range]
    by_cases e : y.toNat = i
    · rw [if_pos e]
      have : (i : Int) = y := by omega
      simp [this]
    · rw [if_neg e]
      have : ¬ (i : Int) = y := by omega
      simp [this]
theorem drive_l (p : Nat) (l0 : List Int) (hp : p ≤ 1000) (hs : l0.length ≤ 1000) : ∀ (xs out : List Int) (n : Nat), l0.drop n = xs → out.length = n → n ≤ l0.length → (∀ x ∈ l0, 0 ≤ x ∧ x ≤ 1000) →
    Ev (fun k => impl_drive.l0 k (p : Int) (taken p out) out l0 (l0.length : Int) (n : Int)) (((idrive p out xs).getD [], (idrive p out xs).isSome)) := by
  intro xs
  induction xs with
  | nil =>
    intro out n hd ho hn hx
    have e : n = l0.length := by
      have := congrArg List.length hd
      rw [List.length_drop] at this
      simp at this
      omega
    refine Ev.step (f := fun _ => some (out, true)) (fun k => ?_) (Ev.const rfl)
    rw [impl_drive.l0, if_neg (by omega)]
  | cons x xs ih =>
    intro out n hd ho hn hx
    have h1 : n < l0.length := by
      have := congrArg List.length hd
      rw [List.length_drop] at this
      simp at this
      omega
    have h2 := List.drop_eq_getElem_cons h1
    rw [hd] at h2
    injection h2 with hxe hxs
    have hx0 := hx l0[n] (List.getElem_mem h1)
    rw [idrive]
    have inner : ∀ (d : Nat) (y : Int), ((p : Int) - y).toNat = d → 0 ≤ y → y ≤ 1000 → nf p out d y = nf p out ((p : Int) - x).toNat x →
        Ev (fun k => impl_drive.l1 k (p : Int) (taken p out) out y l0 (l0.length : Int) (n : Int))
          (((if (p : Int) ≤ nf p out ((p : Int) - x).toNat x then none else idrive p (out ++ [nf p out ((p : Int) - x).toNat x]) xs).getD [], (if (p : Int) ≤ nf p out ((p : Int) - x).toNat x then none else idrive p (out ++ [nf p out ((p : Int) - x).toNat x]) xs).isSome)) := by
      intro d
      induction d with
      | zero =>
        intro y hyd hy0 hy1 he
        rw [nf] at he
        rw [← he, if_pos (by omega)]
        refine Ev.step (f := fun _ => some ([], false)) (fun k => ?_) (Ev.const rfl)
        rw [impl_drive.l1, if_neg (by omega), if_pos (by omega)]
      | succ d ihd =>
        intro y hyd hy0 hy1 he
        rw [nf] at he
        by_cases hm : y ∈ out
        · rw [if_pos ⟨by omega, hm⟩] at he
          refine Ev.step (f := fun k => impl_drive.l1 k (p : Int) (taken p out) out (y + 1) l0 (l0.length : Int) (n : Int)) (fun k => ?_) (ihd (y + 1) (by omega) (by omega) (by omega) he)
          rw [impl_drive.l1, if_pos (by omega), if_pos (by omega), if_pos (by rw [taken_length]; omega), taken_at p out y hy0 (by omega), decide_eq_true hm, if_pos rfl, wrap64_in (y + 1) (by omega) (by omega)]
        · rw [if_neg (fun h => hm h.2)] at he
          rw [← he, if_neg (by omega)]
          refine Ev.step (f := fun k => impl_drive.l0 k (p : Int) (taken p (out ++ [y])) (out ++ [y]) l0 (l0.length : Int) ((n + 1 : Nat) : Int)) (fun k => ?_) (ih _ (n + 1) hxs.symm (by simp [ho]) (by omega) hx)
          rw [impl_drive.l1, if_pos (by omega), if_pos (by omega), if_pos (by rw [taken_length]; omega), taken_at p out y hy0 (by omega), decide_eq_false hm, if_neg (by decide), if_neg (by omega), if_pos (by omega), taken_set p out y hy0 (by omega), wrap_succ n (by omega)]
    refine Ev.step (f := fun k => impl_drive.l1 k (p : Int) (taken p out) out x l0 (l0.length : Int) (n : Int)) (fun k => ?_) (inner _ x rfl (by omega) (by omega) rfl)
    rw [impl_drive.l0, if_pos (by omega), if_pos (by omega), if_pos (by omega), rd_nat l0 n h1, hxe]
theorem drive_ev (l : List Int) (p : Int) (hp0 : 0 ≤ p) (hp : p ≤ 1000) (hs : l.length ≤ 1000) (hx : ∀ x ∈ l, 0 ≤ x ∧ x ≤ 1000) :
    Ev (fun k => impl_drive.f k l p) (if (-1 : Int) ∈ sdrive p [] l then ([], false) else (sdrive p [] l, true)) := by
  obtain ⟨m, rfl⟩ := Int.eq_ofNat_of_zero_le hp0
  unfold impl_drive.f
  refine Ev.pos (by omega) (Ev.pos (by omega) ?_)
  have h := drive_l m l (by omega) hs l [] 0 rfl rfl (by omega) hx
  rw [drives (m : Int) l [] (fun x h => (hx x h).1) (by simp)] at h
  have e : (List.replicate ((m : Int)).toNat false) = taken m [] := by
    rw [Int.toNat_natCast]
    apply List.ext_getElem
    · simp [taken]
    · intro i h1 h2
      simp [taken]
  rw [e]
  by_cases hm : (-1 : Int) ∈ sdrive (m : Int) [] l
  · rw [if_pos hm] at h ⊢
    exact h
  · rw [if_neg hm] at h ⊢
    exact h
end Go.Proofs.Ytdhfildgjmkgaaa.Plain
