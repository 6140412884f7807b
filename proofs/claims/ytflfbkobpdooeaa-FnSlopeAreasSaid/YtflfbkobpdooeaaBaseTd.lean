/- The total distance of a parking function is told by its length and its sum. No condition beside what each theorem states. -/
import Derived.Test.YtflfbkobpdooeaaPAllx3
import Derived.Test.YtflfbkobpdooeaaPAllx4
import Derived.Test.YtflfbkobpdooeaaPAllx5
import Derived.Test.YtflfbkobpdooeaaBaseJd
import Derived.Test.YtflfbkobpdooeaaBaseY
namespace Go.Proofs.Ytflfbkobpdooeaa.Plain
open Go.RowKit Go.Proofs.YtflfbkobpdooeaaW.PrintWords Go.Proofs.YtflfbkobpdooeaaW.PrintLast Go.Proofs.Ytflfbkobpdooeaa.Hand Go.Proofs.Ytflfbkobpdooeaa.PAll
set_option linter.unusedVariables false
theorem total_l0 (l : List Int) (h8 : l.length ≤ 100) (hb : ∀ x ∈ l, -1000 ≤ x ∧ x ≤ 1000) : ∀ (d n : Nat), n + d = l.length → Ev (fun k => impl_total.l0 k (sm (l.take n)) l (l.length : Int) (n : Int)) (sm l) := by
  intro d
  induction d with
  | zero =>
    intro n hn
    obtain rfl : n = l.length := by omega
    rw [List.take_length]
    refine Ev.step (f := fun _ => some (sm l)) (fun k => ?_) (Ev.now _)
    rw [impl_total.l0, if_neg (by omega)]
  | succ d ih =>
    intro n hn
    have h := ih (n + 1) (by omega)
    have hr := acc_in l h8 hb (n + 1)
    rw [take_next l n (by omega), sm_append] at h hr
    simp only [sm, Int.add_zero] at h hr
    refine Ev.step (fun k => ?_) h
    rw [impl_total.l0, if_pos (by omega), if_pos (by omega), if_pos (by omega), wrap_succ n (by omega), wrap64_in _ (by omega) (by omega)]
theorem total_ev (l : List Int) (h8 : l.length ≤ 100) (hb : ∀ x ∈ l, -1000 ≤ x ∧ x ≤ 1000) : Ev (fun k => impl_total.f k l) (sm l) := total_l0 l h8 hb l.length 0 (by omega)
theorem sm_dst (s l : List Int) (hl : s.length = l.length) (hs : ∀ x ∈ s, 0 ≤ x ∧ x ≤ 100) (hx : ∀ x ∈ l, 0 ≤ x ∧ x ≤ 100) : ∀ n : Nat, n ≤ l.length → sm (dst s l n) = sm (s.take n) - sm (l.take n) := by
  intro n
  induction n with
  | zero => intro _; simp [dst, sm]
  | succ n ih =>
    intro hn
    have h1 := hs s[n] (List.getElem_mem (by omega))
    have h2 := hx l[n] (List.getElem_mem (by omega))
    rw [dst_succ, sm_append, ih (by omega), take_next s n (by omega), take_next l n (by omega), sm_append, sm_append, rd_nat s n (by omega), rd_nat l n (by omega), wrap64_in _ (by omega) (by omega)]
    simp only [sm, Int.add_zero]
    omega
theorem dst_in (s l : List Int) (hl : s.length = l.length) (hs : ∀ x ∈ s, 0 ≤ x ∧ x ≤ 100) (hx : ∀ x ∈ l, 0 ≤ x ∧ x ≤ 100) : ∀ z ∈ dst s l l.length, -1000 ≤ z ∧ z ≤ 1000 := by
  intro z hz
  unfold dst at hz
  obtain ⟨i, hi, rfl⟩ := List.mem_map.1 hz
  have hi := List.mem_range.1 hi
  have h1 := hs s[i] (List.getElem_mem (by omega))
  have h2 := hx l[i] (List.getElem_mem hi)
  rw [rd_nat s i (by omega), rd_nat l i hi, wrap64_in _ (by omega) (by omega)]
  omega
/-- The total distance of a parking function is told by its length and its sum. -/
theorem dist_ev {l : List Int} (hp : parking l = true) (h0 : 0 < l.length) : Ev (fun k => impl_TotalDistance.f k l (l.length : Int)) (sm (iota 0 l.length) - sm l, true) := by
  have h8 := parking_cars hp
  have hgood : good l (l.length : Int) = true := by
    unfold good
    rw [decide_eq_true (by omega), decide_eq_true (by omega), Bool.true_and, Bool.true_and, List.all_eq_true]
    intro x hx
    have := parking_in hp x hx
    exact decide_eq_true (by omega)
  have hlen : (sdrive (l.length : Int) [] l).length = l.length := by rw [sdrive_length]; simp
  have hsin : ∀ x ∈ sdrive (l.length : Int) [] l, 0 ≤ x ∧ x ≤ 100 := fun x hx => by
    have := (iota_mem _ _).1 ((s_perm hp).mem_iff.1 hx)
    omega
  have hlin : ∀ x ∈ l, 0 ≤ x ∧ x ≤ 100 := fun x hx => by have := parking_in hp x hx; omega
  unfold impl_TotalDistance.f
  refine Ev.bind (a := (dst (sdrive (l.length : Int) [] l) l l.length, true)) ?_ ?_
  · unfold impl_DistancesOf.f
    refine Ev.bind (a := (sdrive (l.length : Int) [] l, true)) ?_ ?_
    · unfold impl_DriveCars.f
      refine Ev.bindc (areFav_eq l (l.length : Int)) ?_
      rw [hgood]
      refine Ev.pos rfl ?_
      have hd := drive_ev l (l.length : Int) (by omega) (by omega) (by omega) (fun x hx => by have := parking_in hp x hx; omega)
      rw [if_neg (parking_all hp)] at hd
      exact Ev.bind hd (Ev.now _)
    · have h1 := distancesOf_l0 (sdrive (l.length : Int) [] l) l true hlen (by omega) l.length 0 (by omega)
      have e : dst (sdrive (l.length : Int) [] l) l 0 ++ (sdrive (l.length : Int) [] l).drop 0 = sdrive (l.length : Int) [] l := by simp [dst]
      rw [e] at h1
      exact h1
  · have ht := total_ev (dst (sdrive (l.length : Int) [] l) l l.length) (by rw [dst_length]; omega) (dst_in _ l hlen hsin hlin)
    have hs := sm_dst _ l hlen hsin hlin l.length (Nat.le_refl _)
    rw [List.take_of_length_le (by omega), List.take_length, sm_perm (s_perm hp)] at hs
    rw [hs] at ht
    exact Ev.bind ht (Ev.now _)
end Go.Proofs.Ytflfbkobpdooeaa.Plain
