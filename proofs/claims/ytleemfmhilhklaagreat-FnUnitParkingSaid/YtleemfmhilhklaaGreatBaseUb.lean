/- The cars of a unit parking function in the order of their favourites. Plain facts; no condition beside what each theorem states. -/
import Derived.Test.YtleemfmhilhklaaGreatBaseVa
import Derived.Test.YtleemfmhilhklaaGreatBaseF
import Derived.Test.YtleemfmhilhklaaGreatBaseU
import Derived.Test.YtleemfmhilhklaaGreatBaseJd
namespace Go.Proofs.YtleemfmhilhklaaGreat.Plain
open Go.RowKit Go.Proofs.YtleemfmhilhklaaGreatW.PrintWords Go.Proofs.YtleemfmhilhklaaGreatW.PrintLast Go.Proofs.YtleemfmhilhklaaGreat.Hand Go.Proofs.YtleemfmhilhklaaGreat.PAll
set_option linter.unusedVariables false
theorem fair_codes (l : List Int) (h8 : l.length ≤ 8) : (fairS l).map (code l) = srt ((iota 0 l.length).map (code l)) := by
  unfold fairS
  rw [List.map_map]
  have e : (srt ((iota 0 l.length).map (code l))).map (code l ∘ fun c => c % 8) = (srt ((iota 0 l.length).map (code l))).map id := by
    refine List.map_congr_left fun c hc => ?_
    have hc2 := (srt_perm _).mem_iff.1 hc
    obtain ⟨i, hi, rfl⟩ := List.mem_map.1 hc2
    have := (iota_mem _ i).1 hi
    show code l (code l i % 8) = code l i
    rw [show code l i % 8 = i by unfold code; omega]
  rw [e, List.map_id]
theorem upc_iota (n z : Nat) (h : z < n) : upc (z : Int) (iota 0 n) = (z : Int) + 1 := by
  have hl := iota_length 0 n
  have a := upc_few (iota 0 n) (z + 1) (z : Int) (fun i hi hij => by rw [iota_get]; omega)
  have b := upc_many (iota 0 n) z (z : Int) (by omega) (fun i hi hij => by rw [iota_get]; omega)
  omega
/-- What is known of a unit parking function: its cars by their favourites, and where they park. -/
structure UnitF (l : List Int) : Prop where
  eight : l.length ≤ 8
  inn : ∀ x ∈ l, 0 ≤ x ∧ x < (l.length : Int)
  parks : (-1 : Int) ∉ sdrive (l.length : Int) [] l
  perm : (fairS l).Perm (iota 0 l.length)
  flen : (fairS l).length = l.length
  fin : ∀ (i : Nat) (h : i < (fairS l).length), 0 ≤ (fairS l)[i] ∧ (fairS l)[i] < (l.length : Int)
  codes : ∀ (i j : Nat) (hi : i < (fairS l).length) (hj : j < (fairS l).length), i < j → code l (fairS l)[i] ≤ code l (fairS l)[j]
  one : ∀ (i : Nat) (h : i < l.length) (h2 : i < (sdrive (l.length : Int) [] l).length), l[i] ≤ (sdrive (l.length : Int) [] l)[i] ∧ (sdrive (l.length : Int) [] l)[i] ≤ l[i] + 1
  level : ∀ z : Nat, z < l.length → upc (z : Int) (sdrive (l.length : Int) [] l) = (z : Int) + 1
theorem unitF {l : List Int} (hp : parking l = true) (hu : unit l 1 = true) : UnitF l := by
  have h8 := parking_cars hp
  have hin := parking_in hp
  have hx : ∀ x ∈ l, 0 ≤ x ∧ x < 100 := fun x hx => by have := hin x hx; omega
  have hperm := fairS_perm l h8 hx
  have hlen : (fairS l).length = l.length := by rw [hperm.length_eq, iota_length]
  refine ⟨h8, hin, parking_all hp, hperm, hlen, fun i h => (iota_mem _ _).1 (hperm.mem_iff.1 (List.getElem_mem h)), fun i j hi hj hij => ?_, fun i h h2 => ?_, fun z hz => ?_⟩
  · have hs : ((fairS l).map (code l)).Pairwise (· ≤ ·) := by rw [fair_codes l h8]; exact srt_sorted _
    have := List.pairwise_iff_getElem.1 hs i j (by simpa using hi) (by simpa using hj) hij
    rwa [List.getElem_map, List.getElem_map] at this
  · have hm := met0 (parking_all hp) i h
    unfold Meets at hm
    rw [rd_nat _ i h2] at hm
    have hl0 := hin l[i] (List.getElem_mem h)
    have hd : wrap64 (rd (sdrive (l.length : Int) [] l) (i : Int) - rd l (i : Int)) ∈ dists l := by
      unfold dists dst
      exact List.mem_map.2 ⟨i, List.mem_range.2 h, rfl⟩
    unfold unit at hu
    rw [List.all_eq_true] at hu
    have h3 := of_decide_eq_true (hu _ hd)
    rw [rd_nat _ i h2, rd_nat l i h, wrap64_in _ (by omega) (by omega)] at h3
    omega
  · rw [upc_perm _ (s_perm hp), upc_iota _ _ hz]
/-- The favourites in their order. -/
theorem favs_perm {l : List Int} (U : UnitF l) : ((fairS l).map (rd l)).Perm l := by
  have h1 := U.perm.map (rd l)
  have e : (iota 0 l.length).map (rd l) = l := by
    refine List.ext_getElem (by simp [iota_length]) (fun i h2 h3 => ?_)
    rw [List.getElem_map, iota_get, Int.zero_add, rd_nat l i h3]
  rwa [e] at h1
theorem favs_sorted {l : List Int} (U : UnitF l) (i j : Nat) (hi : i < (fairS l).length) (hj : j < (fairS l).length) (hij : i ≤ j) : rd l (fairS l)[i] ≤ rd l (fairS l)[j] := by
  rcases Nat.lt_or_ge i j with h | h
  · have := U.codes i j hi hj h
    unfold code at this
    have h1 := U.fin i hi
    have h2 := U.fin j hj
    have h8 := U.eight
    omega
  · obtain rfl : i = j := by omega
    exact Int.le_refl _
theorem fav_at {l : List Int} (U : UnitF l) (q : Nat) (hq : q < (fairS l).length) : rd l (fairS l)[q] = (q : Int) ∨ rd l (fairS l)[q] = (q : Int) - 1 := by
  have hlen := U.flen
  have hs := s_len (l.length : Int) l
  have hmem : 0 ≤ rd l (fairS l)[q] := by
    have h1 := U.fin q hq
    obtain ⟨c, hc⟩ := Int.eq_ofNat_of_zero_le h1.1
    rw [hc, rd_nat l c (by omega)]
    exact (U.inn _ (List.getElem_mem _)).1
  have a : ¬ rd l (fairS l)[q] > (q : Int) := fun h => by
    have h1 := upc_few ((fairS l).map (rd l)) q (q : Int) (fun i hi hij => by
      rw [List.getElem_map]
      have := favs_sorted U q i hq (by simpa using hi) hij
      omega)
    rw [upc_perm _ (favs_perm U)] at h1
    have h2 := upc_pair (sdrive (l.length : Int) [] l) l (q : Int) (q : Int) hs (fun i h1 h2 h3 => by have := U.one i h2 h1; omega)
    have h3 := U.level q (by omega)
    omega
  have b : ¬ rd l (fairS l)[q] < (q : Int) - 1 := fun h => by
    have h1 := upc_many ((fairS l).map (rd l)) q ((q : Int) - 2) (by simpa using hq) (fun i hi hij => by
      rw [List.getElem_map]
      have := favs_sorted U i q (by simpa using hi) hq hij
      omega)
    rw [upc_perm _ (favs_perm U)] at h1
    have h2 := upc_pair l (sdrive (l.length : Int) [] l) ((q : Int) - 2) ((q : Int) - 1) hs.symm (fun i h1 h2 h3 => by have := U.one i h1 h2; omega)
    have h3 := U.level (q - 1) (by omega)
    rw [show ((q - 1 : Nat) : Int) = (q : Int) - 1 by omega] at h3
    omega
  omega
/-- Behind a car whose favourite is the place ahead, the next one comes later. -/
theorem go_up {l : List Int} (U : UnitF l) (q : Nat) (hq : q + 1 < (fairS l).length) (h1 : rd l (fairS l)[q + 1] = (q : Int)) : (fairS l)[q] < (fairS l)[q + 1] := by
  have hlen := U.flen
  have h8 := U.eight
  have hs := s_len (l.length : Int) l
  have hnd : (fairS l).Nodup := U.perm.nodup_iff.2 (iota_nodup _)
  have hne : (fairS l)[q] ≠ (fairS l)[q + 1] := List.pairwise_iff_getElem.1 hnd q (q + 1) (by omega) hq (by omega)
  have hc := U.codes q (q + 1) (by omega) hq (by omega)
  have hcin := U.fin q (by omega)
  have hdin := U.fin (q + 1) hq
  rcases fav_at U q (by omega) with hb | hb
  · unfold code at hc
    omega
  · -- only one car has the favourite q
    have only : ∀ (i : Nat) (hi : i < l.length), l[i] = (q : Int) → (i : Int) = (fairS l)[q + 1] := fun i hi he => by
      have hm : (i : Int) ∈ fairS l := U.perm.mem_iff.2 ((iota_mem _ _).2 (by omega))
      obtain ⟨j, hj, e⟩ := List.getElem_of_mem hm
      have h2 := fav_at U j hj
      rw [e, rd_nat l i hi, he] at h2
      have hjq : j = q ∨ j = q + 1 := by omega
      rcases hjq with rfl | rfl
      · rw [e, rd_nat l i hi, he] at hb
        omega
      · exact e.symm
    have hpass : ∃ i : Nat, ∃ hi : i < l.length, l[i] ≤ (q : Int) ∧ (q : Int) < (sdrive (l.length : Int) [] l)[i]'(by omega) := by
      refine Classical.byContradiction fun hn => ?_
      have a := upc_pair l (sdrive (l.length : Int) [] l) (q : Int) (q : Int) hs.symm (fun i h1 h2 h3 => by
        refine Classical.byContradiction fun h4 => hn ⟨i, h1, h3, by omega⟩)
      have b := upc_many ((fairS l).map (rd l)) (q + 1) (q : Int) (by simpa using hq) (fun i hi hij => by
        rw [List.getElem_map]
        have := favs_sorted U i (q + 1) (by simpa using hi) hq hij
        omega)
      rw [upc_perm _ (favs_perm U)] at b
      have c := U.level q (by omega)
      omega
    obtain ⟨d, hd, hd1, hd2⟩ := hpass
    have hd3 := U.one d hd (by omega)
    have hdq : l[d] = (q : Int) := by omega
    have hde := only d hd hdq
    have hsd : (sdrive (l.length : Int) [] l)[d]'(by omega) = (q : Int) + 1 := by omega
    have md := met0 U.parks d hd
    unfold Meets at md
    rw [rd_nat _ d (by omega), hsd] at md
    have m1 := md.2.2.2 (q : Int) (by omega) (by omega)
    obtain ⟨e, he, hse⟩ := List.mem_iff_getElem.1 m1
    rw [List.getElem_take] at hse
    rw [List.length_take] at he
    have he3 := U.one e (by omega) (by omega)
    have hle : l[e]'(by omega) = (q : Int) - 1 := by
      by_cases h : l[e]'(by omega) = (q : Int)
      · have := only e (by omega) h
        omega
      · omega
    have me := met0 U.parks e (by omega)
    unfold Meets at me
    rw [rd_nat _ e (by omega), hse, hle] at me
    have m2 := me.2.2.2 ((q : Int) - 1) (by omega) (by omega)
    obtain ⟨e2, he2, hse2⟩ := List.mem_iff_getElem.1 m2
    rw [List.getElem_take] at hse2
    rw [List.length_take] at he2
    obtain ⟨c, hcc⟩ := Int.eq_ofNat_of_zero_le hcin.1
    rw [hcc] at hb ⊢
    rw [← hde]
    have hcl : c < l.length := by omega
    rw [rd_nat l c hcl] at hb
    have hc3 := U.one c hcl (by omega)
    refine Classical.byContradiction fun hlt => ?_
    have hcd : d ≤ c := by omega
    have hsn := s_nodup U.parks
    by_cases hsc : (sdrive (l.length : Int) [] l)[c]'(by omega) = (q : Int)
    · exact List.pairwise_iff_getElem.1 hsn e c (by omega) (by omega) (by omega) (hse.trans hsc.symm)
    · have : (sdrive (l.length : Int) [] l)[c]'(by omega) = (q : Int) - 1 := by omega
      exact List.pairwise_iff_getElem.1 hsn e2 c (by omega) (by omega) (by omega) (hse2.trans this.symm)
end Go.Proofs.YtleemfmhilhklaaGreat.Plain
