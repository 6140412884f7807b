/- The pure statement of the law FnExactUsualOf: the program's UsualOf and the reference's one answer alike; no condition beside the row's own. -/
import Derived.Test.YtibmphdbkhchdaaPAllx5
import Derived.Test.YtibmphdbkhchdaaBaseS
import Derived.Test.YtibmphdbkhchdaaBaseM
import Derived.Test.YtibmphdbkhchdaaBaseK
import Derived.Test.YtibmphdbkhchdaaBaseP
namespace Go.Proofs.Ytibmphdbkhchdaa.Pure
open Go.RowKit Go.Proofs.YtibmphdbkhchdaaW.PrintWords Go.Proofs.YtibmphdbkhchdaaW.PrintLast Go.Proofs.Ytibmphdbkhchdaa.Hand Go.Proofs.Ytibmphdbkhchdaa.PAll Go.Proofs.Ytibmphdbkhchdaa.Plain
set_option linter.unusedVariables false
namespace UsualOf
theorem bnds_usual : ∀ n : Fin 6, bnds ((n.1 : Int) + 1) ((n.1 : Int) + 2) = iota 0 (n.1 + 1) := by decide +kernel
theorem underR_get : ∀ (xs bs : List Int) (i : Nat) (h1 : i < xs.length) (h2 : i < bs.length), underR xs bs = true → xs[i] ≤ bs[i]
  | [], _, i, h1, _, _ => by simp at h1
  | x :: xs, [], i, _, h2, _ => by simp at h2
  | x :: xs, b :: bs, 0, _, _, h => by
    rw [underR, Bool.and_eq_true, decide_eq_true_eq] at h
    exact h.1.2
  | x :: xs, b :: bs, i + 1, h1, h2, h => by
    rw [underR, Bool.and_eq_true] at h
    simpa using underR_get xs bs i (by simpa using h1) (by simpa using h2) h.2
theorem parking_of {l : List Int} (h : slp l ((l.length : Int) + 1) = true) : parking l = true := by
  have hin := slope_in (slp_slope h)
  have hl := slp_length h
  obtain ⟨n, hn⟩ : ∃ n, l.length = n + 1 := ⟨l.length - 1, by omega⟩
  have hb : bnds (l.length : Int) ((l.length : Int) + 1) = iota 0 l.length := by
    have e := bnds_usual ⟨n, by omega⟩
    rw [hn, show (((n + 1 : Nat) : Int)) = (n : Int) + 1 by omega, show (n : Int) + 1 + 1 = (n : Int) + 2 by omega]
    exact e
  have hu : under l ((l.length : Int) + 1) = true := by
    unfold slp at h
    rw [Bool.and_eq_true] at h
    exact h.2
  have hs : ∀ i (hi : i < (srt l).length), (srt l)[i] ≤ (i : Int) := by
    intro i hi
    have hil : i < l.length := by rw [srt_length] at hi; exact hi
    unfold under at hu
    rw [hb] at hu
    have h2 := underR_get (srt l) (iota 0 l.length) i hi (by rw [iota_length]; exact hil) hu
    rw [iota_get] at h2
    omega
  have hx := slp_in h
  have hlt : ∀ x ∈ l, 0 ≤ x ∧ x < (l.length : Int) := by
    intro x hx2
    refine ⟨(hx x hx2).1, ?_⟩
    obtain ⟨i, hi, rfl⟩ := List.mem_iff_getElem.1 ((srt_mem l x).2 hx2)
    have := hs i hi
    rw [srt_length] at hi
    omega
  have hc : ∀ f : Int, 0 ≤ f → f < (l.length : Int) → f + 1 ≤ cnt (fun x => decide (x ≤ f)) l := by
    intro f hf0 hf1
    have e1 : cnt (fun x => decide (x ≤ f)) l = cnt (fun x => decide (x ≤ f)) (srt l) := by
      unfold cnt
      rw [((srt_perm l).filter _).length_eq]
    have e2 := cntK_append (fun x => decide (x ≤ f)) ((srt l).take (f.toNat + 1)) ((srt l).drop (f.toNat + 1))
    rw [List.take_append_drop] at e2
    have e3 : cnt (fun x => decide (x ≤ f)) ((srt l).take (f.toNat + 1)) = f + 1 := by
      unfold cnt
      rw [List.filter_eq_self.2]
      · rw [List.length_take, srt_length]
        omega
      · intro x hx2
        obtain ⟨i, hi, rfl⟩ := List.mem_iff_getElem.1 hx2
        rw [List.length_take] at hi
        rw [List.getElem_take]
        have := hs i (by omega)
        exact decide_eq_true (by omega)
    have e4 := cnt_nonneg (fun x => decide (x ≤ f)) ((srt l).drop (f.toNat + 1))
    omega
  unfold parking
  rw [decide_eq_true (by omega), Bool.true_and, Bool.and_eq_true, List.all_eq_true, Bool.not_eq_true', decide_eq_false_iff_not]
  exact ⟨fun x hx2 => by have := hlt x hx2; exact decide_eq_true (by omega), parks_all l hlt hc⟩
def res (l : List Int) : List Int × Bool := if slp l ((l.length : Int) + 1) = true then (l, true) else ([], false)
theorem res_length (l : List Int) : (res l).1.length ≤ 100 := by
  unfold res
  split
  · rename_i h
    have := slp_length h
    simp only
    omega
  · simp
theorem impl_ev (l : List Int) (hs : l.length ≤ 1099511627776) : Ev (fun k => impl_UsualOf.f k l) (res l) := by
  unfold impl_UsualOf.f res
  rw [wrap64_in _ (by omega) (by omega)]
  refine Ev.bind (isSlopeParking_ev l _) ?_
  cases h : slp l ((l.length : Int) + 1) with
  | false => rw [if_neg (by decide)]; exact Ev.neg (by decide) (Ev.now _)
  | true =>
    rw [if_pos rfl]
    refine Ev.pos rfl (Ev.bind (isParking_ev l) ?_)
    rw [parking_of h]
    refine Ev.pos rfl (Ev.bindc (a := l) ?_ (Ev.now _))
    unfold slices_Clone_int_int.f
    rw [if_pos (by omega)]
end UsualOf
end Go.Proofs.Ytibmphdbkhchdaa.Pure
