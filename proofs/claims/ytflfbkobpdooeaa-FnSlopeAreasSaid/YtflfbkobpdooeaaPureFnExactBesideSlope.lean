/- The pure statement of the law FnExactBesideSlope: the program's BesideSlope and the reference's one answer alike; no condition beside the row's own. -/
import Derived.Test.YtflfbkobpdooeaaPAllx5
import Derived.Test.YtflfbkobpdooeaaBaseF
import Derived.Test.YtflfbkobpdooeaaBaseS
import Derived.Test.YtflfbkobpdooeaaBaseM
namespace Go.Proofs.Ytflfbkobpdooeaa.Pure
open Go.RowKit Go.Proofs.YtflfbkobpdooeaaW.PrintWords Go.Proofs.YtflfbkobpdooeaaW.PrintLast Go.Proofs.Ytflfbkobpdooeaa.Hand Go.Proofs.Ytflfbkobpdooeaa.PAll Go.Proofs.Ytflfbkobpdooeaa.Plain
set_option linter.unusedVariables false
namespace BesideSlope
theorem cntB_cons (p : Int → Bool) (x : Int) (l : List Int) : cnt p (x :: l) = (if p x = true then 1 else 0) + cnt p l := by
  unfold cnt
  rw [List.filter_cons]
  split <;> simp <;> omega
/-- How many cars come ahead of car i in the fair order. -/
def ahead (l : List Int) (i : Int) : Int := cnt (fun j => decide (code l j < code l i)) (iota 0 l.length)
theorem ahead_in (l : List Int) (i : Int) : 0 ≤ ahead l i ∧ ahead l i ≤ l.length := by
  unfold ahead
  have h1 := cnt_nonneg (fun j => decide (code l j < code l i)) (iota 0 l.length)
  have h2 := cnt_le (fun j => decide (code l j < code l i)) (iota 0 l.length)
  rw [iota_length] at h2
  exact ⟨h1, h2⟩
def goal (l : List Int) (n : Nat) : List Int := (iota 0 n).map fun i => rd l i + ahead l i
theorem goal_length (l : List Int) (n : Nat) : (goal l n).length = n := by simp [goal, iota_length]
theorem goal_get (l : List Int) (n i : Nat) (h : i < (goal l n).length) : (goal l n)[i] = rd l (i : Int) + ahead l (i : Int) := by simp [goal, iota]
theorem goal_succ (l : List Int) (n : Nat) : goal l (n + 1) = goal l n ++ [rd l (n : Int) + ahead l (n : Int)] := by
  unfold goal
  rw [iota_succ, List.map_append]
  simp
theorem rd_in (l : List Int) (a : Int) (hx : ∀ x ∈ l, 0 ≤ x ∧ x < a) (n : Nat) (h : n < l.length) : 0 ≤ rd l n ∧ rd l n < a := by
  rw [rd_nat l n h]
  exact hx _ (List.getElem_mem h)
theorem spec_l1 (l : List Int) (h8 : l.length ≤ 8) (hx : ∀ x ∈ l, 0 ≤ x ∧ x < 100) (out : List Int) (ho : out.length ≤ 100) (i : Nat) (hi : i < l.length) (R : List Int × Bool) : ∀ (d m : Nat) (acc : Int), m + d = l.length → 0 ≤ acc → acc ≤ m →
    Ev (fun k => spec_BesideSlope.l0 k l (out ++ [rd l i + (acc + cnt (fun j => decide (code l j < code l i)) ((iota 0 l.length).drop m))]) l (l.length : Int) ((i + 1 : Nat) : Int)) R →
    Ev (fun k => spec_BesideSlope.l1 k l out (i : Int) (rd l i) acc l (l.length : Int) (i : Int) l (l.length : Int) (m : Int)) R := by
  have hib := rd_in l 100 hx i hi
  intro d
  induction d with
  | zero =>
    intro m acc hm h0 h1 hn
    rw [List.drop_eq_nil_of_le (by rw [iota_length]; omega), show cnt (fun j => decide (code l j < code l i)) [] = 0 from rfl, Int.add_zero] at hn
    refine Ev.step (fun k => ?_) hn
    rw [spec_BesideSlope.l1, if_neg (by omega), if_pos (by omega), wrap64_in (rd l i + acc) (by omega) (by omega), wrap_succ i (by omega)]
  | succ d ih =>
    intro m acc hm h0 h1 hn
    have hlt : m < l.length := by omega
    have hmb := rd_in l 100 hx m hlt
    have hg : m < (iota 0 l.length).length := by rw [iota_length]; omega
    rw [List.drop_eq_getElem_cons hg, iota_get, Int.zero_add, cntB_cons] at hn
    by_cases hc : code l m < code l i
    · have e : ∀ C : Int, rd l (i : Int) + (acc + (1 + C)) = rd l (i : Int) + (acc + 1 + C) := fun C => by omega
      rw [if_pos (decide_eq_true hc), e] at hn
      have h := ih (m + 1) (acc + 1) (by omega) (by omega) (by omega) hn
      refine Ev.step (fun k => ?_) h
      unfold code at hc
      rw [spec_BesideSlope.l1, if_pos (by omega), if_pos (by omega), if_pos (by omega)]
      by_cases hc1 : rd l m < rd l i
      · rw [if_pos hc1, wrap_succ m (by omega), wrap64_in (acc + 1) (by omega) (by omega)]
      · rw [if_neg hc1, if_pos (by omega), if_pos (by omega), wrap_succ m (by omega), wrap64_in (acc + 1) (by omega) (by omega)]
    · rw [if_neg (by simpa using hc), Int.zero_add] at hn
      have h := ih (m + 1) acc (by omega) (by omega) (by omega) hn
      refine Ev.step (fun k => ?_) h
      unfold code at hc
      rw [spec_BesideSlope.l1, if_pos (by omega), if_pos (by omega), if_pos (by omega), if_neg (by omega)]
      by_cases hc1 : rd l m = rd l i
      · rw [if_pos hc1, if_neg (by omega), wrap_succ m (by omega)]
      · rw [if_neg hc1, wrap_succ m (by omega)]
theorem spec_l0 (l : List Int) (h8 : l.length ≤ 8) (hx : ∀ x ∈ l, 0 ≤ x ∧ x < 100) : ∀ (d n : Nat), n + d = l.length →
    Ev (fun k => spec_BesideSlope.l0 k l (goal l n) l (l.length : Int) (n : Int)) (goal l l.length, true) := by
  intro d
  induction d with
  | zero =>
    intro n hn
    obtain rfl : n = l.length := by omega
    refine Ev.step (f := fun _ => some (goal l l.length, true)) (fun k => ?_) (Ev.now _)
    rw [spec_BesideSlope.l0, if_neg (by omega)]
  | succ d ih =>
    intro n hn
    have hlt : n < l.length := by omega
    have h := spec_l1 l h8 hx (goal l n) (by rw [goal_length]; omega) n hlt (goal l l.length, true) l.length 0 0 (by omega) (Int.le_refl _) (Int.le_refl _) (by
      rw [List.drop_zero, Int.zero_add]
      have := ih (n + 1) (by omega)
      rw [goal_succ] at this
      exact this)
    refine Ev.step (fun k => ?_) h
    rw [spec_BesideSlope.l0, if_pos (by omega), if_pos (by omega), if_pos (by omega)]
    rfl
/-! ### the program's way -/
theorem code_mod (l : List Int) (i : Int) (h : 0 ≤ i ∧ i < 8) : code l i % 8 = i := by unfold code; omega
theorem fairS_codes (l : List Int) (h8 : l.length ≤ 8) : (fairS l).map (code l) = srt ((iota 0 l.length).map (code l)) := by
  unfold fairS
  rw [List.map_map]
  have e : (srt ((iota 0 l.length).map (code l))).map (code l ∘ fun c => c % 8) = (srt ((iota 0 l.length).map (code l))).map id := by
    refine List.map_congr_left fun c hc => ?_
    have hc2 := (srt_perm _).mem_iff.1 hc
    obtain ⟨i, hi, rfl⟩ := List.mem_map.1 hc2
    have := (iota_mem _ i).1 hi
    show code l (code l i % 8) = code l i
    rw [code_mod l i (by omega)]
  rw [e, List.map_id]
theorem fair_at (l : List Int) (h8 : l.length ≤ 8) (hx : ∀ x ∈ l, 0 ≤ x ∧ x < 100) (m : Nat) (hm : m < (fairS l).length) : ahead l (fairS l)[m] = m := by
  have hp := fairS_perm l h8 hx
  have hnd : (fairS l).Nodup := (hp.nodup_iff).2 (iota_nodup _)
  have hsort : ((fairS l).map (code l)).Pairwise (· ≤ ·) := by rw [fairS_codes l h8]; exact srt_sorted _
  have hc := List.pairwise_iff_getElem.1 hsort
  have hi := List.pairwise_iff_getElem.1 hnd
  have hin : ∀ j (hj : j < (fairS l).length), 0 ≤ (fairS l)[j] ∧ (fairS l)[j] < 8 := by
    intro j hj
    have := (iota_mem _ _).1 (hp.mem_iff.1 (List.getElem_mem hj))
    omega
  unfold ahead cnt
  rw [← (hp.filter _).length_eq]
  obtain ⟨q, hq⟩ : ∃ q, q = code l (fairS l)[m] := ⟨_, rfl⟩
  rw [← hq]
  have e1 : ((fairS l).take m).filter (fun j => decide (code l j < q)) = (fairS l).take m := by
    rw [List.filter_eq_self]
    intro x hx2
    obtain ⟨j, hj, rfl⟩ := List.getElem_of_mem hx2
    rw [List.length_take] at hj
    rw [List.getElem_take]
    have h1 := hc j m (by rw [List.length_map]; omega) (by rw [List.length_map]; exact hm) (by omega)
    rw [List.getElem_map, List.getElem_map] at h1
    have h2 := hi j m (by omega) hm (by omega)
    have h3 := hin j (by omega)
    have h4 := hin m hm
    refine decide_eq_true ?_
    rw [hq]
    rcases Int.lt_or_eq_of_le h1 with h5 | h5
    · exact h5
    · have := code_mod l _ h3
      rw [h5, code_mod l _ h4] at this
      exact absurd this.symm h2
  have e2 : ((fairS l).drop m).filter (fun j => decide (code l j < q)) = [] := by
    rw [List.filter_eq_nil_iff]
    intro x hx2
    obtain ⟨j, hj, rfl⟩ := List.getElem_of_mem hx2
    rw [List.length_drop] at hj
    rw [List.getElem_drop]
    have h1 : code l (fairS l)[m] ≤ code l (fairS l)[m + j] := by
      rcases Nat.eq_zero_or_pos j with rfl | hj0
      · exact Int.le_refl _
      · have h1 := hc m (m + j) (by rw [List.length_map]; exact hm) (by rw [List.length_map]; omega) (by omega)
        rw [List.getElem_map, List.getElem_map] at h1
        exact h1
    simp
    omega
  have e3 := List.filter_append (p := fun j => decide (code l j < q)) ((fairS l).take m) ((fairS l).drop m)
  rw [List.take_append_drop] at e3
  rw [e3, e1, e2, List.append_nil, List.length_take]
  omega
theorem rd_set (xs : List Int) (i : Nat) (v : Int) (k : Nat) (hk : k < xs.length) : rd (xs.set i v) k = if k = i then v else rd xs k := by
  rw [rd_nat _ k (by rw [List.length_set]; exact hk), rd_nat _ k hk, List.getElem_set]
  by_cases h : i = k
  · rw [if_pos h, if_pos h.symm]
  · rw [if_neg h, if_neg (fun e => h e.symm)]
theorem besL_at (l : List Int) (h8 : l.length ≤ 8) (hx : ∀ x ∈ l, 0 ≤ x ∧ x < 100) : ∀ (m : Nat), m ≤ l.length → ∀ k : Nat, k < l.length →
    rd (besL l m) k = if (k : Int) ∈ (fairS l).take m then rd l k + ahead l k else rd l k := by
  have hp := fairS_perm l h8 hx
  have hlen : (fairS l).length = l.length := by rw [hp.length_eq, iota_length]
  have hnd : (fairS l).Nodup := (hp.nodup_iff).2 (iota_nodup _)
  have hL := fairL_eq l h8 hx
  intro m
  induction m with
  | zero => intro _ k hk; simp [besL]
  | succ m ih =>
    intro hm k hk
    have hlt : m < (fairS l).length := by omega
    have hF : rd (fairL l) (m : Int) = (fairS l)[m] := by rw [hL, rd_nat _ m hlt]
    have hb := (iota_mem _ _).1 (hp.mem_iff.1 (List.getElem_mem hlt))
    have hFk : (((fairS l)[m].toNat : Nat) : Int) = (fairS l)[m] := by omega
    have hnot : (fairS l)[m] ∉ (fairS l).take m := by
      have h3 : ((fairS l).take (m + 1)).Nodup := hnd.sublist (List.take_sublist _ _)
      rw [List.take_succ_eq_append_getElem hlt, List.nodup_append] at h3
      exact fun hc => h3.2.2 _ hc _ List.mem_cons_self rfl
    have hv : rd (besL l m) (fairS l)[m] = rd l (fairS l)[m] := by
      have := ih (by omega) (fairS l)[m].toNat (by omega)
      rw [hFk, if_neg hnot] at this
      exact this
    have hr := rd_in l 100 hx (fairS l)[m].toNat (by omega)
    rw [hFk] at hr
    rw [besL, hF, hv, wrap64_in _ (by omega) (by omega), rd_set _ _ _ k (by rw [besL_length]; exact hk), List.take_succ_eq_append_getElem hlt]
    by_cases e : k = (fairS l)[m].toNat
    · have e2 : (k : Int) = (fairS l)[m] := by omega
      rw [if_pos e, if_pos (by rw [e2]; exact List.mem_append_right _ (List.mem_singleton.2 rfl)), e2, fair_at l h8 hx m hlt]
    · rw [if_neg e, ih (by omega) k hk]
      by_cases h2 : (k : Int) ∈ (fairS l).take m
      · rw [if_pos h2, if_pos (List.mem_append_left _ h2)]
      · rw [if_neg h2, if_neg (by
          intro h3
          rcases List.mem_append.1 h3 with h3 | h3
          · exact h2 h3
          · rw [List.mem_singleton] at h3
            omega)]
theorem besL_eq (l : List Int) (h8 : l.length ≤ 8) (hx : ∀ x ∈ l, 0 ≤ x ∧ x < 100) : besL l l.length = goal l l.length := by
  have hp := fairS_perm l h8 hx
  have hlen : (fairS l).length = l.length := by rw [hp.length_eq, iota_length]
  refine List.ext_getElem (by rw [besL_length, goal_length]) fun k h1 h2 => ?_
  rw [besL_length] at h1
  have h := besL_at l h8 hx l.length (Nat.le_refl _) k h1
  rw [rd_nat _ k (by rw [besL_length]; exact h1), List.take_of_length_le (by omega), if_pos (hp.mem_iff.2 ((iota_mem _ _).2 (by omega)))] at h
  rw [h, goal_get]
def res (l : List Int) (a : Int) : List Int × Bool := if slp l a = true ∧ slope (l.length : Int) (a + (l.length : Int)) = true then (goal l l.length, true) else ([], false)
theorem res_length (l : List Int) (a : Int) : (res l a).1.length ≤ 100 := by
  unfold res
  split
  · rename_i h
    have := slp_length h.1
    simp only [goal_length]
    omega
  · simp
theorem slp_a {l : List Int} {a : Int} (h : slp l a = true) : 1 ≤ a ∧ a ≤ 13 := (slope_in (slp_slope h)).2
theorem res_no {l : List Int} {a : Int} (h : slp l a = false) : res l a = ([], false) := by unfold res; rw [h]; simp
theorem res_no2 {l : List Int} {a : Int} (h : slope (l.length : Int) (a + (l.length : Int)) = false) : res l a = ([], false) := by unfold res; rw [h]; simp
theorem res_yes {l : List Int} {a : Int} (h : slp l a = true) (h2 : slope (l.length : Int) (a + (l.length : Int)) = true) : res l a = (goal l l.length, true) := by unfold res; rw [if_pos ⟨h, h2⟩]
theorem spec_ev (l : List Int) (a : Int) : Ev (fun k => spec_BesideSlope.f k l a) (res l a) := by
  unfold spec_BesideSlope.f
  refine Ev.bind (slGood_ev l a) ?_
  cases h : slp l a with
  | false =>
    rw [res_no h]
    refine Ev.neg (by decide) (Ev.step (f := fun _ => some ([], false)) (fun k => ?_) (Ev.now _))
    rw [spec_BesideSlope.j0, if_pos rfl]
  | true =>
    have hl := slp_length h
    have ha := slp_a h
    refine Ev.pos rfl ?_
    rw [wrap64_in _ (by omega) (by omega)]
    refine Ev.bind (slIs_ev (l.length : Int) (a + (l.length : Int))) ?_
    cases h2 : slope (l.length : Int) (a + (l.length : Int)) with
    | false =>
      rw [res_no2 h2]
      refine Ev.step (f := fun _ => some ([], false)) (fun k => ?_) (Ev.now _)
      rw [spec_BesideSlope.j0, if_pos (by decide)]
    | true =>
      rw [res_yes h h2]
      refine Ev.step (f := ?f1) (fun k => ?h1) ?g1
      case h1 => rw [spec_BesideSlope.j0, if_neg (by decide)]
      exact spec_l0 l (by omega) (fun x hx => by have := slp_in h x hx; omega) l.length 0 (by omega)
theorem impl_ev (l : List Int) (a : Int) : Ev (fun k => impl_BesideSlope.f k l a) (res l a) := by
  unfold impl_BesideSlope.f
  refine Ev.bind (isSlopeParking_ev l a) ?_
  cases h : slp l a with
  | false => rw [res_no h]; exact Ev.neg (by decide) (Ev.now _)
  | true =>
    have hl := slp_length h
    have ha := slp_a h
    refine Ev.pos rfl ?_
    rw [wrap64_in _ (by omega) (by omega)]
    refine Ev.bind (isSlope_ev (l.length : Int) (a + (l.length : Int))) ?_
    cases h2 : slope (l.length : Int) (a + (l.length : Int)) with
    | false => rw [res_no2 h2]; exact Ev.neg (by decide) (Ev.now _)
    | true =>
      have hx : ∀ x ∈ l, 0 ≤ x ∧ x < 100 := fun x hx => by have := slp_in h x hx; omega
      have hall : (fairL l).all (fun x => decide (0 ≤ x ∧ x < (l.length : Int))) = true := by
        rw [fairL_eq l (by omega) hx, List.all_eq_true]
        intro x hx2
        have := (iota_mem _ x).1 ((fairS_perm l (by omega) hx).mem_iff.1 hx2)
        exact decide_eq_true (by omega)
      rw [res_yes h h2, ← besL_eq l (by omega) hx]
      exact Ev.pos rfl (Ev.pos ⟨by omega, hall⟩ (Ev.now _))
end BesideSlope
end Go.Proofs.Ytflfbkobpdooeaa.Pure
