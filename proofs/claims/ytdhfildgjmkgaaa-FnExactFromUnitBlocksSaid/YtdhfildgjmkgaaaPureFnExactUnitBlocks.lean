/- The pure facts of the law FnExactUnitBlocks: the program's UnitBlocks and the reference's one answer alike. Condition: a length below 2^40. -/
import Derived.Test.YtdhfildgjmkgaaaPAllx1
import Derived.Test.YtdhfildgjmkgaaaPAllx2
import Derived.Test.YtdhfildgjmkgaaaPAllx4
import Derived.Test.YtdhfildgjmkgaaaBaseU
import Derived.Test.YtdhfildgjmkgaaaBaseF
import Derived.Test.YtdhfildgjmkgaaaBaseQ
namespace Go.Proofs.Ytdhfildgjmkgaaa.Pure
open Go.RowKit Go.Proofs.YtdhfildgjmkgaaaW.PrintWords Go.Proofs.YtdhfildgjmkgaaaW.PrintLast Go.Proofs.Ytdhfildgjmkgaaa.Hand Go.Proofs.Ytdhfildgjmkgaaa.PAll Go.Proofs.Ytdhfildgjmkgaaa.Plain
set_option linter.unusedVariables false
namespace UnitBlocks
/-- A car joins the last block, or begins one. -/
def join (car : Int) (o : List (List Int)) : List (List Int) := o.set (o.length - 1) (rd_L1 o ((o.length - 1 : Nat) : Int) ++ [car])
def put (l : List Int) (car : Int) (n : Nat) (out : List (List Int)) : List (List Int) := join car (if rd l car = (n : Int) then out ++ [[]] else out)
def go (l fr : List Int) : Nat → Nat → List (List Int) → List (List Int)
  | 0, _, out => out
  | d + 1, n, out => go l fr d (n + 1) (put l (rd fr (n : Int)) n out)
theorem join_length (car : Int) (o : List (List Int)) : (join car o).length = o.length := by unfold join; rw [List.length_set]
theorem rd2_len (o : List (List Int)) (m i : Nat) (h : ∀ x ∈ o, x.length ≤ m) : (rd_L1 o (i : Int)).length ≤ m := by
  unfold rd_L1
  rw [Int.toNat_natCast, List.getD_eq_getElem?_getD]
  by_cases hi : i < o.length
  · rw [List.getElem?_eq_getElem hi]
    exact h _ (List.getElem_mem hi)
  · rw [List.getElem?_eq_none (by omega)]
    simp
theorem join_rows (car : Int) (o : List (List Int)) (m : Nat) (h : ∀ x ∈ o, x.length ≤ m) : ∀ x ∈ join car o, x.length ≤ m + 1 := by
  intro x hx
  unfold join at hx
  rcases List.mem_or_eq_of_mem_set hx with hx | rfl
  · have := h x hx; omega
  · have := rd2_len o m (o.length - 1) h
    rw [List.length_append, List.length_singleton]
    omega
theorem put_length (l : List Int) (car : Int) (n : Nat) (out : List (List Int)) (h : out.length ≤ n) : (put l car n out).length ≤ n + 1 ∧ (0 < n → 0 < out.length → 0 < (put l car n out).length) := by
  unfold put
  rw [join_length]
  split
  · simp; omega
  · omega
theorem put_rows (l : List Int) (car : Int) (n : Nat) (out : List (List Int)) (h : ∀ x ∈ out, x.length ≤ n) : ∀ x ∈ put l car n out, x.length ≤ n + 1 := by
  unfold put
  refine join_rows car _ n fun x hx => ?_
  split at hx
  · rcases List.mem_append.1 hx with hx | hx
    · exact h x hx
    · rw [List.mem_singleton] at hx
      rw [hx]
      simp
  · exact h x hx
/-- What both loops ask of the cars' order. -/
structure Fits (l fr : List Int) : Prop where
  len : fr.length ≤ 8
  inn : ∀ n : Nat, n < fr.length → 0 ≤ rd fr (n : Int) ∧ rd fr (n : Int) < (l.length : Int)
  first : 0 < fr.length → rd l (rd fr 0) = 0
theorem impl_l0 {l fr : List Int} (hf : Fits l fr) : ∀ (d n : Nat) (out : List (List Int)), n + d = fr.length → (0 < n → 0 < out.length) → out.length ≤ n → (∀ x ∈ out, x.length ≤ n) →
    Ev (fun k => impl_blocks.l0 k l out fr (fr.length : Int) (n : Int)) (go l fr d n out) := by
  intro d
  induction d with
  | zero =>
    intro n out hn _ _ _
    refine Ev.step (f := fun _ => some out) (fun k => ?_) (Ev.now _)
    rw [impl_blocks.l0, if_neg (by omega)]
  | succ d ih =>
    intro n out hn h0 h1 h2
    have h8 := hf.len
    have hin := hf.inn n (by omega)
    have hp := put_length l (rd fr (n : Int)) n out h1
    have hr := put_rows l (rd fr (n : Int)) n out h2
    have hpos : 0 < (put l (rd fr (n : Int)) n out).length := by
      rcases Nat.eq_zero_or_pos n with rfl | hn0
      · have := hf.first (by omega)
        unfold put
        rw [join_length, show (((0 : Nat) : Int)) = 0 from rfl, if_pos this]
        simp
      · exact hp.2 hn0 (h0 hn0)
    refine Ev.step (fun k => ?_) (ih (n + 1) (put l (rd fr (n : Int)) n out) (by omega) (fun _ => hpos) hp.1 hr)
    rw [impl_blocks.l0, if_pos (by omega), if_pos (by omega), if_pos (by omega), if_pos hin.1, if_pos hin.2]
    by_cases hc : rd l (rd fr (n : Int)) = (n : Int)
    · have hl := rd2_len (out ++ [[]]) n out.length (fun x hx => (List.mem_append.1 hx).elim (h2 x) (fun hx => by rw [List.mem_singleton] at hx; rw [hx]; simp))
      have e1 : wrap64 (((out ++ [[]]).length : Int) - 1) = (out.length : Int) := by rw [List.length_append, List.length_singleton, wrap64_in _ (by omega) (by omega)]; omega
      rw [if_pos hc, if_pos (by omega), Option.bind_some, e1, if_pos (by omega), if_pos (by rw [List.length_append, List.length_singleton]; omega), if_pos (by omega), Int.toNat_natCast, wrap_succ n (by omega)]
      unfold put join
      rw [if_pos hc, List.length_append, List.length_singleton, Nat.add_sub_cancel]
    · have hn0 : 0 < n := by
        rcases Nat.eq_zero_or_pos n with rfl | hn0
        · exact absurd (hf.first (by omega)) hc
        · exact hn0
      have h3 := h0 hn0
      have hl := rd2_len out n (out.length - 1) h2
      have e1 : wrap64 ((out.length : Int) - 1) = ((out.length - 1 : Nat) : Int) := by rw [wrap64_in _ (by omega) (by omega)]; omega
      rw [if_neg hc, e1, if_pos (by omega), if_pos (by omega), if_pos (by omega), Int.toNat_natCast, wrap_succ n (by omega)]
      unfold put join
      rw [if_neg hc]
theorem spec_l0 {l fr : List Int} (hf : Fits l fr) : ∀ (d n : Nat) (out : List (List Int)), n + d = fr.length → (0 < n → 0 < out.length) → out.length ≤ n → (∀ x ∈ out, x.length ≤ n) →
    Ev (fun k => spec_UnitBlocks.l0 k l out fr (fr.length : Int) (n : Int)) (go l fr d n out, true) := by
  intro d
  induction d with
  | zero =>
    intro n out hn _ _ _
    refine Ev.step (f := fun _ => some (out, true)) (fun k => ?_) (Ev.now _)
    rw [spec_UnitBlocks.l0, if_neg (by omega)]
  | succ d ih =>
    intro n out hn h0 h1 h2
    have h8 := hf.len
    have hin := hf.inn n (by omega)
    have hp := put_length l (rd fr (n : Int)) n out h1
    have hr := put_rows l (rd fr (n : Int)) n out h2
    have hpos : 0 < (put l (rd fr (n : Int)) n out).length := by
      rcases Nat.eq_zero_or_pos n with rfl | hn0
      · have := hf.first (by omega)
        unfold put
        rw [join_length, show (((0 : Nat) : Int)) = 0 from rfl, if_pos this]
        simp
      · exact hp.2 hn0 (h0 hn0)
    refine Ev.step (fun k => ?_) (ih (n + 1) (put l (rd fr (n : Int)) n out) (by omega) (fun _ => hpos) hp.1 hr)
    rw [spec_UnitBlocks.l0, if_pos (by omega), if_pos (by omega), if_pos (by omega), if_pos hin.1, if_pos hin.2]
    by_cases hc : rd l (rd fr (n : Int)) = (n : Int)
    · have hl := rd2_len (out ++ [[]]) n out.length (fun x hx => (List.mem_append.1 hx).elim (h2 x) (fun hx => by rw [List.mem_singleton] at hx; rw [hx]; simp))
      have e1 : wrap64 (((out ++ [[]]).length : Int) - 1) = (out.length : Int) := by rw [List.length_append, List.length_singleton, wrap64_in _ (by omega) (by omega)]; omega
      rw [if_pos hc, if_pos (by omega), Option.bind_some, e1, if_pos (by omega), if_pos (by rw [List.length_append, List.length_singleton]; omega), if_pos (by omega), Int.toNat_natCast, wrap_succ n (by omega)]
      unfold put join
      rw [if_pos hc, List.length_append, List.length_singleton, Nat.add_sub_cancel]
    · have hn0 : 0 < n := by
        rcases Nat.eq_zero_or_pos n with rfl | hn0
        · exact absurd (hf.first (by omega)) hc
        · exact hn0
      have h3 := h0 hn0
      have hl := rd2_len out n (out.length - 1) h2
      have e1 : wrap64 ((out.length : Int) - 1) = ((out.length - 1 : Nat) : Int) := by rw [wrap64_in _ (by omega) (by omega)]; omega
      rw [if_neg hc, e1, if_pos (by omega), if_pos (by omega), if_pos (by omega), Int.toNat_natCast, wrap_succ n (by omega)]
      unfold put join
      rw [if_neg hc]
theorem go_rows (l fr : List Int) : ∀ (d n : Nat) (out : List (List Int)), out.length ≤ n → (∀ x ∈ out, x.length ≤ n) → (go l fr d n out).length ≤ n + d ∧ ∀ x ∈ go l fr d n out, x.length ≤ n + d := by
  intro d
  induction d with
  | zero => intro n out h1 h2; exact ⟨h1, h2⟩
  | succ d ih =>
    intro n out h1 h2
    have := ih (n + 1) (put l (rd fr (n : Int)) n out) (put_length l _ n out h1).1 (put_rows l _ n out h2)
    rw [go]
    rw [show n + (d + 1) = n + 1 + d by omega]
    exact this
theorem fits {l : List Int} (hp : parking l = true) : Fits l (fairS l) := by
  have h8 := parking_cars hp
  have hb := parking_in hp
  have hx : ∀ x ∈ l, 0 ≤ x ∧ x < 100 := fun x hx => by have := hb x hx; omega
  have hperm := fairS_perm l h8 hx
  have hlen : (fairS l).length = l.length := by rw [hperm.length_eq, iota_length]
  have hin : ∀ j (hj : j < (fairS l).length), 0 ≤ (fairS l)[j] ∧ (fairS l)[j] < (l.length : Int) := fun j hj => (iota_mem _ _).1 (hperm.mem_iff.1 (List.getElem_mem hj))
  refine ⟨by omega, fun n hn => by rw [rd_nat _ n hn]; exact hin n hn, fun h0 => ?_⟩
  have hcodes : (fairS l).map (code l) = srt ((iota 0 l.length).map (code l)) := by
    unfold fairS
    rw [List.map_map]
    have e : (srt ((iota 0 l.length).map (code l))).map (code l ∘ fun c => c % 8) = (srt ((iota 0 l.length).map (code l))).map id := by
      refine List.map_congr_left fun c hc => ?_
      have hc2 := (srt_perm _).mem_iff.1 hc
      obtain ⟨i, hi, rfl⟩ := List.mem_map.1 hc2
      have := (iota_mem _ i).1 hi
      show code l (code l i % 8) = code l i
      rw [show code l i % 8 = i by unfold code; omega]
    rw [e, List.map_id]
  have hsort : ((fairS l).map (code l)).Pairwise (· ≤ ·) := by rw [hcodes]; exact srt_sorted _
  have hc := List.pairwise_iff_getElem.1 hsort
  -- some car has the favourite 0
  have h1 := parks_conv l hb (parking_all hp) 0 (Int.le_refl _) (by omega)
  have h2 : ∃ x ∈ l, x ≤ 0 := by
    rcases Classical.em (∃ x ∈ l, x ≤ 0) with h | h
    · exact h
    · exfalso
      have : cnt (fun x => decide (x ≤ 0)) l = 0 := by
        unfold cnt
        rw [List.filter_eq_nil_iff.2 (fun x hx => by
          have : ¬ x ≤ 0 := fun hx2 => h ⟨x, hx, hx2⟩
          simpa using this)]
        rfl
      omega
  obtain ⟨x, hx1, hx2⟩ := h2
  obtain ⟨j, hj, rfl⟩ := List.getElem_of_mem hx1
  have hjm : (j : Int) ∈ fairS l := hperm.mem_iff.2 ((iota_mem _ _).2 (by omega))
  obtain ⟨m, hm, he⟩ := List.getElem_of_mem hjm
  have h3 : code l (fairS l)[0] ≤ code l (fairS l)[m] := by
    rcases Nat.eq_zero_or_pos m with rfl | hm0
    · exact Int.le_refl _
    · have := hc 0 m (by rw [List.length_map]; omega) (by rw [List.length_map]; exact hm) hm0
      rw [List.getElem_map, List.getElem_map] at this
      exact this
  rw [he] at h3
  have h4 := hin 0 h0
  have h5 : rd l (fairS l)[0] ∈ l := by
    have e : (((fairS l)[0].toNat : Nat) : Int) = (fairS l)[0] := by omega
    rw [← e, rd_nat l _ (by omega)]
    exact List.getElem_mem _
  have h6 := hb _ h5
  have h7 : rd l (j : Int) = l[j] := rd_nat l j hj
  unfold code at h3
  rw [h7] at h3
  rw [show (0 : Int) = ((0 : Nat) : Int) from rfl, rd_nat _ 0 h0]
  omega
theorem both (l : List Int) : ∃ ws ok, ws.length ≤ 1000000 ∧ (∀ x ∈ ws, x.length ≤ 1000) ∧ Ev (fun k => spec_UnitBlocks.f k l) (ws, ok) ∧ Ev (fun k => impl_UnitBlocks.f k l) (ws, ok) := by
  have h1 := paParking_ev l
  have h2 := isParking_ev l
  unfold spec_UnitBlocks.f impl_UnitBlocks.f
  cases hp : parking l with
  | false =>
    rw [hp] at h1 h2
    refine ⟨[], false, by simp, by simp, Ev.bind h1 (Ev.neg (by decide) (Ev.step (f := fun _ => some ([], false)) (fun k => ?_) (Ev.now _))), Ev.bind h2 (Ev.neg (by decide) (Ev.now _))⟩
    rw [spec_UnitBlocks.j0, if_pos rfl]
  | true =>
    rw [hp] at h1 h2
    have h8 := parking_cars hp
    have hx : ∀ x ∈ l, 0 ≤ x ∧ x < 100 := fun x hx => by have := parking_in hp x hx; omega
    have h3 := vaUnit_ev hp 1
    have h4 := isUnit_ev hp 1 (by omega)
    cases hu : unit l 1 with
    | false =>
      rw [hu] at h3 h4
      refine ⟨[], false, by simp, by simp, Ev.bind h1 (Ev.pos rfl (Ev.bind h3 (Ev.step (f := fun _ => some ([], false)) (fun k => ?_) (Ev.now _)))), Ev.bind h2 (Ev.pos rfl (Ev.bind h4 (Ev.neg (by decide) (Ev.now _))))⟩
      rw [spec_UnitBlocks.j0, if_pos (by decide)]
    | true =>
      rw [hu] at h3 h4
      have hf := fits hp
      have hr := go_rows l (fairS l) (fairS l).length 0 [] (by simp) (by simp)
      have hl8 := hf.len
      refine ⟨go l (fairS l) (fairS l).length 0 [], true, by omega, fun x hx => by have := hr.2 x hx; omega, Ev.bind h1 (Ev.pos rfl (Ev.bind h3 (Ev.step (f := ?f1) (fun k => ?h1) ?g1))), Ev.bind h2 (Ev.pos rfl (Ev.bind h4 (Ev.pos rfl (Ev.bind (a := go l (fairS l) (fairS l).length 0 []) ?_ (Ev.now _)))))⟩
      case h1 => rw [spec_UnitBlocks.j0, if_neg (by decide)]
      · exact Ev.bind (vaFair_ev l h8 hx) (spec_l0 hf (fairS l).length 0 [] (by omega) (by omega) (by simp) (by simp))
      · unfold impl_blocks.f
        exact Ev.bindc (fair_ev l h8 hx) (impl_l0 hf (fairS l).length 0 [] (by omega) (by omega) (by simp) (by simp))
end UnitBlocks
theorem FnExactUnitBlocks (l : List Int) (hs : l.length ≤ 1099511627776) : ∃ ws ok, ws.length ≤ 1000000 ∧ (∀ x ∈ ws, x.length ≤ 1000) ∧ (∃ k, spec_UnitBlocks.f k l = some (ws, ok)) ∧ (∃ k, impl_UnitBlocks.f k l = some (ws, ok)) := by
  obtain ⟨ws, ok, h1, h2, h3, h4⟩ := UnitBlocks.both l
  exact ⟨ws, ok, h1, h2, Ev.rounds h3, Ev.rounds h4⟩
end Go.Proofs.Ytdhfildgjmkgaaa.Pure
