/- Turned lists: some turn of a list makes a slope parking function (the least point of a walk shows which). Plain facts, over the bounds of BaseS. -/
import Derived.Test.YtibmphdbkhchdaaBaseS
import Derived.Test.YtibmphdbkhchdaaBaseK
namespace Go.Proofs.Ytibmphdbkhchdaa.Plain
open Go.RowKit Go.Proofs.YtibmphdbkhchdaaW.PrintWords Go.Proofs.YtibmphdbkhchdaaW.PrintLast Go.Proofs.Ytibmphdbkhchdaa.Hand
set_option linter.unusedVariables false

/-- A list turned by some places. -/
def turned (l : List Int) (a by_ : Int) : List Int := l.map fun x => Int.tmod (x + by_) a
theorem turned_length (l : List Int) (a by_ : Int) : (turned l a by_).length = l.length := by simp [turned]
theorem turn_one {a x b : Int} (hx : 0 ≤ x ∧ x < a) (hb : 0 ≤ b ∧ b < a) : Int.tmod (x + b) a = if x + b < a then x + b else x + b - a := by
  rw [Int.tmod_eq_emod_of_nonneg (by omega)]
  split
  · exact Int.emod_eq_of_lt (by omega) (by omega)
  · rw [← Int.sub_emod_right]
    exact Int.emod_eq_of_lt (by omega) (by omega)
theorem turned_in {l : List Int} {a b : Int} (hl : ∀ x ∈ l, 0 ≤ x ∧ x < a) (hb : 0 ≤ b ∧ b < a) : ∀ y ∈ turned l a b, 0 ≤ y ∧ y < a := by
  intro y hy
  unfold turned at hy
  rw [List.mem_map] at hy
  obtain ⟨x, hx, rfl⟩ := hy
  have := hl x hx
  rw [turn_one this hb]
  split <;> omega
/-- How many numbers are at most v. -/
def nle (l : List Int) (v : Int) : Int := cnt (fun x => decide (x ≤ v)) l
theorem nle_cons (x : Int) (l : List Int) (v : Int) : nle (x :: l) v = (if x ≤ v then 1 else 0) + nle l v := by
  have h := cntK_append (fun y => decide (y ≤ v)) [x] l
  rw [List.singleton_append] at h
  unfold nle
  rw [h]
  congr 1
  by_cases hx : x ≤ v
  · simp [cnt, hx]
  · simp [cnt, hx]
theorem nle_turn (l : List Int) (a t v : Int) (hl : ∀ x ∈ l, 0 ≤ x ∧ x < a) (ht : 0 ≤ t ∧ t < a) (hv : 0 ≤ v ∧ v < a) :
    nle (turned l a (a - 1 - t)) v + nle l t = if v + t + 1 < a then nle l (v + t + 1) else (l.length : Int) + nle l (v + t + 1 - a) := by
  induction l with
  | nil => simp [nle, turned, cnt]
  | cons x xs ih =>
    have hx := hl x List.mem_cons_self
    have ih := ih (fun y hy => hl y (List.mem_cons_of_mem _ hy))
    have e : turned (x :: xs) a (a - 1 - t) = Int.tmod (x + (a - 1 - t)) a :: turned xs a (a - 1 - t) := rfl
    rw [e, nle_cons, nle_cons, turn_one hx (by omega)]
    by_cases hc : v + t + 1 < a
    · rw [if_pos hc] at ih ⊢
      rw [nle_cons]
      split <;> split <;> split <;> split <;> omega
    · rw [if_neg hc] at ih ⊢
      rw [nle_cons, List.length_cons]
      split <;> split <;> split <;> split <;> omega
theorem least_point (F : Int → Int) : ∀ (k : Nat), ∃ t : Int, 0 ≤ t ∧ t ≤ (k : Int) ∧ ∀ u : Int, 0 ≤ u → u ≤ (k : Int) → F t ≤ F u := by
  intro k
  induction k with
  | zero => exact ⟨0, by omega, by omega, fun u h1 h2 => by rw [show u = 0 by omega]; exact Int.le_refl _⟩
  | succ k ih =>
    obtain ⟨t, h1, h2, h3⟩ := ih
    by_cases h : F t ≤ F ((k : Int) + 1)
    · refine ⟨t, h1, by omega, fun u hu1 hu2 => ?_⟩
      by_cases e : u = (k : Int) + 1
      · rw [e]; exact h
      · exact h3 u hu1 (by omega)
    · refine ⟨(k : Int) + 1, by omega, by omega, fun u hu1 hu2 => ?_⟩
      by_cases e : u = (k : Int) + 1
      · rw [e]; exact Int.le_refl _
      · exact Int.le_trans (by omega) (h3 u hu1 (by omega))
theorem nle_all (l : List Int) (v : Int) (h : ∀ x ∈ l, x ≤ v) : nle l v = (l.length : Int) := by
  unfold nle cnt
  rw [List.filter_eq_self.2 (fun x hx => decide_eq_true (h x hx))]
/-- Some turn has enough small numbers everywhere. -/
theorem turn_exists (l : List Int) (a : Int) (ha : 0 < a) (hl : ∀ x ∈ l, 0 ≤ x ∧ x < a) : ∃ b : Int, 0 ≤ b ∧ b < a ∧ ∀ v, 0 ≤ v → v < a → (l.length : Int) * (v + 1) ≤ a * nle (turned l a b) v := by
  obtain ⟨t, h1, h2, h3⟩ := least_point (fun t => a * nle l t - (l.length : Int) * (t + 1)) (a - 1).toNat
  have h4 : ((a - 1).toNat : Int) = a - 1 := by omega
  rw [h4] at h2 h3
  refine ⟨a - 1 - t, by omega, by omega, fun v hv1 hv2 => ?_⟩
  have h5 := nle_turn l a t v hl ⟨h1, by omega⟩ ⟨hv1, hv2⟩
  have hall := nle_all l (a - 1) (fun x hx => by have := hl x hx; omega)
  by_cases hc : v + t + 1 < a
  · rw [if_pos hc] at h5
    have h6 := h3 (v + t + 1) (by omega) (by omega)
    have e1 : nle (turned l a (a - 1 - t)) v = nle l (v + t + 1) - nle l t := by omega
    rw [e1, Int.mul_sub]
    have e2 : (l.length : Int) * (v + t + 1 + 1) = (l.length : Int) * (v + 1) + (l.length : Int) * (t + 1) := by rw [← Int.mul_add]; congr 1; omega
    omega
  · rw [if_neg hc] at h5
    by_cases hz : v + t + 1 - a < 0
    · omega
    · have h6 := h3 (v + t + 1 - a) (by omega) (by omega)
      have e1 : nle (turned l a (a - 1 - t)) v = (l.length : Int) + nle l (v + t + 1 - a) - nle l t := by omega
      rw [e1, Int.mul_sub a, Int.mul_add a]
      have e2 : (l.length : Int) * (v + t + 1 - a + 1) = (l.length : Int) * (v + 1) + (l.length : Int) * (t + 1) - (l.length : Int) * a := by
        rw [← Int.mul_add, ← Int.mul_sub]; congr 1; omega
      have e3 : a * (l.length : Int) = (l.length : Int) * a := Int.mul_comm _ _
      omega
theorem underR_of : ∀ (xs bs : List Int), (∀ (i : Nat) (h1 : i < xs.length) (h2 : i < bs.length), 0 ≤ xs[i] ∧ xs[i] ≤ bs[i]) → underR xs bs = true
  | [], _, _ => by simp [underR]
  | x :: xs, [], _ => by simp [underR]
  | x :: xs, b :: bs, h => by
    rw [underR, Bool.and_eq_true, decide_eq_true_eq]
    refine ⟨h 0 (Nat.zero_lt_succ _) (Nat.zero_lt_succ _), underR_of xs bs fun i h1 h2 => ?_⟩
    exact h (i + 1) (Nat.succ_lt_succ h1) (Nat.succ_lt_succ h2)
theorem nle_perm {l m : List Int} (h : l.Perm m) (v : Int) : nle l v = nle m v := by
  unfold nle cnt
  rw [(h.filter _).length_eq]
theorem under_of {l : List Int} {a : Int} (hs : slope (l.length : Int) a = true) (hl : ∀ x ∈ l, 0 ≤ x ∧ x < a) (h : ∀ v, 0 ≤ v → v < a → (l.length : Int) * (v + 1) ≤ a * nle l v) : under l a = true := by
  have hin := slope_in hs
  unfold under
  refine underR_of _ _ fun i h1 h2 => ?_
  have hx := hl _ ((srt_mem l _).1 (List.getElem_mem h1))
  refine ⟨hx.1, ?_⟩
  have hi : i < l.length := by rw [srt_length] at h1; exact h1
  have hb := bnds_lt hs (bnds (l.length : Int) a)[i] (List.getElem_mem h2)
  have eb : (bnds (l.length : Int) a)[i] = ((i : Int) * a) / (l.length : Int) := by simp [bnds]
  rcases Int.lt_or_le ((bnds (l.length : Int) a)[i]) ((srt l)[i]) with hlt | hle
  · exfalso
    have h3 := h _ hb.1 hb.2
    rw [← nle_perm (srt_perm l)] at h3
    have h4 : nle (srt l) (bnds (l.length : Int) a)[i] ≤ (i : Int) := by
      have e2 := cntK_append (fun x => decide (x ≤ (bnds (l.length : Int) a)[i])) ((srt l).take i) ((srt l).drop i)
      rw [List.take_append_drop] at e2
      have e3 : cnt (fun x => decide (x ≤ (bnds (l.length : Int) a)[i])) ((srt l).drop i) = 0 := by
        unfold cnt
        rw [List.filter_eq_nil_iff.2]
        · rfl
        · intro x hx2
          obtain ⟨j, hj, rfl⟩ := List.mem_iff_getElem.1 hx2
          rw [List.getElem_drop]
          rw [List.length_drop] at hj
          have h5 : (srt l)[i] ≤ (srt l)[i + j] := by
            rcases Nat.eq_zero_or_pos j with e | e
            · subst e
              exact Int.le_refl _
            · exact (List.pairwise_iff_getElem.1 (srt_sorted l)) i (i + j) h1 (by omega) (by omega)
          simp
          omega
      have e4 := cnt_le (fun x => decide (x ≤ (bnds (l.length : Int) a)[i])) ((srt l).take i)
      have e5 : ((srt l).take i).length ≤ i := List.length_take_le _ _
      unfold nle
      omega
    have h6 : a * nle (srt l) (bnds (l.length : Int) a)[i] ≤ a * (i : Int) := Int.mul_le_mul_of_nonneg_left h4 (by omega)
    have h7 : (i : Int) * a < (l.length : Int) * ((bnds (l.length : Int) a)[i] + 1) := by
      rw [eb]
      have := Int.lt_mul_ediv_self_add (x := (i : Int) * a) (k := (l.length : Int)) (by omega)
      rw [Int.mul_add, Int.mul_one]
      exact this
    have e8 : a * (i : Int) = (i : Int) * a := Int.mul_comm _ _
    omega
  · exact hle
end Go.Proofs.Ytibmphdbkhchdaa.Plain
