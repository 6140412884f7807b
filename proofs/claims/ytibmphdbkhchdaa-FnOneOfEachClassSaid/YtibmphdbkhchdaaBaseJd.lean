/- Sums; what driving comes to: the places are all places, and enough cars wish small ones. No condition beside what each theorem states. -/
import Derived.Test.YtibmphdbkhchdaaBaseP
import Derived.Test.YtibmphdbkhchdaaBaseK
import Derived.Test.YtibmphdbkhchdaaBaseX
namespace Go.Proofs.Ytibmphdbkhchdaa.Plain
open Go.RowKit Go.Proofs.YtibmphdbkhchdaaW.PrintWords Go.Proofs.YtibmphdbkhchdaaW.PrintLast Go.Proofs.Ytibmphdbkhchdaa.Hand
set_option linter.unusedVariables false
theorem cnt_cons (p : Int → Bool) (x : Int) (l : List Int) : cnt p (x :: l) = (if p x = true then 1 else 0) + cnt p l := by
  unfold cnt
  rw [List.filter_cons]
  split
  · simp; omega
  · simp
/-! ### Sums and counts -/
def sm : List Int → Int
  | [] => 0
  | x :: xs => x + sm xs
theorem sm_perm {l m : List Int} (h : l.Perm m) : sm l = sm m := by
  induction h with
  | nil => rfl
  | cons x _ ih => rw [sm, sm, ih]
  | swap x y l => simp only [sm]; omega
  | trans _ _ h1 h2 => rw [h1, h2]
/-- How many are less than j. -/
def lt (l : List Int) (j : Int) : Int := cnt (fun x => decide (x < j)) l
theorem lt_cons (x : Int) (l : List Int) (j : Int) : lt (x :: l) j = (if x < j then 1 else 0) + lt l j := by
  unfold lt
  rw [cnt_cons]
  by_cases h : x < j
  · rw [if_pos h, if_pos (decide_eq_true h)]
  · rw [if_neg h, if_neg (by simpa using h)]
theorem lt_perm {l m : List Int} (h : l.Perm m) (j : Int) : lt l j = lt m j := by
  unfold lt cnt
  rw [(h.filter _).length_eq]
theorem lt_all (l : List Int) (j : Int) (h : ∀ x ∈ l, x < j) : lt l j = (l.length : Int) := by
  unfold lt cnt
  rw [List.filter_eq_self.2 (fun x hx => decide_eq_true (h x hx))]
theorem lt_none (l : List Int) (h : ∀ x ∈ l, 0 ≤ x) : lt l 0 = 0 := by
  unfold lt cnt
  rw [List.filter_eq_nil_iff.2 (fun x hx => by simpa using h x hx)]
  rfl
theorem lt_filter (l : List Int) (c j : Int) (h : j ≤ c) : lt (l.filter fun x => decide (x < c)) j = lt l j := by
  induction l with
  | nil => rfl
  | cons x xs ih =>
    rw [List.filter_cons]
    by_cases hx : x < c
    · rw [if_pos (decide_eq_true hx), lt_cons, lt_cons, ih]
    · rw [if_neg (by simpa using hx), lt_cons, ih, if_neg (by omega)]
      omega
theorem le_lt (l : List Int) (f : Int) : cnt (fun x => decide (x ≤ f)) l = lt l (f + 1) := by
  unfold lt
  congr 1
  funext x
  exact decide_eq_decide.2 (by omega)
theorem lt_iota (f : Int) (h0 : 0 ≤ f) : ∀ n : Nat, lt (iota 0 n) f = if f ≤ (n : Int) then f else (n : Int) := by
  intro n
  induction n with
  | zero => simp [iota, lt, cnt]; omega
  | succ n ih =>
    rw [iota_succ]
    have e : lt (iota 0 n ++ [0 + (n : Int)]) f = lt (iota 0 n) f + (if (n : Int) < f then 1 else 0) := by
      unfold lt
      rw [cntK_append]
      congr 1
      rw [cnt_cons]
      by_cases h : (n : Int) < f
      · rw [if_pos (decide_eq_true (by omega)), if_pos h]; rfl
      · rw [if_neg (by simp; omega), if_neg h]; rfl
    rw [e, ih]
    split <;> split <;> split <;> omega
/-! ### What driving comes to -/
theorem sdrive_good (p : Int) : ∀ (xs out : List Int), (∀ x ∈ xs, 0 ≤ x) → out.Nodup → (∀ y ∈ out, 0 ≤ y ∧ y < p) → (-1 : Int) ∉ sdrive p out xs → (sdrive p out xs).Nodup ∧ ∀ y ∈ sdrive p out xs, 0 ≤ y ∧ y < p := by
  intro xs
  induction xs with
  | nil => intro out _ h1 h2 _; exact ⟨h1, h2⟩
  | cons x xs ih =>
    intro out hx hn hr hm
    rw [sdrive] at hm ⊢
    have h0 := nf_ge p out (p - x).toNat x
    have hx0 := hx x List.mem_cons_self
    by_cases hy : p ≤ nf p out (p - x).toNat x
    · obtain ⟨t, ht⟩ := sdrive_pre p xs (out ++ [told p (nf p out (p - x).toNat x)])
      refine absurd ?_ hm
      rw [ht]
      unfold told
      rw [if_pos hy]
      simp
    · have ht : told p (nf p out (p - x).toNat x) = nf p out (p - x).toNat x := by unfold told; rw [if_neg hy]
      rw [ht] at hm ⊢
      have hf := nf_free p out (p - x).toNat x rfl (by omega)
      refine ih _ (fun y hy => hx y (List.mem_cons_of_mem _ hy)) ?_ ?_ hm
      · rw [List.nodup_append]
        refine ⟨hn, by simp, fun a ha b hb => ?_⟩
        rw [List.mem_singleton] at hb
        subst hb
        exact fun e => hf (e ▸ ha)
      · intro y hy2
        rcases List.mem_append.1 hy2 with h | h
        · exact hr y h
        · rw [List.mem_singleton] at h
          omega
theorem s_perm {l : List Int} (h : parking l = true) : (sdrive (l.length : Int) [] l).Perm (iota 0 l.length) := by
  have hg := sdrive_good (l.length : Int) l [] (fun x hx => (parking_in h x hx).1) List.nodup_nil (by simp) (parking_all h)
  refine nodup_perm _ _ hg.1 (fun x hx => (iota_mem _ _).2 (hg.2 x hx)) ?_
  rw [iota_length, sdrive_length]
  simp
theorem sdrive_ge' (p : Int) : ∀ (l out : List Int) (i : Nat) (h : i < l.length) (h2 : out.length + i < (sdrive p out l).length), (sdrive p out l)[out.length + i] = -1 ∨ l[i] ≤ (sdrive p out l)[out.length + i] := by
  intro l
  induction l with
  | nil => intro out i h; simp at h
  | cons x xs ih =>
    intro out i h h2
    cases i with
    | zero =>
      have hg := nf_ge p out (p - x).toNat x
      obtain ⟨t, ht⟩ := sdrive_pre p xs (out ++ [told p (nf p out (p - x).toNat x)])
      have e : sdrive p out (x :: xs) = out ++ ([told p (nf p out (p - x).toNat x)] ++ t) := by rw [sdrive, ht, List.append_assoc]
      simp only [e]
      rw [List.getElem_append_right (by omega)]
      simp only [Nat.add_zero, Nat.sub_self, List.singleton_append, List.getElem_cons_zero]
      unfold told
      split
      · exact .inl rfl
      · exact .inr hg
    | succ i =>
      have h3 := ih (out ++ [told p (nf p out (p - x).toNat x)]) i (by simpa using h) (by rw [sdrive] at h2; simp; omega)
      simp only [List.length_append, List.length_singleton] at h3
      have e : out.length + 1 + i = out.length + (i + 1) := by omega
      simp only [e] at h3
      simpa [sdrive] using h3
theorem lt_le : ∀ (s l : List Int) (j : Int), s.length = l.length → (∀ (i : Nat) (h : i < l.length) (h2 : i < s.length), l[i] ≤ s[i]) → lt s j ≤ lt l j
  | [], [], j, _, _ => Int.le_refl _
  | [], _ :: _, _, h, _ => by simp at h
  | _ :: _, [], _, h, _ => by simp at h
  | y :: ys, x :: xs, j, h, hi => by
    rw [lt_cons, lt_cons]
    have h0 := hi 0 (by simp) (by simp)
    have ht := lt_le ys xs j (by simpa using h) (fun i h1 h2 => by have := hi (i + 1) (by simpa using h1) (by simpa using h2); simpa using this)
    simp only [List.getElem_cons_zero] at h0
    split <;> split <;> omega
/-- A parking function has enough small numbers. -/
theorem parking_lt {l : List Int} (h : parking l = true) (j : Int) (h0 : 0 ≤ j) (hj : j ≤ (l.length : Int)) : j ≤ lt l j := by
  have hl : (sdrive (l.length : Int) [] l).length = l.length := by rw [sdrive_length]; simp
  have h1 := lt_le (sdrive (l.length : Int) [] l) l j hl (fun i h2 h3 => by
    have hg := sdrive_ge' (l.length : Int) l [] i h2 (by simpa using h3)
    simp only [List.length_nil, Nat.zero_add] at hg
    rcases hg with hg | hg
    · exact absurd (hg ▸ List.getElem_mem h3) (parking_all h)
    · exact hg)
  rw [lt_perm (s_perm h), lt_iota j h0, if_pos hj] at h1
  exact h1
theorem parking_of {l : List Int} (h8 : l.length ≤ 8) (hb : ∀ x ∈ l, 0 ≤ x ∧ x < (l.length : Int)) (hc : ∀ j : Int, 0 ≤ j → j ≤ (l.length : Int) → j ≤ lt l j) : parking l = true := by
  have h1 := parks_all l hb (fun f h0 h1 => by rw [le_lt]; exact hc (f + 1) (by omega) (by omega))
  unfold parking
  rw [decide_eq_true h8, decide_eq_false h1, Bool.true_and, Bool.not_false, Bool.and_true, List.all_eq_true]
  exact fun x hx => decide_eq_true (by have := hb x hx; omega)
theorem sm_append (l m : List Int) : sm (l ++ m) = sm l + sm m := by
  induction l with
  | nil => simp [sm]
  | cons x xs ih => rw [List.cons_append, sm, sm, ih]; omega
theorem sm_bound (c : Int) : ∀ l : List Int, (∀ x ∈ l, -c ≤ x ∧ x ≤ c) → -(c * (l.length : Int)) ≤ sm l ∧ sm l ≤ c * (l.length : Int)
  | [], _ => by simp [sm]
  | x :: xs, h => by
    have h1 := sm_bound c xs (fun y hy => h y (List.mem_cons_of_mem _ hy))
    have h2 := h x List.mem_cons_self
    rw [sm, List.length_cons, Int.natCast_add, Int.mul_add]
    simp only [Int.natCast_one, Int.mul_one]
    omega
theorem take_next (l : List Int) (n : Nat) (h : n < l.length) : l.take (n + 1) = l.take n ++ [rd l (n : Int)] := by
  rw [List.take_succ_eq_append_getElem h, rd_nat l n h]
theorem acc_in (l : List Int) (h8 : l.length ≤ 100) (hb : ∀ x ∈ l, -1000 ≤ x ∧ x ≤ 1000) (n : Nat) : -100000 ≤ sm (l.take n) ∧ sm (l.take n) ≤ 100000 := by
  have h := sm_bound 1000 (l.take n) (fun x hx => hb x (List.mem_of_mem_take hx))
  have : (l.take n).length ≤ 100 := by rw [List.length_take]; omega
  omega
end Go.Proofs.Ytibmphdbkhchdaa.Plain
