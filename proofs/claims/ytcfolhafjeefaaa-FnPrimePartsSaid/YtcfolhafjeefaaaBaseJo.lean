/- Parking functions by counts; their parts between neighbouring cuts, and joins of these. No condition beside what each theorem states. -/
import Derived.Test.YtcfolhafjeefaaaBaseC
import Derived.Test.YtcfolhafjeefaaaBaseK
import Derived.Test.YtcfolhafjeefaaaBaseX
import Derived.Test.YtcfolhafjeefaaaPureFnExactPrimeParts
namespace Go.Proofs.Ytcfolhafjeefaaa.Plain
open Go.RowKit Go.Proofs.YtcfolhafjeefaaaW.PrintWords Go.Proofs.YtcfolhafjeefaaaW.PrintLast Go.Proofs.Ytcfolhafjeefaaa.Hand Go.Proofs.Ytcfolhafjeefaaa.Pure Go.Proofs.Ytcfolhafjeefaaa.Pure.PrimeParts
set_option linter.unusedVariables false
/-! ### Sums and counts -/
def sm : List Int → Int
  | [] => 0
  | x :: xs => x + sm xs
theorem sm_perm {l m : List Int} (h : l.Perm m) : sm l = sm m := by
  induction h with
  | nil => rfl
  | cons x _ ih => rw [sm, sm, ih]
  | swap x y l => simp only [sm]; omega
  | trans _ _ h1 h2 => rw [h1, h2]
/-- How many are less than j. -/
def lt (l : List Int) (j : Int) : Int := cnt (fun x => decide (x < j)) l
theorem lt_cons (x : Int) (l : List Int) (j : Int) : lt (x :: l) j = (if x < j then 1 else 0) + lt l j := by
  unfold lt
  rw [cnt_cons]
  by_cases h : x < j
  · rw [if_pos h, if_pos (decide_eq_true h)]
  · rw [if_neg h, if_neg (by simpa using h)]
theorem lt_perm {l m : List Int} (h : l.Perm m) (j : Int) : lt l j = lt m j := by
  unfold lt cnt
  rw [(h.filter _).length_eq]
theorem lt_all (l : List Int) (j : Int) (h : ∀ x ∈ l, x < j) : lt l j = (l.length : Int) := by
  unfold lt cnt
  rw [List.filter_eq_self.2 (fun x hx => decide_eq_true (h x hx))]
theorem lt_none (l : List Int) (h : ∀ x ∈ l, 0 ≤ x) : lt l 0 = 0 := by
  unfold lt cnt
  rw [List.filter_eq_nil_iff.2 (fun x hx => by simpa using h x hx)]
  rfl
theorem lt_filter (l : List Int) (c j : Int) (h : j ≤ c) : lt (l.filter fun x => decide (x < c)) j = lt l j := by
  induction l with
  | nil => rfl
  | cons x xs ih =>
    rw [List.filter_cons]
    by_cases hx : x < c
    · rw [if_pos (decide_eq_true hx), lt_cons, lt_cons, ih]
    · rw [if_neg (by simpa using hx), lt_cons, ih, if_neg (by omega)]
      omega
theorem le_lt (l : List Int) (f : Int) : cnt (fun x => decide (x ≤ f)) l = lt l (f + 1) := by
  unfold lt
  congr 1
  funext x
  exact decide_eq_decide.2 (by omega)
theorem lt_iota (f : Int) (h0 : 0 ≤ f) : ∀ n : Nat, lt (iota 0 n) f = if f ≤ (n : Int) then f else (n : Int) := by
  intro n
  induction n with
  | zero => simp [iota, lt, cnt]; omega
  | succ n ih =>
    rw [iota_succ]
    have e : lt (iota 0 n ++ [0 + (n : Int)]) f = lt (iota 0 n) f + (if (n : Int) < f then 1 else 0) := by
      unfold lt
      rw [cntK_append]
      congr 1
      rw [cnt_cons]
      by_cases h : (n : Int) < f
      · rw [if_pos (decide_eq_true (by omega)), if_pos h]; rfl
      · rw [if_neg (by simp; omega), if_neg h]; rfl
    rw [e, ih]
    split <;> split <;> split <;> omega
/-! ### What driving comes to -/
theorem sdrive_good (p : Int) : ∀ (xs out : List Int), (∀ x ∈ xs, 0 ≤ x) → out.Nodup → (∀ y ∈ out, 0 ≤ y ∧ y < p) → (-1 : Int) ∉ sdrive p out xs → (sdrive p out xs).Nodup ∧ ∀ y ∈ sdrive p out xs, 0 ≤ y ∧ y < p := by
  intro xs
  induction xs with
  | nil => intro out _ h1 h2 _; exact ⟨h1, h2⟩
  | cons x xs ih =>
    intro out hx hn hr hm
    rw [sdrive] at hm ⊢
    have h0 := nf_ge p out (p - x).toNat x
    have hx0 := hx x List.mem_cons_self
    by_cases hy : p ≤ nf p out (p - x).toNat x
    · obtain ⟨t, ht⟩ := sdrive_pre p xs (out ++ [told p (nf p out (p - x).toNat x)])
      refine absurd ?_ hm
      rw [ht]
      unfold told
      rw [if_pos hy]
      simp
    · have ht : told p (nf p out (p - x).toNat x) = nf p out (p - x).toNat x := by unfold told; rw [if_neg hy]
      rw [ht] at hm ⊢
      have hf := nf_free p out (p - x).toNat x rfl (by omega)
      refine ih _ (fun y hy => hx y (List.mem_cons_of_mem _ hy)) ?_ ?_ hm
      · rw [List.nodup_append]
        refine ⟨hn, by simp, fun a ha b hb => ?_⟩
        rw [List.mem_singleton] at hb
        subst hb
        exact fun e => hf (e ▸ ha)
      · intro y hy2
        rcases List.mem_append.1 hy2 with h | h
        · exact hr y h
        · rw [List.mem_singleton] at h
          omega
theorem s_perm {l : List Int} (h : parking l = true) : (sdrive (l.length : Int) [] l).Perm (iota 0 l.length) := by
  have hg := sdrive_good (l.length : Int) l [] (fun x hx => (parking_in h x hx).1) List.nodup_nil (by simp) (parking_all h)
  refine nodup_perm _ _ hg.1 (fun x hx => (iota_mem _ _).2 (hg.2 x hx)) ?_
  rw [iota_length, sdrive_length]
  simp
theorem sdrive_ge' (p : Int) : ∀ (l out : List Int) (i : Nat) (h : i < l.length) (h2 : out.length + i < (sdrive p out l).length), (sdrive p out l)[out.length + i] = -1 ∨ l[i] ≤ (sdrive p out l)[out.length + i] := by
  intro l
  induction l with
  | nil => intro out i h; simp at h
  | cons x xs ih =>
    intro out i h h2
    cases i with
    | zero =>
      have hg := nf_ge p out (p - x).toNat x
      obtain ⟨t, ht⟩ := sdrive_pre p xs (out ++ [told p (nf p out (p - x).toNat x)])
      have e : sdrive p out (x :: xs) = out ++ ([told p (nf p out (p - x).toNat x)] ++ t) := by rw [sdrive, ht, List.append_assoc]
      simp only [e]
      rw [List.getElem_append_right (by omega)]
      simp only [Nat.add_zero, Nat.sub_self, List.singleton_append, List.getElem_cons_zero]
      unfold told
      split
      · exact .inl rfl
      · exact .inr hg
    | succ i =>
      have h3 := ih (out ++ [told p (nf p out (p - x).toNat x)]) i (by simpa using h) (by rw [sdrive] at h2; simp; omega)
      simp only [List.length_append, List.length_singleton] at h3
      have e : out.length + 1 + i = out.length + (i + 1) := by omega
      simp only [e] at h3
      simpa [sdrive] using h3
theorem lt_le : ∀ (s l : List Int) (j : Int), s.length = l.length → (∀ (i : Nat) (h : i < l.length) (h2 : i < s.length), l[i] ≤ s[i]) → lt s j ≤ lt l j
  | [], [], j, _, _ => Int.le_refl _
  | [], _ :: _, _, h, _ => by simp at h
  | _ :: _, [], _, h, _ => by simp at h
  | y :: ys, x :: xs, j, h, hi => by
    rw [lt_cons, lt_cons]
    have h0 := hi 0 (by simp) (by simp)
    have ht := lt_le ys xs j (by simpa using h) (fun i h1 h2 => by have := hi (i + 1) (by simpa using h1) (by simpa using h2); simpa using this)
    simp only [List.getElem_cons_zero] at h0
    split <;> split <;> omega
/-- A parking function has enough small numbers. -/
theorem parking_lt {l : List Int} (h : parking l = true) (j : Int) (h0 : 0 ≤ j) (hj : j ≤ (l.length : Int)) : j ≤ lt l j := by
  have hl : (sdrive (l.length : Int) [] l).length = l.length := by rw [sdrive_length]; simp
  have h1 := lt_le (sdrive (l.length : Int) [] l) l j hl (fun i h2 h3 => by
    have hg := sdrive_ge' (l.length : Int) l [] i h2 (by simpa using h3)
    simp only [List.length_nil, Nat.zero_add] at hg
    rcases hg with hg | hg
    · exact absurd (hg ▸ List.getElem_mem h3) (parking_all h)
    · exact hg)
  rw [lt_perm (s_perm h), lt_iota j h0, if_pos hj] at h1
  exact h1
theorem parking_of {l : List Int} (h8 : l.length ≤ 8) (hb : ∀ x ∈ l, 0 ≤ x ∧ x < (l.length : Int)) (hc : ∀ j : Int, 0 ≤ j → j ≤ (l.length : Int) → j ≤ lt l j) : parking l = true := by
  have h1 := parks_all l hb (fun f h0 h1 => by rw [le_lt]; exact hc (f + 1) (by omega) (by omega))
  unfold parking
  rw [decide_eq_true h8, decide_eq_false h1, Bool.true_and, Bool.not_false, Bool.and_true, List.all_eq_true]
  exact fun x hx => decide_eq_true (by have := hb x hx; omega)
/-! ### Cuts -/
theorem mem_cutsR (l : List Int) (c : Int) : ∀ (d j : Nat) (out : List Int), c ∈ cutsR l d j out ↔ c ∈ out ∨ ((j : Int) ≤ c ∧ c < ((j + d : Nat) : Int) ∧ lt l c = c) := by
  intro d
  induction d with
  | zero => intro j out; rw [cutsR]; exact ⟨.inl, fun h => h.elim id (fun h => by omega)⟩
  | succ d ih =>
    intro j out
    rw [cutsR, ih]
    by_cases h : cnt (fun x => decide (x < (j : Int))) l = (j : Int)
    · rw [if_pos h, List.mem_append, List.mem_singleton]
      constructor
      · rintro ((h1 | h1) | h1)
        · exact .inl h1
        · subst h1; exact .inr ⟨Int.le_refl _, by omega, h⟩
        · exact .inr ⟨by omega, by omega, h1.2.2⟩
      · rintro (h1 | h1)
        · exact .inl (.inl h1)
        · by_cases e : c = (j : Int)
          · exact .inl (.inr e)
          · exact .inr ⟨by omega, by omega, h1.2.2⟩
    · rw [if_neg h]
      constructor
      · rintro (h1 | h1)
        · exact .inl h1
        · exact .inr ⟨by omega, by omega, h1.2.2⟩
      · rintro (h1 | h1)
        · exact .inl h1
        · by_cases e : c = (j : Int)
          · subst e; exact absurd h1.2.2 h
          · exact .inr ⟨by omega, by omega, h1.2.2⟩
theorem mem_cuts (l : List Int) (c : Int) : c ∈ cutsL l ↔ 1 ≤ c ∧ c < (l.length : Int) ∧ lt l c = c := by
  unfold cutsL
  rw [mem_cutsR]
  constructor
  · rintro (h | h)
    · simp at h
    · exact ⟨by omega, by omega, h.2.2⟩
  · exact fun h => .inr ⟨by omega, by omega, h.2.2⟩
theorem cutsR_sorted (l : List Int) : ∀ (d j : Nat) (out : List Int), out.Pairwise (· < ·) → (∀ c ∈ out, c < (j : Int)) → (cutsR l d j out).Pairwise (· < ·) := by
  intro d
  induction d with
  | zero => intro j out h _; exact h
  | succ d ih =>
    intro j out h hl
    rw [cutsR]
    split
    · refine ih _ _ ?_ ?_
      · rw [List.pairwise_append]
        exact ⟨h, List.pairwise_singleton _ _, fun a ha b hb => by rw [List.mem_singleton] at hb; subst hb; exact hl a ha⟩
      · intro c hc
        rcases List.mem_append.1 hc with h1 | h1
        · have := hl c h1; omega
        · rw [List.mem_singleton] at h1; omega
    · exact ih _ _ h (fun c hc => by have := hl c hc; omega)
theorem ends_sorted {l : List Int} (h0 : 0 < l.length) : (ends l).Pairwise (· < ·) := by
  unfold ends
  rw [List.pairwise_cons, List.pairwise_append]
  refine ⟨fun c hc => ?_, cutsR_sorted l _ _ _ List.Pairwise.nil (by simp), List.pairwise_singleton _ _, fun a ha b hb => ?_⟩
  · rcases List.mem_append.1 hc with h | h
    · have := (mem_cuts l c).1 h; omega
    · rw [List.mem_singleton] at h; omega
  · rw [List.mem_singleton] at hb
    subst hb
    exact ((mem_cuts l a).1 ha).2.1
theorem ends_cut {l : List Int} (hp : parking l = true) : ∀ c ∈ ends l, lt l c = c := by
  intro c hc
  unfold ends at hc
  rcases List.mem_cons.1 hc with h | h
  · subst h; exact lt_none l (fun x hx => (parking_in hp x hx).1)
  rcases List.mem_append.1 h with h | h
  · exact ((mem_cuts l c).1 h).2.2
  · rw [List.mem_singleton] at h
    subst h
    exact lt_all l _ (fun x hx => (parking_in hp x hx).2)
/-! ### Parts -/
theorem lt_part (l : List Int) (a b j : Int) (h0 : 0 ≤ j) (h : a + j ≤ b) : lt (PrimeParts.part l a b) j + lt l a = lt l (a + j) := by
  induction l with
  | nil => rfl
  | cons x xs ih =>
    by_cases hx : a ≤ x ∧ x < b
    · rw [part_in x xs a b hx, lt_cons, lt_cons, lt_cons]
      split <;> split <;> split <;> omega
    · rw [part_out x xs a b hx, lt_cons, lt_cons]
      split <;> split <;> omega
theorem part_mem (l : List Int) (a b : Int) : ∀ x ∈ PrimeParts.part l a b, 0 ≤ x ∧ x < b - a := by
  intro x hx
  unfold PrimeParts.part at hx
  obtain ⟨y, hy, rfl⟩ := List.mem_map.1 hx
  have := of_decide_eq_true (List.mem_filter.1 hy).2
  omega
theorem part_len {l : List Int} {a b : Int} (hab : a ≤ b) (ha : lt l a = a) (hb : lt l b = b) : ((PrimeParts.part l a b).length : Int) = b - a := by
  have h := lt_part l a b (b - a) (by omega) (by omega)
  rw [lt_all _ _ (fun x hx => (part_mem l a b x hx).2), show a + (b - a) = b by omega] at h
  omega
theorem part_parking {l : List Int} (hp : parking l = true) {a b : Int} (h0 : 0 ≤ a) (hab : a ≤ b) (hbn : b ≤ (l.length : Int)) (ha : lt l a = a) (hb : lt l b = b) : parking (PrimeParts.part l a b) = true := by
  have hl := part_len hab ha hb
  have h8 := parking_cars hp
  refine parking_of (by omega) (fun x hx => by have := part_mem l a b x hx; omega) (fun j hj0 hj => ?_)
  have h := lt_part l a b j hj0 (by omega)
  have := parking_lt hp (a + j) (by omega) (by omega)
  omega
theorem part_prime {l : List Int} {a b : Int} (hab : a ≤ b) (ha : lt l a = a) (hb : lt l b = b) (hn : ∀ c, a < c → c < b → lt l c ≠ c) : cutsL (PrimeParts.part l a b) = [] := by
  have hl := part_len hab ha hb
  refine List.eq_nil_iff_forall_not_mem.2 (fun c hc => ?_)
  have hc2 := (mem_cuts _ c).1 hc
  have h := lt_part l a b c (by omega) (by omega)
  exact hn (a + c) (by omega) (by omega) (by omega)
/-! ### Joins -/
def joins (l es : List Int) (k : Nat) : List Int := ((List.range k).map fun i : Nat => l.filter fun x => decide (rd es (i : Int) ≤ x ∧ x < rd es ((i + 1 : Nat) : Int))).flatten
theorem joins_succ (l es : List Int) (k : Nat) : joins l es (k + 1) = joins l es k ++ l.filter fun x => decide (rd es (k : Int) ≤ x ∧ x < rd es ((k + 1 : Nat) : Int)) := by
  unfold joins
  rw [List.range_succ, List.map_append, List.flatten_append]
  simp
theorem part_back (l : List Int) (a b : Int) : (PrimeParts.part l a b).map (fun x => x + a) = l.filter fun x => decide (a ≤ x ∧ x < b) := by
  unfold PrimeParts.part
  rw [List.map_map]
  conv => rhs; rw [← List.map_id (l.filter fun x => decide (a ≤ x ∧ x < b))]
  exact List.map_congr_left (fun x _ => by simp only [Function.comp, id]; omega)
theorem filter_two (l : List Int) (a b : Int) (hab : a ≤ b) : (l.filter (fun x => decide (x < a)) ++ l.filter fun x => decide (a ≤ x ∧ x < b)).Perm (l.filter fun x => decide (x < b)) := by
  have h := List.filter_append_perm (fun x => decide (x < a)) (l.filter fun x => decide (x < b))
  rw [List.filter_filter, List.filter_filter] at h
  have e1 : (l.filter fun x => decide (x < a) && decide (x < b)) = l.filter fun x => decide (x < a) := List.filter_congr (fun x _ => by rw [← Bool.decide_and]; exact decide_eq_decide.2 (by omega))
  have e2 : (l.filter fun x => (!decide (x < a)) && decide (x < b)) = l.filter fun x => decide (a ≤ x ∧ x < b) := List.filter_congr (fun x _ => by rw [← decide_not, ← Bool.decide_and]; exact decide_eq_decide.2 (by omega))
  rw [e1, e2] at h
  exact h
theorem joins_perm {l es : List Int} (hp : ∀ x ∈ l, 0 ≤ x) (h0 : rd es 0 = 0) (n : Nat) (hs : ∀ i : Nat, i < n → rd es (i : Int) ≤ rd es ((i + 1 : Nat) : Int)) : ∀ k : Nat, k ≤ n → (joins l es k).Perm (l.filter fun x => decide (x < rd es (k : Int))) := by
  intro k
  induction k with
  | zero =>
    intro _
    have e : (l.filter fun x => decide (x < rd es ((0 : Nat) : Int))) = [] := List.filter_eq_nil_iff.2 (fun x hx => by have := hp x hx; have h1 : rd es ((0 : Nat) : Int) = 0 := h0; rw [h1]; simpa using this)
    rw [e]
    exact List.Perm.refl _
  | succ k ih =>
    intro hk
    rw [joins_succ]
    exact ((ih (by omega)).append_right _).trans (filter_two l _ _ (hs k (by omega)))
theorem filter_parking {l : List Int} (hp : parking l = true) {c : Int} (h0 : 0 ≤ c) (hc : c ≤ (l.length : Int)) (hl : lt l c = c) {m : List Int} (hm : m.Perm (l.filter fun x => decide (x < c))) : parking m = true ∧ (m.length : Int) = c := by
  have hlen : (m.length : Int) = c := by
    rw [hm.length_eq]
    exact hl
  have h8 := parking_cars hp
  refine ⟨parking_of (by omega) (fun x hx => ?_) (fun j hj0 hj => ?_), hlen⟩
  · have h1 := List.mem_filter.1 (hm.mem_iff.1 hx)
    have h2 := of_decide_eq_true h1.2
    have := parking_in hp x h1.1
    omega
  · rw [lt_perm hm, lt_filter l c j (by omega)]
    exact parking_lt hp j hj0 (by omega)
end Go.Proofs.Ytcfolhafjeefaaa.Plain
