/- Cars that all park on a street, in any order: which places are taken, how many cars find each place taken, and how far the farthest drives. Plain facts; no condition beside what each theorem states. -/
import Derived.Test.YtflgalpfbjhdlaaGreatBaseK
import Derived.Test.YtflgalpfbjhdlaaGreatBaseX
import Derived.Test.YtflgalpfbjhdlaaGreatHandI
namespace Go.Proofs.YtflgalpfbjhdlaaGreat.Plain
open Go.RowKit Go.Proofs.YtflgalpfbjhdlaaGreatW.PrintWords Go.Proofs.YtflgalpfbjhdlaaGreatW.PrintLast Go.Proofs.YtflgalpfbjhdlaaGreat.Hand
set_option linter.unusedVariables false
/-! ### What a car meets -/
/-- Its place is no less than its favourite x, new, and all places between are those of elder cars. -/
def Meets (p : Int) (s : List Int) (n : Nat) (x : Int) : Prop := x ≤ rd s (n : Int) ∧ rd s (n : Int) < p ∧ rd s (n : Int) ∉ s.take n ∧ ∀ z, x ≤ z → z < rd s (n : Int) → z ∈ s.take n
theorem drive_met (p : Int) : ∀ (l out : List Int), (-1 : Int) ∉ sdrive p out l → ∀ (i : Nat) (hi : i < l.length), Meets p (sdrive p out l) (out.length + i) l[i] := by
  intro l
  induction l with
  | nil => intro out h i hi; simp at hi
  | cons x xs ih =>
    intro out h i hi
    rw [sdrive] at h ⊢
    have hge := nf_ge p out (p - x).toNat x
    have hfr := nf_free p out (p - x).toNat x rfl
    have htk := nf_taken p out (p - x).toNat x
    have hy : ¬ p ≤ nf p out (p - x).toNat x := by
      intro hy
      obtain ⟨t, ht⟩ := sdrive_pre p xs (out ++ [told p (nf p out (p - x).toNat x)])
      apply h
      rw [ht]
      unfold told
      rw [if_pos hy]
      simp
    have ht : told p (nf p out (p - x).toNat x) = nf p out (p - x).toNat x := by unfold told; rw [if_neg hy]
    rw [ht] at h ⊢
    generalize nf p out (p - x).toNat x = y at hge hfr htk hy h ⊢
    cases i with
    | zero =>
      obtain ⟨t, ht2⟩ := sdrive_pre p xs (out ++ [y])
      rw [ht2]
      have e1 : rd (out ++ [y] ++ t) ((out.length + 0 : Nat) : Int) = y := by
        rw [rd_nat _ _ (by simp), List.getElem_append_left (by simp), List.getElem_append_right (by simp)]
        simp
      have e2 : (out ++ [y] ++ t).take (out.length + 0) = out := by
        rw [Nat.add_zero, List.append_assoc, List.take_left]
      unfold Meets
      rw [e1, e2]
      exact ⟨hge, by omega, hfr (by omega), htk⟩
    | succ i =>
      have h2 := ih (out ++ [y]) h i (by simpa using hi)
      rw [List.length_append, List.length_singleton, Nat.add_assoc, Nat.add_comm 1 i] at h2
      exact h2
theorem met0 {p : Int} {l : List Int} (h : (-1 : Int) ∉ sdrive p [] l) (i : Nat) (hi : i < l.length) : Meets p (sdrive p [] l) i l[i] := by
  have := drive_met p l [] h i hi
  rwa [List.length_nil, Nat.zero_add] at this
theorem s_len (p : Int) (l : List Int) : (sdrive p [] l).length = l.length := by rw [sdrive_length]; simp
theorem s_nodup {p : Int} {l : List Int} (h : (-1 : Int) ∉ sdrive p [] l) : (sdrive p [] l).Nodup := (street_keeps p l [] h (by simp)).1
theorem take_at (s : List Int) (i j : Nat) (hi : i < j) (hs : i < s.length) : rd s (i : Int) ∈ s.take j := by
  rw [rd_nat s i hs, List.mem_iff_getElem]
  exact ⟨i, by rw [List.length_take]; omega, by rw [List.getElem_take]⟩
/-! ### How many are no greater -/
/-- How many numbers are no greater than z. -/
def upc (z : Int) : List Int → Int
  | [] => 0
  | x :: xs => (if x ≤ z then 1 else 0) + upc z xs
theorem upc_in (z : Int) : ∀ l : List Int, 0 ≤ upc z l ∧ upc z l ≤ (l.length : Int)
  | [] => by simp [upc]
  | x :: xs => by
    have := upc_in z xs
    rw [upc, List.length_cons]
    split <;> omega
theorem upc_perm (z : Int) {l m : List Int} (h : l.Perm m) : upc z l = upc z m := by
  induction h with
  | nil => rfl
  | cons x _ ih => rw [upc, upc, ih]
  | swap x y l => simp only [upc]; omega
  | trans _ _ h1 h2 => rw [h1, h2]
theorem upc_pair : ∀ (xs ys : List Int) (z u : Int), xs.length = ys.length → (∀ (i : Nat) (h1 : i < xs.length) (h2 : i < ys.length), xs[i] ≤ z → ys[i] ≤ u) → upc z xs ≤ upc u ys
  | [], [], _, _, _, _ => by simp [upc]
  | [], _ :: _, _, _, h, _ => by simp at h
  | _ :: _, [], _, _, h, _ => by simp at h
  | x :: xs, y :: ys, z, u, hl, h => by
    have h1 := upc_pair xs ys z u (by simpa using hl) (fun i h1 h2 h3 => h (i + 1) (by simpa using h1) (by simpa using h2) h3)
    have h2 := h 0 (by simp) (by simp)
    simp only [List.getElem_cons_zero] at h2
    rw [upc, upc]
    split
    · rename_i h3
      rw [if_pos (h2 h3)]
      omega
    · split <;> omega
theorem upc_step : ∀ (s : List Int), s.Nodup → ∀ z : Int, upc z s = upc (z - 1) s + (if z ∈ s then 1 else 0)
  | [], _, z => by simp [upc]
  | x :: xs, hn, z => by
    rw [List.nodup_cons] at hn
    have ih := upc_step xs hn.2 z
    rw [upc, upc, ih]
    by_cases e : x = z
    · subst e
      rw [if_pos (Int.le_refl _), if_neg (show ¬ x ≤ x - 1 by omega), if_neg hn.1, if_pos List.mem_cons_self]
      omega
    · have e2 : (z ∈ x :: xs) ↔ z ∈ xs := by
        rw [List.mem_cons]
        exact ⟨fun h => h.resolve_left (fun h => e h.symm), .inr⟩
      by_cases h1 : x ≤ z
      · rw [if_pos h1, if_pos (show x ≤ z - 1 by omega)]
        by_cases h2 : z ∈ xs
        · rw [if_pos h2, if_pos (e2.2 h2)]; omega
        · rw [if_neg h2, if_neg (fun h => h2 (e2.1 h))]; omega
      · rw [if_neg h1, if_neg (show ¬ x ≤ z - 1 by omega)]
        by_cases h2 : z ∈ xs
        · rw [if_pos h2, if_pos (e2.2 h2)]; omega
        · rw [if_neg h2, if_neg (fun h => h2 (e2.1 h))]; omega
theorem upc_few : ∀ (s : List Int) (j : Nat) (z : Int), (∀ (i : Nat) (h : i < s.length), j ≤ i → z < s[i]) → upc z s ≤ (j : Int)
  | [], j, z, _ => by simp [upc]
  | x :: xs, 0, z, h => by
    have h1 := h 0 (by simp) (Nat.le_refl _)
    have h2 := upc_few xs 0 z (fun i hi _ => h (i + 1) (by simpa using hi) (by omega))
    simp only [List.getElem_cons_zero] at h1
    rw [upc, if_neg (by omega)]
    omega
  | x :: xs, j + 1, z, h => by
    have h2 := upc_few xs j z (fun i hi hj => h (i + 1) (by simpa using hi) (by omega))
    rw [upc]
    split <;> omega
theorem upc_many : ∀ (s : List Int) (j : Nat) (z : Int), j < s.length → (∀ (i : Nat) (h : i < s.length), i ≤ j → s[i] ≤ z) → (j : Int) + 1 ≤ upc z s
  | [], j, z, hj, _ => by simp at hj
  | x :: xs, 0, z, hj, h => by
    have h1 := h 0 (by simp) (Nat.le_refl _)
    have h2 := upc_in z xs
    simp only [List.getElem_cons_zero] at h1
    rw [upc, if_pos h1]
    omega
  | x :: xs, j + 1, z, hj, h => by
    have h1 := h 0 (by simp) (by omega)
    have h2 := upc_many xs j z (by simpa using hj) (fun i hi hij => h (i + 1) (by simpa using hi) (by omega))
    simp only [List.getElem_cons_zero] at h1
    rw [upc, if_pos h1]
    omega
theorem lvl_step {p : Int} {l : List Int} (h : (-1 : Int) ∉ sdrive p [] l) (z : Int) : upc z (sdrive p [] l) = upc (z - 1) (sdrive p [] l) + (if upc (z - 1) (sdrive p [] l) < upc z l then 1 else 0) := by
  have hl := s_len p l
  have e := upc_step _ (s_nodup h) z
  by_cases hz : z ∈ sdrive p [] l
  · rw [if_pos hz] at e
    have h1 := upc_pair (sdrive p [] l) l z z hl (fun i h1 h2 h3 => by
      have hm := (met0 h i h2).1
      rw [rd_nat _ i h1] at hm
      omega)
    rw [if_pos (by omega)]
    exact e
  · rw [if_neg hz] at e
    have h1 := upc_pair l (sdrive p [] l) z (z - 1) hl.symm (fun i h1 h2 h3 => by
      have hm := met0 h i h1
      have hin : (sdrive p [] l)[i] ∈ sdrive p [] l := List.getElem_mem h2
      unfold Meets at hm
      rw [rd_nat _ i h2] at hm
      by_cases h4 : (sdrive p [] l)[i] ≤ z - 1
      · exact h4
      · exfalso
        by_cases h5 : (sdrive p [] l)[i] = z
        · exact hz (h5 ▸ hin)
        · exact hz (List.mem_of_mem_take (hm.2.2.2 z h3 (by omega))))
    rw [if_neg (by omega)]
    exact e
theorem lvl_perm {p : Int} {l m : List Int} (hp : l.Perm m) (h1 : (-1 : Int) ∉ sdrive p [] l) (h2 : (-1 : Int) ∉ sdrive p [] m) (h0 : ∀ x ∈ l, 0 ≤ x) : ∀ n : Nat, upc ((n : Int) - 1) (sdrive p [] l) = upc ((n : Int) - 1) (sdrive p [] m) := by
  have base : ∀ l : List Int, (-1 : Int) ∉ sdrive p [] l → (∀ x ∈ l, 0 ≤ x) → upc (-1) (sdrive p [] l) = 0 := by
    intro l h h0
    have a := upc_few (sdrive p [] l) 0 (-1) (fun i hi _ => by
      have hi2 : i < l.length := by rw [s_len] at hi; exact hi
      have hm := (met0 h i hi2).1
      rw [rd_nat _ i hi] at hm
      have := h0 l[i] (List.getElem_mem hi2)
      omega)
    have b := upc_in (-1) (sdrive p [] l)
    omega
  intro n
  induction n with
  | zero =>
    rw [show ((0 : Nat) : Int) - 1 = -1 by omega, base l h1 h0, base m h2 (fun x hx => h0 x (hp.mem_iff.2 hx))]
  | succ n ih =>
    rw [show ((n + 1 : Nat) : Int) - 1 = (n : Int) by omega, lvl_step h1, lvl_step h2, ih, upc_perm _ hp]
theorem lvl_perm' {p : Int} {l m : List Int} (hp : l.Perm m) (h1 : (-1 : Int) ∉ sdrive p [] l) (h2 : (-1 : Int) ∉ sdrive p [] m) (h0 : ∀ x ∈ l, 0 ≤ x) (z : Int) (hz : -1 ≤ z) : upc z (sdrive p [] l) = upc z (sdrive p [] m) := by
  have := lvl_perm hp h1 h2 h0 (z + 1).toNat
  rwa [show (((z + 1).toNat : Nat) : Int) - 1 = z by omega] at this
/-! ### The order by favourites is the best -/
theorem sorted_rise {p : Int} {m : List Int} (h : (-1 : Int) ∉ sdrive p [] m) (hs : m.Pairwise (· ≤ ·)) (i j : Nat) (hij : i < j) (hj : j < m.length) : rd (sdrive p [] m) (i : Int) < rd (sdrive p [] m) (j : Int) := by
  have hl := s_len p m
  have hi := met0 h i (by omega)
  have hjm := met0 h j hj
  have hle : m[i] ≤ m[j] := List.pairwise_iff_getElem.1 hs i j (by omega) hj hij
  unfold Meets at hi hjm
  rcases Int.lt_trichotomy (rd (sdrive p [] m) (i : Int)) (rd (sdrive p [] m) (j : Int)) with h1 | h1 | h1
  · exact h1
  · exact absurd (h1 ▸ take_at _ i j hij (by omega)) hjm.2.2.1
  · have h2 := hi.2.2.2 _ (by omega) h1
    refine absurd ?_ hjm.2.2.1
    obtain ⟨k, hk, e⟩ := List.mem_iff_getElem.1 h2
    rw [List.getElem_take] at e
    rw [List.length_take] at hk
    rw [← e, ← rd_nat _ k (by omega)]
    exact take_at _ k j (by omega) (by omega)
theorem least_best {p : Int} {l m : List Int} (hp : l.Perm m) (hs : m.Pairwise (· ≤ ·)) (h1 : (-1 : Int) ∉ sdrive p [] l) (h2 : (-1 : Int) ∉ sdrive p [] m) (h0 : ∀ x ∈ l, 0 ≤ x) (j : Nat) (hj : j < m.length) :
    ∃ i : Nat, i < l.length ∧ rd (sdrive p [] m) (j : Int) - rd m (j : Int) ≤ rd (sdrive p [] l) (i : Int) - rd l (i : Int) := by
  refine Classical.byContradiction fun hc => ?_
  have hlt : ∀ i : Nat, i < l.length → rd (sdrive p [] l) (i : Int) - rd l (i : Int) < rd (sdrive p [] m) (j : Int) - rd m (j : Int) := fun i hi => by
    have : ¬ rd (sdrive p [] m) (j : Int) - rd m (j : Int) ≤ rd (sdrive p [] l) (i : Int) - rd l (i : Int) := fun h => hc ⟨i, hi, h⟩
    omega
  have hll := s_len p l
  have hlm := s_len p m
  have a := upc_pair l (sdrive p [] l) (rd m (j : Int)) (rd (sdrive p [] m) (j : Int) - 1) hll.symm (fun i h1 h2 h3 => by
    have := hlt i h1
    rw [rd_nat l i h1, rd_nat _ i h2] at this
    omega)
  have hmj := (met0 h2 j hj).1
  have h0j := h0 m[j] (hp.mem_iff.2 (List.getElem_mem hj))
  rw [lvl_perm' hp h1 h2 h0 _ (by omega)] at a
  have b := upc_few (sdrive p [] m) j (rd (sdrive p [] m) (j : Int) - 1) (fun i hi hij => by
    rcases Nat.lt_or_ge j i with h | h
    · have := sorted_rise h2 hs j i h (by omega)
      rw [rd_nat _ i hi] at this
      omega
    · obtain rfl : i = j := by omega
      rw [rd_nat _ i hi]
      omega)
  have c := upc_many m j (rd m (j : Int)) hj (fun i hi hij => by
    rw [rd_nat m j hj]
    rcases Nat.lt_or_ge i j with h | h
    · exact List.pairwise_iff_getElem.1 hs i j hi hj h
    · obtain rfl : i = j := by omega
      exact Int.le_refl _)
  rw [upc_perm _ hp] at a
  omega
/-! ### A list of places where something is so -/
theorem idxT_in (p : Int → Bool) (l : List Int) : ∀ n, ∀ x ∈ idxT p l n, 0 ≤ x ∧ x < (n : Int) ∧ p (rd l x) = true
  | 0, x, h => by simp [idxT] at h
  | n + 1, x, h => by
    rw [idxT] at h
    split at h
    · rename_i hp
      rw [List.mem_append, List.mem_singleton] at h
      rcases h with h | rfl
      · have := idxT_in p l n x h
        exact ⟨this.1, by omega, this.2.2⟩
      · exact ⟨by omega, by omega, hp⟩
    · have := idxT_in p l n x h
      exact ⟨this.1, by omega, this.2.2⟩
theorem idxT_rise (p : Int → Bool) (l : List Int) : ∀ n, (idxT p l n).Pairwise (· < ·)
  | 0 => List.Pairwise.nil
  | n + 1 => by
    rw [idxT]
    split
    · rw [List.pairwise_append]
      refine ⟨idxT_rise p l n, by simp, fun a ha b hb => ?_⟩
      rw [List.mem_singleton] at hb
      have := idxT_in p l n a ha
      omega
    · exact idxT_rise p l n
/-- Cars that get their favourites have different ones. -/
theorem lucky_few {s l I r : List Int} (hn : s.Nodup) (hl : s.length = l.length) (hI : I.Pairwise (· < ·)) (hin : ∀ x ∈ I, 0 ≤ x ∧ x < (l.length : Int) ∧ rd s x = rd l x) (hr : ∀ y ∈ l, y ∈ r) : I.length ≤ r.length := by
  have hmem : ∀ y ∈ I.map (rd l), y ∈ r := by
    intro y hy
    obtain ⟨x, hx, rfl⟩ := List.mem_map.1 hy
    have h1 := hin x hx
    obtain ⟨n, rfl⟩ := Int.eq_ofNat_of_zero_le h1.1
    exact hr _ (by rw [rd_nat l n (by omega)]; exact List.getElem_mem _)
  have hnd : (I.map (rd l)).Nodup := by
    rw [List.Nodup, List.pairwise_map]
    refine List.Pairwise.imp_of_mem ?_ hI
    intro a b ha hb hab e
    have h1 := hin a ha
    have h2 := hin b hb
    obtain ⟨n, rfl⟩ := Int.eq_ofNat_of_zero_le h1.1
    obtain ⟨m, rfl⟩ := Int.eq_ofNat_of_zero_le h2.1
    rw [← h1.2.2, ← h2.2.2, rd_nat s n (by omega), rd_nat s m (by omega)] at e
    exact List.pairwise_iff_getElem.1 hn n m (by omega) (by omega) (by omega) e
  have := nodup_len _ r hnd hmem
  rwa [List.length_map] at this
/-! ### Numbers added in a row -/
theorem rd_set (x : List Int) (n z : Nat) (v : Int) (hn : n < x.length) (hz : z < x.length) : rd (x.set n v) (z : Int) = if n = z then v else rd x (z : Int) := by
  rw [rd_nat _ z (by rw [List.length_set]; exact hz), List.getElem_set, rd_nat x z hz]
end Go.Proofs.YtflgalpfbjhdlaaGreat.Plain
