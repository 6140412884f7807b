/- Cars that all park on a street, in any order: which places are taken, how many cars find each place taken, and how far the farthest drives. Plain facts; no condition beside what each theorem states. -/
import Derived.Test.YtleemfmhilhklaaGreatBaseK
import Derived.Test.YtleemfmhilhklaaGreatBaseX
namespace Go.Proofs.YtleemfmhilhklaaGreat.Plain
open Go.RowKit Go.Proofs.YtleemfmhilhklaaGreatW.PrintWords Go.Proofs.YtleemfmhilhklaaGreatW.PrintLast Go.Proofs.YtleemfmhilhklaaGreat.Hand
set_option linter.unusedVariables false
/-! ### What a car meets -/
/-- Its place is no less than its favourite x, new, and all places between are those of elder cars. -/
def Meets (p : Int) (s : List Int) (n : Nat) (x : Int) : Prop := x ≤ rd s (n : Int) ∧ rd s (n : Int) < p ∧ rd s (n : Int) ∉ s.take n ∧ ∀ z, x ≤ z → z < rd s (n : Int) → z ∈ s.take n
theorem drive_met (p : Int) : ∀ (l out : List Int), (-1 : Int) ∉ sdrive p out l → ∀ (i : Nat) (hi : i < l.length), Meets p (sdrive p out l) (out.length + i) l[i] := by
  intro l
  induction l with
  | nil => intro out h i hi; simp at hi
  | cons x xs ih =>
    intro out h i hi
    rw [sdrive] at h ⊢
    have hge := nf_ge p out (p - x).toNat x
    have hfr := nf_free p out (p - x).toNat x rfl
    have htk := nf_taken p out (p - x).toNat x
    have hy : ¬ p ≤ nf p out (p - x).toNat x := by
      intro hy
      obtain ⟨t, ht⟩ := sdrive_pre p xs (out ++ [told p (nf p out (p - x).toNat x)])
      apply h
      rw [ht]
      unfold told
      rw [if_pos hy]
      simp
    have ht : told p (nf p out (p - x).toNat x) = nf p out (p - x).toNat x := by unfold told; rw [if_neg hy]
    rw [ht] at h ⊢
    generalize nf p out (p - x).toNat x = y at hge hfr htk hy h ⊢
    cases i with
    | zero =>
      obtain ⟨t, ht2⟩ := sdrive_pre p xs (out ++ [y])
      rw [ht2]
      have e1 : rd (out ++ [y] ++ t) ((out.length + 0 : Nat) : Int) = y := by
        rw [rd_nat _ _ (by simp), List.getElem_append_left (by simp), List.getElem_append_right (by simp)]
        simp
      have e2 : (out ++ [y] ++ t).take (out.length + 0) = out := by
        rw [Nat.add_zero, List.append_assoc, List.take_left]
      unfold Meets
      rw [e1, e2]
      exact ⟨hge, by omega, hfr (by omega), htk⟩
    | succ i =>
      have h2 := ih (out ++ [y]) h i (by simpa using hi)
      rw [List.length_append, List.length_singleton, Nat.add_assoc, Nat.add_comm 1 i] at h2
      exact h2
theorem met0 {p : Int} {l : List Int} (h : (-1 : Int) ∉ sdrive p [] l) (i : Nat) (hi : i < l.length) : Meets p (sdrive p [] l) i l[i] := by
  have := drive_met p l [] h i hi
  rwa [List.length_nil, Nat.zero_add] at this
theorem s_len (p : Int) (l : List Int) : (sdrive p [] l).length = l.length := by rw [sdrive_length]; simp
theorem s_nodup {p : Int} {l : List Int} (h : (-1 : Int) ∉ sdrive p [] l) : (sdrive p [] l).Nodup := (street_keeps p l [] h (by simp)).1
/-! ### How many are no greater -/
/-- How many numbers are no greater than z. -/
def upc (z : Int) : List Int → Int
  | [] => 0
  | x :: xs => (if x ≤ z then 1 else 0) + upc z xs
theorem upc_in (z : Int) : ∀ l : List Int, 0 ≤ upc z l ∧ upc z l ≤ (l.length : Int)
  | [] => by simp [upc]
  | x :: xs => by
    have := upc_in z xs
    rw [upc, List.length_cons]
    split <;> omega
theorem upc_perm (z : Int) {l m : List Int} (h : l.Perm m) : upc z l = upc z m := by
  induction h with
  | nil => rfl
  | cons x _ ih => rw [upc, upc, ih]
  | swap x y l => simp only [upc]; omega
  | trans _ _ h1 h2 => rw [h1, h2]
theorem upc_pair : ∀ (xs ys : List Int) (z u : Int), xs.length = ys.length → (∀ (i : Nat) (h1 : i < xs.length) (h2 : i < ys.length), xs[i] ≤ z → ys[i] ≤ u) → upc z xs ≤ upc u ys
  | [], [], _, _, _, _ => by simp [upc]
  | [], _ :: _, _, _, h, _ => by simp at h
  | _ :: _, [], _, _, h, _ => by simp at h
  | x :: xs, y :: ys, z, u, hl, h => by
    have h1 := upc_pair xs ys z u (by simpa using hl) (fun i h1 h2 h3 => h (i + 1) (by simpa using h1) (by simpa using h2) h3)
    have h2 := h 0 (by simp) (by simp)
    simp only [List.getElem_cons_zero] at h2
    rw [upc, upc]
    split
    · rename_i h3
      rw [if_pos (h2 h3)]
      omega
    · split <;> omega
theorem upc_few : ∀ (s : List Int) (j : Nat) (z : Int), (∀ (i : Nat) (h : i < s.length), j ≤ i → z < s[i]) → upc z s ≤ (j : Int)
  | [], j, z, _ => by simp [upc]
  | x :: xs, 0, z, h => by
    have h1 := h 0 (by simp) (Nat.le_refl _)
    have h2 := upc_few xs 0 z (fun i hi _ => h (i + 1) (by simpa using hi) (by omega))
    simp only [List.getElem_cons_zero] at h1
    rw [upc, if_neg (by omega)]
    omega
  | x :: xs, j + 1, z, h => by
    have h2 := upc_few xs j z (fun i hi hj => h (i + 1) (by simpa using hi) (by omega))
    rw [upc]
    split <;> omega
theorem upc_many : ∀ (s : List Int) (j : Nat) (z : Int), j < s.length → (∀ (i : Nat) (h : i < s.length), i ≤ j → s[i] ≤ z) → (j : Int) + 1 ≤ upc z s
  | [], j, z, hj, _ => by simp at hj
  | x :: xs, 0, z, hj, h => by
    have h1 := h 0 (by simp) (Nat.le_refl _)
    have h2 := upc_in z xs
    simp only [List.getElem_cons_zero] at h1
    rw [upc, if_pos h1]
    omega
  | x :: xs, j + 1, z, hj, h => by
    have h1 := h 0 (by simp) (by omega)
    have h2 := upc_many xs j z (by simpa using hj) (fun i hi hij => h (i + 1) (by simpa using hi) (by omega))
    simp only [List.getElem_cons_zero] at h1
    rw [upc, if_pos h1]
    omega
/-! ### The order by favourites is the best -/
/-! ### Numbers added in a row -/
theorem rd_set (x : List Int) (n z : Nat) (v : Int) (hn : n < x.length) (hz : z < x.length) : rd (x.set n v) (z : Int) = if n = z then v else rd x (z : Int) := by
  rw [rd_nat _ z (by rw [List.length_set]; exact hz), List.getElem_set, rd_nat x z hz]
end Go.Proofs.YtleemfmhilhklaaGreat.Plain
