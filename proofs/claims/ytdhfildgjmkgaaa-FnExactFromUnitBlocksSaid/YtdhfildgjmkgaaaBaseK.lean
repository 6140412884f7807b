/- Lists that park: where of n numbers at least f + 1 are at most f, for each f below n, each car finds a place. No program in sight. -/
import Derived.Test.YtdhfildgjmkgaaaBaseA
namespace Go.Proofs.Ytdhfildgjmkgaaa.Plain
open Go.RowKit Go.Proofs.YtdhfildgjmkgaaaW.PrintWords Go.Proofs.YtdhfildgjmkgaaaW.PrintLast Go.Proofs.Ytdhfildgjmkgaaa.Hand
set_option linter.unusedVariables false

theorem cntK_snoc (p : Int → Bool) (l : List Int) (x : Int) : cnt p (l ++ [x]) = cnt p l + (if p x = true then 1 else 0) := by
  unfold cnt
  rw [List.filter_append, List.length_append, List.filter_cons]
  split
  · simp
  · simp
theorem cntK_append (p : Int → Bool) (l m : List Int) : cnt p (l ++ m) = cnt p l + cnt p m := by
  unfold cnt
  rw [List.filter_append, List.length_append]
  omega
theorem cntK_split (f : Int) (l : List Int) : cnt (fun x => decide (x > f)) l + cnt (fun x => decide (x ≤ f)) l = (l.length : Int) := by
  induction l with
  | nil => rfl
  | cons x xs ih =>
    have h1 := cntK_append (fun x => decide (x > f)) [x] xs
    have h2 := cntK_append (fun x => decide (x ≤ f)) [x] xs
    rw [List.singleton_append] at h1 h2
    rw [h1, h2, List.length_cons]
    by_cases h : x > f
    · have e1 : cnt (fun x => decide (x > f)) [x] = 1 := by simp [cnt, h]
      have e2 : cnt (fun x => decide (x ≤ f)) [x] = 0 := by simp [cnt, h]
      omega
    · have e1 : cnt (fun x => decide (x > f)) [x] = 0 := by simp [cnt, h]
      have e2 : cnt (fun x => decide (x ≤ f)) [x] = 1 := by simp [cnt, show x ≤ f by omega]
      omega
theorem nodup_len : ∀ (l m : List Int), l.Nodup → (∀ x ∈ l, x ∈ m) → l.length ≤ m.length
  | [], m, _, _ => by simp
  | x :: xs, m, hn, hs => by
    rw [List.nodup_cons] at hn
    have hp := List.perm_cons_erase (hs x List.mem_cons_self)
    have hl := hp.length_eq
    rw [List.length_cons] at hl
    have := nodup_len xs (m.erase x) hn.2 (fun y hy => (List.mem_erase_of_ne (show y ≠ x from fun e => hn.1 (by rw [← e]; exact hy))).2 (hs y (List.mem_cons_of_mem _ hy)))
    rw [List.length_cons]
    omega
theorem cntK_all {f n : Int} {out : List Int} (hf : f < n) (h : ∀ z, f < z → z < n → z ∈ out) : n - 1 - f ≤ cnt (fun x => decide (x > f)) out := by
  have hnd : (iota (f + 1) (n - 1 - f).toNat).Nodup := List.pairwise_iff_getElem.2 fun i j hi hj hij => by
    rw [iota_get, iota_get]
    omega
  have := nodup_len _ (out.filter fun x => decide (x > f)) hnd (fun x hx => by
    unfold iota at hx
    rw [List.mem_map] at hx
    obtain ⟨i, hi, rfl⟩ := hx
    have := List.mem_range.1 hi
    rw [List.mem_filter]
    exact ⟨h _ (by omega) (by omega), decide_eq_true (by omega)⟩)
  rw [iota_length] at this
  unfold cnt
  omega
theorem nf_taken (p : Int) (out : List Int) : ∀ (d : Nat) (x : Int), ∀ z, x ≤ z → z < nf p out d x → z ∈ out := by
  intro d
  induction d with
  | zero =>
    intro x z h1 h2
    rw [nf] at h2
    omega
  | succ d ih =>
    intro x z h1 h2
    rw [nf] at h2
    split at h2
    · rename_i h
      by_cases e : z = x
      · rw [e]
        exact h.2
      · exact ih (x + 1) z (by omega) h2
    · omega
theorem nf_free (p : Int) (out : List Int) : ∀ (d : Nat) (x : Int), d = (p - x).toNat → nf p out d x < p → nf p out d x ∉ out := by
  intro d
  induction d with
  | zero =>
    intro x hd h
    rw [nf] at h
    omega
  | succ d ih =>
    intro x hd h
    rw [nf] at h ⊢
    split
    · rename_i h2
      rw [if_pos h2] at h
      exact ih (x + 1) (by omega) h
    · rename_i h2
      rw [if_neg h2] at h
      exact fun hm => h2 ⟨h, hm⟩
/-- The last free place ahead of x, or none. -/
theorem last_free (out : List Int) (n : Int) : ∀ (k : Nat) (x : Int), x = (k : Int) → (∀ z, x ≤ z → z < n → z ∈ out) → ∃ f, f < x ∧ (f = -1 ∨ (0 ≤ f ∧ f ∉ out)) ∧ ∀ z, f < z → z < n → z ∈ out := by
  intro k
  induction k with
  | zero =>
    intro x hx h
    exact ⟨-1, by omega, .inl rfl, fun z h1 h2 => h z (by omega) h2⟩
  | succ k ih =>
    intro x hx h
    by_cases hm : x - 1 ∈ out
    · obtain ⟨f, h1, h2, h3⟩ := ih (x - 1) (by omega) (fun z hz1 hz2 => by
        by_cases e : z = x - 1
        · rw [e]; exact hm
        · exact h z (by omega) hz2)
      exact ⟨f, by omega, h2, h3⟩
    · exact ⟨x - 1, by omega, .inr ⟨by omega, hm⟩, fun z h1 h2 => h z (by omega) h2⟩
theorem parks_from (l : List Int) (hb : ∀ x ∈ l, 0 ≤ x ∧ x < (l.length : Int)) (hc : ∀ f : Int, 0 ≤ f → f < (l.length : Int) → f + 1 ≤ cnt (fun x => decide (x ≤ f)) l) : ∀ (xs ps out : List Int), ps ++ xs = l → out.length = ps.length → (-1 : Int) ∉ out →
    (∀ f : Int, 0 ≤ f → f ∉ out → cnt (fun x => decide (x > f)) out = cnt (fun x => decide (x > f)) ps) → (-1 : Int) ∉ sdrive (l.length : Int) out xs := by
  intro xs
  induction xs with
  | nil => intro ps out hl ho hn hi; exact hn
  | cons x xs ih =>
    intro ps out hl ho hn hi
    have hx := hb x (by rw [← hl]; simp)
    rw [sdrive]
    have hlen : ps.length + 1 + xs.length = l.length := by rw [← hl]; simp; omega
    have hge := nf_ge (l.length : Int) out ((l.length : Int) - x).toNat x
    have htk := nf_taken (l.length : Int) out ((l.length : Int) - x).toNat x
    have hfr := nf_free (l.length : Int) out ((l.length : Int) - x).toNat x rfl
    generalize nf (l.length : Int) out ((l.length : Int) - x).toNat x = y at hge htk hfr ⊢
    by_cases hy : (l.length : Int) ≤ y
    · exfalso
      obtain ⟨f, h1, h2, h3⟩ := last_free out (l.length : Int) x.toNat x (by omega) (fun z hz1 hz2 => htk z hz1 (by omega))
      have h4 := cntK_all (by omega) h3
      have h5 := cnt_le (fun x => decide (x > f)) out
      rcases h2 with rfl | ⟨h2, h6⟩
      · omega
      · have h7 := hi f h2 h6
        have h8 := hc f h2 (by omega)
        have h9 := cntK_split f l
        have h10 : cnt (fun x => decide (x > f)) l = cnt (fun x => decide (x > f)) ps + cnt (fun x => decide (x > f)) (x :: xs) := by rw [← hl, cntK_append]
        have h11 := cntK_append (fun x => decide (x > f)) [x] xs
        rw [List.singleton_append] at h11
        have h12 : cnt (fun x => decide (x > f)) [x] = 1 := by simp [cnt, h1]
        have h13 := cnt_nonneg (fun x => decide (x > f)) xs
        omega
    · have ht : told (l.length : Int) y = y := by unfold told; rw [if_neg hy]
      rw [ht]
      refine ih (ps ++ [x]) (out ++ [y]) (by simp [hl]) (by simp [ho]) ?_ ?_
      · rw [List.mem_append, List.mem_singleton]
        rintro (h | h)
        · exact hn h
        · omega
      · intro f hf hm
        rw [List.mem_append, List.mem_singleton] at hm
        have hm1 : f ∉ out := fun h => hm (.inl h)
        have hm2 : f ≠ y := fun h => hm (.inr h)
        rw [cntK_snoc, cntK_snoc, hi f hf hm1]
        congr 1
        have e : (decide (y > f)) = (decide (x > f)) := by
          refine decide_eq_decide.2 ⟨fun h => ?_, fun h => by omega⟩
          by_cases h2 : x > f
          · exact h2
          · exact absurd (htk f (by omega) h) hm1
        rw [e]
theorem parks_all (l : List Int) (hb : ∀ x ∈ l, 0 ≤ x ∧ x < (l.length : Int)) (hc : ∀ f : Int, 0 ≤ f → f < (l.length : Int) → f + 1 ≤ cnt (fun x => decide (x ≤ f)) l) : (-1 : Int) ∉ sdrive (l.length : Int) [] l :=
  parks_from l hb hc l [] [] rfl rfl (by simp) (fun _ _ _ => rfl)
end Go.Proofs.Ytdhfildgjmkgaaa.Plain
