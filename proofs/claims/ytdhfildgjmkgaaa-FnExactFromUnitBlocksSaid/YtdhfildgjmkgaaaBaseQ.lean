/- Parking functions counted and listed: a list parks just where it has enough small numbers; all that go on a list, in order, are as many as the table says. Plain facts. -/
import Derived.Test.YtdhfildgjmkgaaaBaseP
import Derived.Test.YtdhfildgjmkgaaaBaseK
import Derived.Test.YtdhfildgjmkgaaaBaseQ0
namespace Go.Proofs.Ytdhfildgjmkgaaa.Plain
open Go.RowKit Go.Proofs.YtdhfildgjmkgaaaW.PrintWords Go.Proofs.YtdhfildgjmkgaaaW.PrintLast Go.Proofs.Ytdhfildgjmkgaaa.Hand
set_option linter.unusedVariables false

theorem sdrive_keeps (p : Int) : ∀ (l out : List Int), (-1 : Int) ∉ sdrive p out l → out.Nodup → (sdrive p out l).Nodup ∧ ∀ f : Int, cnt (fun x => decide (x ≤ f)) (sdrive p out l) ≤ cnt (fun x => decide (x ≤ f)) out + cnt (fun x => decide (x ≤ f)) l := by
  intro l
  induction l with
  | nil => intro out h hn; exact ⟨hn, fun f => by simp [sdrive, cnt]⟩
  | cons x xs ih =>
    intro out h hn
    rw [sdrive] at h ⊢
    have hge := nf_ge p out (p - x).toNat x
    have hfr := nf_free p out (p - x).toNat x rfl
    have hy : ¬ p ≤ nf p out (p - x).toNat x := by
      intro hy
      obtain ⟨t, ht⟩ := sdrive_pre p xs (out ++ [told p (nf p out (p - x).toNat x)])
      apply h
      rw [ht]
      unfold told
      rw [if_pos hy]
      simp
    have ht : told p (nf p out (p - x).toNat x) = nf p out (p - x).toNat x := by unfold told; rw [if_neg hy]
    rw [ht] at h ⊢
    generalize nf p out (p - x).toNat x = y at hge hfr hy h ⊢
    have h2 := ih (out ++ [y]) h (by
      rw [List.nodup_append]
      refine ⟨hn, by simp, fun a ha b hb => ?_⟩
      rw [List.mem_singleton] at hb
      subst hb
      exact fun e => hfr (by omega) (e ▸ ha))
    refine ⟨h2.1, fun f => ?_⟩
    have h3 := h2.2 f
    rw [cntK_snoc] at h3
    have h4 := cntK_append (fun x => decide (x ≤ f)) [x] xs
    rw [List.singleton_append] at h4
    have h5 : (if decide (y ≤ f) = true then (1 : Int) else 0) ≤ cnt (fun x => decide (x ≤ f)) [x] := by
      by_cases h6 : y ≤ f
      · have : x ≤ f := by omega
        simp [cnt, h6, this]
      · rw [if_neg (by rw [decide_eq_false h6]; decide)]
        exact cnt_nonneg _ _
    omega
/-- A list parks only where it has enough small numbers. -/
theorem parks_conv (l : List Int) (hb : ∀ x ∈ l, 0 ≤ x ∧ x < (l.length : Int)) (h : (-1 : Int) ∉ sdrive (l.length : Int) [] l) : ∀ f : Int, 0 ≤ f → f < (l.length : Int) → f + 1 ≤ cnt (fun x => decide (x ≤ f)) l := by
  intro f h0 h1
  have hk := sdrive_keeps (l.length : Int) l [] h (by simp)
  have h2 := hk.2 f
  have e0 : cnt (fun x => decide (x ≤ f)) [] = 0 := rfl
  have h3 := cntK_split f (sdrive (l.length : Int) [] l)
  have hlen : (sdrive (l.length : Int) [] l).length = l.length := by rw [sdrive_length]; simp
  have h4 := nodup_len ((sdrive (l.length : Int) [] l).filter fun x => decide (x > f)) (iota (f + 1) ((l.length : Int) - 1 - f).toNat) (hk.1.sublist List.filter_sublist) (fun x hx => by
    rw [List.mem_filter] at hx
    have h5 := of_decide_eq_true hx.2
    have h6 : x < (l.length : Int) := by
      rcases sdrive_lt (l.length : Int) (by omega) l [] x hx.1 with h | h
      · cases h
      · exact h
    unfold iota
    rw [List.mem_map]
    exact ⟨(x - (f + 1)).toNat, List.mem_range.2 (by omega), by omega⟩)
  rw [iota_length] at h4
  have e5 : cnt (fun x => decide (x > f)) (sdrive (l.length : Int) [] l) = (((sdrive (l.length : Int) [] l).filter fun x => decide (x > f)).length : Int) := rfl
  omega
def needN : Nat → Nat := fun v => v + 1
theorem parking_count (l : List Int) (h8 : l.length ≤ 8) (hb : ∀ x ∈ l, 0 ≤ x ∧ x < (l.length : Int)) : DD (ownN l) needN 0 l.length 0 = if parking l = true then 1 else 0 := by
  rw [DD_end]
  have e : (∀ u, u < l.length → needN u ≤ ownN l u) ↔ parking l = true := by
    unfold parking
    rw [decide_eq_true h8, Bool.true_and, Bool.and_eq_true, List.all_eq_true, Bool.not_eq_true', decide_eq_false_iff_not]
    constructor
    · intro h
      refine ⟨fun x hx => by have := hb x hx; exact decide_eq_true (by omega), parks_all l hb fun f hf0 hf1 => ?_⟩
      have h1 := h f.toNat (by omega)
      have h2 := upTo_in l f
      unfold needN ownN at h1
      rw [show ((f.toNat : Nat) : Int) = f by omega] at h1
      unfold upTo at h1 h2
      omega
    · rintro ⟨_, h⟩ u hu
      have h1 := parks_conv l hb h (u : Int) (by omega) (by omega)
      unfold needN ownN upTo
      omega
  by_cases h : parking l = true
  · rw [if_pos h, if_pos (e.2 h)]
  · rw [if_neg h, if_neg (fun h2 => h (e.1 h2))]

/-- All parking functions that go on a list, in order. -/
def enum (n : Nat) : Nat → List Int → List (List Int)
  | 0, p => if parking p = true then [p] else []
  | d + 1, p => catF (fun x => enum n d (p ++ [(x : Int)])) 0 n
theorem enum_mem (n : Nat) : ∀ d p q, q ∈ enum n d p → parking q = true := by
  intro d
  induction d with
  | zero =>
    intro p q h
    rw [enum] at h
    split at h
    · rename_i h2
      rw [List.mem_singleton] at h
      rw [h]
      exact h2
    · cases h
  | succ d ih =>
    intro p q h
    rw [enum] at h
    obtain ⟨k, _, _, h3⟩ := catF_mem _ q n 0 h
    exact ih _ q h3
theorem enum_length (n : Nat) (hn : n ≤ 8) : ∀ d p, p.length + d = n → LowN p n → (enum n d p).length = DD (ownN p) needN d n d := by
  intro d
  induction d with
  | zero =>
    intro p hp hl
    obtain rfl : p.length = n := by omega
    rw [enum, parking_count p hn hl]
    split <;> rfl
  | succ d ih =>
    intro p hp hl
    rw [enum, catF_length, DD_next]
    refine sumTo_congr fun x hx => ?_
    rw [Nat.zero_add, ih (p ++ [(x : Int)]) (by simp; omega) (hl.snoc hx), ownN_more]
theorem enum_le (n : Nat) (hn : n ≤ 5) (d : Nat) (p : List Int) (hp : p.length + d = n) (hl : LowN p n) : (enum n d p).length ≤ 7776 := by
  rw [enum_length n (by omega) d p hp hl]
  have h1 := DD_le needN d (ownN p) n d
  have h2 : (n + 1) ^ d ≤ 6 ^ 5 := Nat.le_trans (Nat.pow_le_pow_left (by omega) _) (Nat.pow_le_pow_right (by omega) (by omega))
  have h3 : (6 : Nat) ^ 5 = 7776 := by decide
  omega
/-- How many parking functions go on a list, as the table has it. -/
def pways (l : List Int) (n : Nat) : Int :=
  rd (dp (n - l.length) (fun v => upTo l (v : Int)) (fun v => (v : Int) + 1) n 0 (1 :: List.replicate (n - l.length) 0)) ((n - l.length : Nat) : Int)
theorem pways_eq (n : Nat) (hn : n ≤ 5) (p : List Int) (d : Nat) (hp : p.length + d = n) (hl : LowN p n) : pways p n = ((enum n d p).length : Int) := by
  have e := dp_all (ownN p) needN (n - p.length) n (by omega) (by omega)
  rw [enum_length n (by omega) d p hp hl]
  unfold pways
  have e1 : (fun v : Nat => upTo p (v : Int)) = fun v => (ownN p v : Int) := by
    funext v
    have := upTo_in p (v : Int)
    unfold ownN
    omega
  have e2 : (fun v : Nat => (v : Int) + 1) = fun v => (needN v : Int) := by
    funext v
    unfold needN
    omega
  rw [e1, e2, e, show n - p.length = d by omega]
end Go.Proofs.Ytdhfildgjmkgaaa.Plain
