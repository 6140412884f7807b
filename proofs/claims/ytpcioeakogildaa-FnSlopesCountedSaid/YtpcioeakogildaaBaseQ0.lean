/- Numbers of a table, lists in order: plain facts for counting lists. No condition. -/
import Derived.Test.YtpcioeakogildaaBaseI
import Derived.Test.YtpcioeakogildaaBaseN
namespace Go.Proofs.Ytpcioeakogildaa.Plain
open Go.RowKit Go.Proofs.YtpcioeakogildaaW.PrintWords Go.Proofs.YtpcioeakogildaaW.PrintLast Go.Proofs.Ytpcioeakogildaa.Hand
set_option linter.unusedVariables false
/-- The numbers of the table, plainly. -/
def ownN (l : List Int) : Nat → Nat := fun v => (upTo l (v : Int)).toNat
theorem ownN_more (l : List Int) (x : Nat) : ownN (l ++ [(x : Int)]) = more (ownN l) x := by
  funext v
  have h0 := upTo_in l (v : Int)
  show (upTo (l ++ [(x : Int)]) (v : Int)).toNat = (upTo l (v : Int)).toNat + (if x ≤ v then 1 else 0)
  have e : upTo (l ++ [(x : Int)]) (v : Int) = upTo l (v : Int) + (if x ≤ v then (1 : Int) else 0) := by
    unfold upTo
    rw [cntD_snoc]
    by_cases h : x ≤ v
    · rw [if_pos h, if_pos (decide_eq_true (by omega))]
    · rw [if_neg h, if_neg (by rw [decide_eq_false (by omega)]; decide)]
  rw [e]
  split <;> omega
theorem DD_end (own need : Nat → Nat) : ∀ v, DD own need 0 v 0 = if ∀ u, u < v → need u ≤ own u then 1 else 0 := by
  intro v
  induction v with
  | zero => rw [DD, if_pos rfl, if_pos (fun u hu => by omega)]
  | succ v ih =>
    rw [DD, sumTo, sumTo, ih, bin_none]
    by_cases h : need v ≤ own v + 0
    · rw [if_pos h]
      by_cases h2 : ∀ u, u < v → need u ≤ own u
      · rw [if_pos h2, if_pos (fun u hu => by
          by_cases e : u = v
          · rw [e]; exact h
          · exact h2 u (by omega))]
      · rw [if_neg h2, if_neg (fun h3 => h2 (fun u hu => h3 u (by omega)))]
    · rw [if_neg h, if_neg (fun h3 => h (h3 v (by omega)))]
/-! ### lists in order -/
def catF {α : Type} (f : Nat → List α) : Nat → Nat → List α
  | _, 0 => []
  | x, e + 1 => f x ++ catF f (x + 1) e
theorem catF_length {α : Type} (f : Nat → List α) : ∀ e x, (catF f x e).length = sumTo e (fun k => (f (x + k)).length) := by
  intro e
  induction e with
  | zero => intro x; rfl
  | succ e ih =>
    intro x
    rw [catF, List.length_append, ih, sumTo_first, Nat.add_zero]
    congr 1
    exact sumTo_congr fun k _ => by rw [show x + 1 + k = x + (k + 1) by omega]
theorem catF_mem {α : Type} (f : Nat → List α) (a : α) : ∀ e x, a ∈ catF f x e → ∃ k, x ≤ k ∧ k < x + e ∧ a ∈ f k := by
  intro e
  induction e with
  | zero => intro x h; cases h
  | succ e ih =>
    intro x h
    rw [catF, List.mem_append] at h
    rcases h with h | h
    · exact ⟨x, by omega, by omega, h⟩
    · obtain ⟨k, h1, h2, h3⟩ := ih (x + 1) h
      exact ⟨k, by omega, by omega, h3⟩
def LowN (p : List Int) (n : Nat) : Prop := ∀ x ∈ p, 0 ≤ x ∧ x < (n : Int)
theorem LowN.snoc {p : List Int} {n : Nat} (h : LowN p n) {x : Nat} (hx : x < n) : LowN (p ++ [(x : Int)]) n := by
  intro y hy
  rw [List.mem_append, List.mem_singleton] at hy
  rcases hy with hy | rfl
  · exact h y hy
  · omega
end Go.Proofs.Ytpcioeakogildaa.Plain
