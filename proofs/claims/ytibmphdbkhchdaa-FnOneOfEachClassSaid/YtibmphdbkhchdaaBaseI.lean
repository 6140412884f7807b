/- A table of ways, place by place: plain numbers. No condition. -/
import Derived.Test.YtibmphdbkhchdaaBaseA
namespace Go.Proofs.Ytibmphdbkhchdaa.Plain
open Go.RowKit Go.Proofs.YtibmphdbkhchdaaW.PrintWords Go.Proofs.YtibmphdbkhchdaaW.PrintLast Go.Proofs.Ytibmphdbkhchdaa.Hand
set_option linter.unusedVariables false

/-- Binomial coefficients. -/
def bin : Nat → Nat → Nat
  | _, 0 => 1
  | 0, _ + 1 => 0
  | n + 1, k + 1 => bin n k + bin n (k + 1)
/-- How many numbers of a list are at most v. -/
def upTo (l : List Int) (v : Int) : Int := cnt (fun x => decide (x ≤ v)) l
theorem upTo_in (l : List Int) (v : Int) : 0 ≤ upTo l v ∧ upTo l v ≤ (l.length : Int) := ⟨cnt_nonneg _ _, cnt_le _ _⟩
theorem cntD_cons (p : Int → Bool) (x : Int) (l : List Int) : cnt p (x :: l) = (if p x = true then 1 else 0) + cnt p l := by
  unfold cnt
  rw [List.filter_cons]
  split
  · simp; omega
  · simp
theorem upTo_step (l : List Int) (v : Int) : upTo l (v - 1) + cnt (fun x => decide (x = v)) l = upTo l v := by
  unfold upTo
  induction l with
  | nil => rfl
  | cons x xs ih =>
    rw [cntD_cons, cntD_cons, cntD_cons]
    rcases Int.lt_trichotomy x v with h | h | h
    · rw [if_pos (decide_eq_true (by omega)), if_neg (by rw [decide_eq_false (by omega)]; decide), if_pos (decide_eq_true (by omega))]
      omega
    · rw [if_neg (by rw [decide_eq_false (by omega)]; decide), if_pos (decide_eq_true h), if_pos (decide_eq_true (by omega))]
      omega
    · rw [if_neg (by rw [decide_eq_false (by omega)]; decide), if_neg (by rw [decide_eq_false (by omega)]; decide), if_neg (by rw [decide_eq_false (by omega)]; decide)]
      omega
theorem upTo_low (l : List Int) (h : ∀ x ∈ l, 0 ≤ x) : upTo l (0 - 1) = 0 := by
  unfold upTo
  induction l with
  | nil => rfl
  | cons x xs ih =>
    have := h x List.mem_cons_self
    rw [cntD_cons, if_neg (by rw [decide_eq_false (by omega)]; decide), ih (fun y hy => h y (List.mem_cons_of_mem _ hy))]
    rfl

theorem cntD_snoc (p : Int → Bool) (l : List Int) (x : Int) : cnt p (l ++ [x]) = cnt p l + (if p x = true then 1 else 0) := by
  unfold cnt
  rw [List.filter_append, List.length_append, List.filter_cons]
  split
  · simp
  · simp
/-! ### the table, place by place -/
def inn (left : Nat) (own need w : Int) (kk : Nat) : Nat → Nat → List Int → List Int
  | 0, _, next => next
  | d + 1, m, next => inn left own need w kk d (m + 1) (if own + (kk : Int) + (m : Int) ≥ need then next.set (kk + m) (wrap64 (rd next ((kk + m : Nat) : Int) + wrap64 (w * (bin (left - kk) m : Int)))) else next)
def outr (left : Nat) (own need : Int) (ways : List Int) : Nat → Nat → List Int → List Int
  | 0, _, next => next
  | d + 1, kk, next => outr left own need ways d (kk + 1) (inn left own need (rd ways (kk : Int)) kk (left - kk + 1) 0 next)
def dp (left : Nat) (own need : Nat → Int) : Nat → Nat → List Int → List Int
  | 0, _, ways => ways
  | d + 1, v, ways => dp left own need d (v + 1) (outr left (own v) (need v) ways (left + 1) 0 (List.replicate (left + 1) 0))
theorem inn_length (left : Nat) (own need w : Int) (kk : Nat) : ∀ (d m : Nat) (next : List Int), (inn left own need w kk d m next).length = next.length
  | 0, _, _ => rfl
  | d + 1, m, next => by
    rw [inn, inn_length]
    split
    · simp
    · rfl
theorem outr_length (left : Nat) (own need : Int) (ways : List Int) : ∀ (d kk : Nat) (next : List Int), (outr left own need ways d kk next).length = next.length
  | 0, _, _ => rfl
  | d + 1, kk, next => by rw [outr, outr_length, inn_length]
end Go.Proofs.Ytibmphdbkhchdaa.Plain
