/- The list of all slope parking functions: its ranks, and that it goes up. Condition: a slope. -/
import Derived.Test.YtpcioeakogildaaPureFnExactAllSlope
import Derived.Test.YtpcioeakogildaaPureFnExactRankSlope
namespace Go.Proofs.Ytpcioeakogildaa.Pure
open Go.RowKit Go.Proofs.YtpcioeakogildaaW.PrintWords Go.Proofs.YtpcioeakogildaaW.PrintLast Go.Proofs.Ytpcioeakogildaa.Hand Go.Proofs.Ytpcioeakogildaa.PAll Go.Proofs.Ytpcioeakogildaa.Plain
set_option linter.unusedVariables false
namespace AllSlope
/-- An element of blocks laid one behind the other: its block, and its place there. -/
theorem catF_get {α : Type} (f : Nat → List α) (q : α) : ∀ e x r, (catF f x e)[r]? = some q → ∃ k s, k < e ∧ (f (x + k))[s]? = some q ∧ r = sumTo k (fun j => (f (x + j)).length) + s := by
  intro e
  induction e with
  | zero => intro x r h; simp [catF] at h
  | succ e ih =>
    intro x r h
    rw [catF] at h
    by_cases hr : r < (f x).length
    · rw [List.getElem?_append_left hr] at h
      exact ⟨0, r, by omega, h, by simp [sumTo]⟩
    · rw [List.getElem?_append_right (by omega)] at h
      obtain ⟨k, s, h1, h2, h3⟩ := ih (x + 1) _ h
      refine ⟨k + 1, s, by omega, by rw [show x + (k + 1) = x + 1 + k by omega]; exact h2, ?_⟩
      rw [sumTo_first, Nat.add_zero]
      have e : sumTo k (fun j => (f (x + (j + 1))).length) = sumTo k (fun j => (f (x + 1 + j)).length) := sumTo_congr fun j _ => by rw [show x + (j + 1) = x + 1 + j by omega]
      rw [e]
      omega
theorem rin_eq (q : List Int) (A : Int) (i : Nat) (g : Nat → Nat) : ∀ (e v : Nat) (acc : Int), (∀ k, k < e → sways (q.take i ++ [((v + k : Nat) : Int)]) (q.length : Int) A = (g (v + k) : Int)) → 0 ≤ acc → acc + (sumTo e (fun k => g (v + k)) : Int) ≤ 1000000000 →
    RankSlope.rin q A i e v acc = acc + (sumTo e (fun k => g (v + k)) : Int) := by
  intro e
  induction e with
  | zero => intro v acc _ _ _; simp [RankSlope.rin, sumTo]
  | succ e ih =>
    intro v acc hg h0 hb
    have h1 := hg 0 (by omega)
    rw [sumTo_first, Int.natCast_add] at hb ⊢
    simp only [Nat.add_zero] at h1 hb ⊢
    have e2 : sumTo e (fun k => g (v + (k + 1))) = sumTo e (fun k => g (v + 1 + k)) := sumTo_congr fun j _ => by rw [show v + (j + 1) = v + 1 + j by omega]
    rw [e2] at hb ⊢
    rw [RankSlope.rin, h1, wrap64_in _ (by omega) (by omega), ih (v + 1) _ (fun k hk => by rw [show v + 1 + k = v + (k + 1) by omega]; exact hg (k + 1) (by omega)) (by omega) (by omega)]
    omega
theorem rank_at {n A : Nat} (h : slope (n : Int) (A : Int) = true) : ∀ (d : Nat) (p : List Int) (r : Nat) (q : List Int) (acc : Int), p.length + d = n → LowN p A → (enumS A d p)[r]? = some q → 0 ≤ acc → acc + (r : Int) ≤ 100000000 → RankSlope.rout q (A : Int) d p.length acc = acc + (r : Int) := by
  intro d
  induction d with
  | zero =>
    intro p r q acc hp hl hq h0 hb
    rw [enumS] at hq
    split at hq
    · cases r with
      | zero => simp [RankSlope.rout]
      | succ r => simp at hq
    · simp at hq
  | succ d ih =>
    intro p r q acc hp hl hq h0 hb
    have hm := enumS_mem A (d + 1) p q (List.mem_of_getElem? hq)
    rw [enumS] at hq
    obtain ⟨k, s, h1, h2, h3⟩ := catF_get _ q A 0 r hq
    rw [Nat.zero_add] at h2
    obtain ⟨_, t, e, ht, _⟩ := enumS_mem A d (p ++ [(k : Int)]) q (List.mem_of_getElem? h2)
    have hqn : q.length = n := by rw [e]; simp; omega
    have hrd : rd q (p.length : Int) = (k : Int) := by
      rw [rd_nat q p.length (by omega)]
      simp [e]
    have htk : q.take p.length = p := by simp [e]
    have hsw : ∀ j, j < k → sways (q.take p.length ++ [((0 + j : Nat) : Int)]) (q.length : Int) (A : Int) = ((enumS A d (p ++ [((0 + j : Nat) : Int)])).length : Int) := by
      intro j hj
      rw [htk, hqn]
      exact sways_eq h _ d (by simp; omega) (hl.snoc (by omega))
    have hr := rin_eq q (A : Int) p.length (fun j => (enumS A d (p ++ [(j : Int)])).length) k 0 acc hsw h0 (by rw [h3] at hb; simp only [Nat.zero_add] at hb ⊢; rw [Int.natCast_add] at hb; omega)
    have hi := ih (p ++ [(k : Int)]) s q (acc + (sumTo k (fun j => (enumS A d (p ++ [((0 + j : Nat) : Int)])).length) : Int)) (by simp; omega) (hl.snoc h1) h2 (by omega) (by rw [h3, Int.natCast_add] at hb; omega)
    rw [List.length_append, List.length_singleton] at hi
    rw [RankSlope.rout, hrd, Int.toNat_natCast, hr, hi, h3, Int.natCast_add]
    omega
theorem rank_ev {n A : Nat} (h : slope (n : Int) (A : Int) = true) (r : Nat) (q : List Int) (hq : (enumS A n [])[r]? = some q) : RankSlope.res q (A : Int) = ((r : Int), true) := by
  have hm := enumS_mem A n [] q (List.mem_of_getElem? hq)
  obtain ⟨hs, t, e, ht, _⟩ := hm
  have hqn : q.length = n := by rw [e]; simpa using ht
  have hle := enumS_le h n [] (by simp) (fun x hx => by cases hx)
  have hlt : r < (enumS A n []).length := (List.getElem?_eq_some_iff.1 hq).1
  have hr := rank_at h n [] r q 0 (by simp) (fun x hx => by cases hx) hq (Int.le_refl _) (by omega)
  unfold RankSlope.res
  rw [if_pos hs, hqn]
  rw [List.length_nil] at hr
  rw [hr, Int.zero_add]
/-- The first difference decides. -/
def lx : List Int → List Int → Bool
  | x :: xs, y :: ys => if x = y then lx xs ys else decide (x < y)
  | _, _ => false
theorem lx_app (p : List Int) (x y : Int) (t u : List Int) (h : x < y) : lx (p ++ x :: t) (p ++ y :: u) = true := by
  induction p with
  | nil => rw [List.nil_append, List.nil_append, lx, if_neg (by omega)]; exact decide_eq_true h
  | cons z p ih => rw [List.cons_append, List.cons_append, lx, if_pos rfl, ih]
theorem enumS_up (A : Nat) : ∀ (d : Nat) (p : List Int) (r s : Nat) (q u : List Int), (enumS A d p)[r]? = some q → (enumS A d p)[s]? = some u → r < s → lx q u = true := by
  intro d
  induction d with
  | zero =>
    intro p r s q u hq hu hrs
    rw [enumS] at hu
    split at hu
    · cases s with
      | zero => omega
      | succ s => simp at hu
    · simp at hu
  | succ d ih =>
    intro p r s q u hq hu hrs
    rw [enumS] at hq hu
    obtain ⟨k, a, h1, h2, h3⟩ := catF_get _ q A 0 r hq
    obtain ⟨l, b, g1, g2, g3⟩ := catF_get _ u A 0 s hu
    simp only [Nat.zero_add] at h2 g2 h3 g3
    by_cases e : k = l
    · subst e
      exact ih _ a b q u h2 g2 (by omega)
    · have hkl : k < l := by
        refine Nat.lt_of_not_le fun hle => ?_
        have hb : b < (enumS A d (p ++ [(l : Int)])).length := (List.getElem?_eq_some_iff.1 g2).1
        have hm := sumTo_mono (show l + 1 ≤ k by omega) (fun j => (enumS A d (p ++ [(j : Int)])).length)
        rw [sumTo] at hm
        omega
      obtain ⟨_, t, e1, _, _⟩ := enumS_mem A d _ q (List.mem_of_getElem? h2)
      obtain ⟨_, v, e2, _, _⟩ := enumS_mem A d _ u (List.mem_of_getElem? g2)
      rw [e1, e2, List.append_assoc, List.append_assoc]
      exact lx_app p _ _ _ _ (by omega)
end AllSlope
end Go.Proofs.Ytpcioeakogildaa.Pure
