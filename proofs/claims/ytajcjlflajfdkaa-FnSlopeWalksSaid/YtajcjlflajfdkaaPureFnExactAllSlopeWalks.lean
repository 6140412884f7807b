/- The pure facts of the law FnExactAllSlopeWalks: the program lists all slope walks number by number, the reference one after the other; no condition. -/
import Derived.Test.YtajcjlflajfdkaaPAllx1
import Derived.Test.YtajcjlflajfdkaaPAllx2
import Derived.Test.YtajcjlflajfdkaaPAllx3
import Derived.Test.YtajcjlflajfdkaaBaseS
namespace Go.Proofs.Ytajcjlflajfdkaa.Pure
open Go.RowKit Go.Proofs.YtajcjlflajfdkaaW.PrintWords Go.Proofs.YtajcjlflajfdkaaW.PrintLast Go.Proofs.Ytajcjlflajfdkaa.Hand Go.Proofs.Ytajcjlflajfdkaa.PAll Go.Proofs.Ytajcjlflajfdkaa.Plain
set_option linter.unusedVariables false
namespace AllSlopeWalks
theorem own_eq (l : List Int) (hs : l.length ≤ 1099511627776) : spec_l1Own.f l = some l := by
  unfold spec_l1Own.f
  simp only [Option.bind_some, List.nil_append]
  rw [if_pos (by simp; omega)]
theorem clone_eq (l : List Int) (hs : l.length ≤ 1099511627776) : slices_Clone_int_int.f l = some l := by
  unfold slices_Clone_int_int.f
  rw [if_pos (by omega)]
theorem rd2_nat (L : List (List Int)) (i : Nat) (h : i < L.length) : rd_L2 L (i : Int) = L[i] := by
  unfold rd_L2
  rw [Int.toNat_natCast, List.getD_eq_getElem?_getD, List.getElem?_eq_getElem h]
  rfl
/-! ### lists, in order -/
def catF {α : Type} (f : Nat → List α) : Nat → Nat → List α
  | _, 0 => []
  | x, e + 1 => f x ++ catF f (x + 1) e
theorem catF_congr {α : Type} {f g : Nat → List α} : ∀ (e x : Nat), (∀ k, x ≤ k → k < x + e → f k = g k) → catF f x e = catF g x e := by
  intro e
  induction e with
  | zero => intro x _; rfl
  | succ e ih => intro x h; rw [catF, catF, h x (by omega) (by omega), ih (x + 1) fun k h1 h2 => h k (by omega) (by omega)]
theorem catF_nil {α : Type} {f : Nat → List α} : ∀ (e x : Nat), (∀ k, x ≤ k → k < x + e → f k = []) → catF f x e = [] := by
  intro e
  induction e with
  | zero => intro x _; rfl
  | succ e ih => intro x h; rw [catF, h x (by omega) (by omega), ih (x + 1) fun k h1 h2 => h k (by omega) (by omega)]; rfl
theorem catF_add {α : Type} (f : Nat → List α) : ∀ (e x d : Nat), catF f x (e + d) = catF f x e ++ catF f (x + e) d := by
  intro e
  induction e with
  | zero => intro x d; rw [Nat.zero_add, catF, List.nil_append, Nat.add_zero]
  | succ e ih => intro x d; rw [show e + 1 + d = (e + d) + 1 by omega, catF, catF, ih, List.append_assoc, show x + 1 + e = x + (e + 1) by omega]
theorem catF_le {α : Type} {f : Nat → List α} {M : Nat} : ∀ (e x : Nat), (∀ k, (f k).length ≤ M) → (catF f x e).length ≤ e * M := by
  intro e
  induction e with
  | zero => intro x _; simp [catF]
  | succ e ih => intro x h; have h1 := ih (x + 1) h; have h2 := h x; rw [catF, List.length_append, Nat.succ_mul]; omega
theorem catF_one (g : Nat → List Int) : ∀ (e x : Nat), (catF (fun x => [g x]) x e).length = e := by
  intro e
  induction e with
  | zero => intro x; rfl
  | succ e ih => intro x; rw [catF, List.length_append, ih]; simp; omega
theorem catF_flat {α : Type} (f : Nat → List Int) (h : List Int → List α) : ∀ (e x : Nat), (catF (fun x => [f x]) x e).flatMap h = catF (fun x => h (f x)) x e := by
  intro e
  induction e with
  | zero => intro x; rfl
  | succ e ih => intro x; rw [catF, catF, List.flatMap_append, ih]; simp
theorem flat_congr {α β : Type} {f g : α → List β} : ∀ (l : List α), (∀ a ∈ l, f a = g a) → l.flatMap f = l.flatMap g
  | [], _ => rfl
  | a :: l, h => by rw [List.flatMap_cons, List.flatMap_cons, h a List.mem_cons_self, flat_congr l fun b hb => h b (List.mem_cons_of_mem _ hb)]
theorem catF_mem {α : Type} {f : Nat → List α} {a : α} : ∀ (e x : Nat), a ∈ catF f x e → ∃ k, a ∈ f k := by
  intro e
  induction e with
  | zero => intro x h; cases h
  | succ e ih =>
    intro x h
    rw [catF, List.mem_append] at h
    rcases h with h | h
    · exact ⟨x, h⟩
    · exact ih (x + 1) h
/-- The last number, or 0. -/
def lo (p : List Int) : Nat := (p.getLast?.getD 0).toNat
theorem lo_snoc (p : List Int) (x : Nat) : lo (p ++ [(x : Int)]) = x := by unfold lo; simp
theorem lo_rd (p : List Int) (hp : 0 < p.length) (h : ∀ x ∈ p, 0 ≤ x) : rd p ((p.length - 1 : Nat) : Int) = (lo p : Int) := by
  rw [rd_nat p _ (by omega)]
  unfold lo
  rw [List.getLast?_eq_getElem?, List.getElem?_eq_getElem (by omega), Option.getD_some]
  have := h _ (List.getElem_mem (show p.length - 1 < p.length by omega))
  omega
theorem lo_le (p : List Int) (M : Nat) (h : ∀ x ∈ p, x ≤ (M : Int)) : lo p ≤ M := by
  unfold lo
  cases hl : p.getLast? with
  | none => simp
  | some y => have := h y (List.mem_of_getLast? hl); simp; omega
/-- The walks that go on a list. -/
def V (bs : List Int) : Nat → List Int → List (List Int)
  | 0, p => [p]
  | d + 1, p => catF (fun x => V bs d (p ++ [(x : Int)])) (lo p) ((rd bs (p.length : Int)).toNat + 1 - lo p)
def stp (b : Nat) (p : List Int) : List (List Int) := catF (fun x => [p ++ [(x : Int)]]) (lo p) (b + 1 - lo p)
def bfs (bs : List Int) : Nat → Nat → List (List Int) → List (List Int)
  | 0, _, out => out
  | d + 1, i, out => bfs bs d (i + 1) (out.flatMap (stp (rd bs (i : Int)).toNat))
theorem stp_mem {b : Nat} {p q : List Int} (h : q ∈ stp b p) : ∃ x : Nat, q = p ++ [(x : Int)] ∧ x ≤ b := by
  unfold stp at h
  have key : ∀ (e x : Nat), q ∈ catF (fun x => [p ++ [(x : Int)]]) x e → ∃ y : Nat, q = p ++ [(y : Int)] ∧ y < x + e := by
    intro e
    induction e with
    | zero => intro x h; cases h
    | succ e ih =>
      intro x h
      rw [catF, List.mem_append, List.mem_singleton] at h
      rcases h with h | h
      · exact ⟨x, h, by omega⟩
      · obtain ⟨y, h1, h2⟩ := ih (x + 1) h
        exact ⟨y, h1, by omega⟩
  obtain ⟨y, h1, h2⟩ := key _ _ h
  exact ⟨y, h1, by
    by_cases hl : lo p ≤ b + 1
    · omega
    · rw [show b + 1 - lo p = 0 by omega] at h; cases h⟩
theorem bfs_V (bs : List Int) : ∀ (d i : Nat) (out : List (List Int)), (∀ p ∈ out, p.length = i) → bfs bs d i out = out.flatMap (V bs d) := by
  intro d
  induction d with
  | zero => intro i out h; rw [bfs]; simp [V]
  | succ d ih =>
    intro i out h
    rw [bfs, ih (i + 1) _ (fun q hq => by
      obtain ⟨p, hp, hq⟩ := List.mem_flatMap.1 hq
      obtain ⟨x, rfl, _⟩ := stp_mem hq
      rw [List.length_append, h p hp]; rfl), List.flatMap_assoc]
    refine flat_congr _ fun p hp => ?_
    unfold stp
    rw [catF_flat, V, h p hp]
/-! ### the program's loops -/
/-- Lists of one length, with small numbers. -/
def Sm (i : Nat) (p : List Int) : Prop := p.length = i ∧ ∀ x ∈ p, 0 ≤ x ∧ x ≤ 12
theorem Sm.lo_le {i : Nat} {p : List Int} (h : Sm i p) : lo p ≤ 12 := AllSlopeWalks.lo_le p 12 fun x hx => (h.2 x hx).2
theorem l2_ev {bs p : List Int} {out : List (List Int)} {i j b : Nat} {m : Int} (hb : b ≤ 12) (hp : p.length ≤ 6) (hj : j ≤ 1000000000) {r : List (List Int) × Bool} : ∀ (d x : Nat) (next : List (List Int)), d = b + 1 - x → x ≤ 13 → next.length + d ≤ 100000000000 →
    Ev (fun k => impl_AllSlopeWalks.l1 k (i : Int) (b : Int) (next ++ catF (fun x => [p ++ [(x : Int)]]) x d) bs m (i : Int) out (out.length : Int) ((j + 1 : Nat) : Int)) r →
    Ev (fun k => impl_AllSlopeWalks.l2 k (i : Int) (b : Int) next p (x : Int) bs m (i : Int) out (out.length : Int) (j : Int)) r := by
  intro d
  induction d with
  | zero =>
    intro x next hd hx hn hg
    rw [catF, List.append_nil] at hg
    refine Ev.step (fun k => ?_) hg
    rw [impl_AllSlopeWalks.l2, if_neg (by omega), wrap_succ j (by omega)]
  | succ d ih =>
    intro x next hd hx hn hg
    rw [catF, ← List.append_assoc] at hg
    refine Ev.step (fun k => ?_) (ih (x + 1) (next ++ [p ++ [(x : Int)]]) (by omega) (by omega) (by rw [List.length_append, List.length_singleton]; omega) hg)
    rw [impl_AllSlopeWalks.l2, if_pos (by omega), clone_eq p (by omega), Option.bind_some, if_pos (by omega), if_pos (by omega), wrap_succ x (by omega)]
theorem l1_ev {bs : List Int} {out : List (List Int)} {i b : Nat} {m : Int} (hb : b ≤ 12) (hi : i ≤ 5) (hm : ∀ p ∈ out, Sm i p) (ho : out.length ≤ 1000000000) {r : List (List Int) × Bool} : ∀ (d j : Nat) (next : List (List Int)), j + d = out.length → next.length ≤ 14 * j →
    Ev (fun k => impl_AllSlopeWalks.l0 k (next ++ (out.drop j).flatMap (stp b)) bs m ((i + 1 : Nat) : Int)) r →
    Ev (fun k => impl_AllSlopeWalks.l1 k (i : Int) (b : Int) next bs m (i : Int) out (out.length : Int) (j : Int)) r := by
  intro d
  induction d with
  | zero =>
    intro j next hd hn hg
    rw [List.drop_eq_nil_of_le (by omega), List.flatMap_nil, List.append_nil] at hg
    refine Ev.step (fun k => ?_) hg
    rw [impl_AllSlopeWalks.l1, if_neg (by omega), wrap_succ i (by omega)]
  | succ d ih =>
    intro j next hd hn hg
    have h1 : j < out.length := by omega
    have hp := hm _ (List.getElem_mem h1)
    have hlo := hp.lo_le
    rw [List.drop_eq_getElem_cons h1, List.flatMap_cons, ← List.append_assoc] at hg
    have hl : (stp b out[j]).length ≤ 13 := by unfold stp; rw [catF_one]; omega
    have h2 := ih (j + 1) (next ++ stp b out[j]) (by omega) (by rw [List.length_append]; omega) hg
    have h3 := l2_ev (bs := bs) (p := out[j]) (out := out) (i := i) (j := j) (b := b) (m := m) hb (by rw [hp.1]; omega) (by omega) (b + 1 - lo out[j]) (lo out[j]) next rfl (by omega) (by omega) h2
    refine Ev.step (f := ?f1) (fun k => ?h1) ?g1
    case h1 => rw [impl_AllSlopeWalks.l1, if_pos (by omega), if_pos (by omega), if_pos (by omega), rd2_nat out j h1]
    by_cases hi0 : (i : Int) > 0
    · have e1 : wrap64 ((i : Int) - 1) = ((out[j].length - 1 : Nat) : Int) := by rw [wrap64_in _ (by omega) (by omega), hp.1]; omega
      refine Ev.pos hi0 ?_
      rw [e1, lo_rd out[j] (by rw [hp.1]; omega) (fun x hx => (hp.2 x hx).1)]
      refine Ev.pos (by omega) (Ev.pos (by rw [hp.1]; omega) (Ev.step (fun k => ?_) h3))
      rw [impl_AllSlopeWalks.j3]
    · have e2 : lo out[j] = 0 := by
        have : out[j] = [] := List.eq_nil_of_length_eq_zero (by rw [hp.1]; omega)
        rw [this]; rfl
      rw [e2] at h3
      refine Ev.neg hi0 (Ev.step (fun k => ?_) h3)
      rw [impl_AllSlopeWalks.j3]
      rfl
theorem l0_ev {bs : List Int} (hb : ∀ j : Nat, j < bs.length → 0 ≤ rd bs (j : Int) ∧ rd bs (j : Int) ≤ 12) (h6 : bs.length ≤ 6) : ∀ (d i : Nat) (out : List (List Int)), i + d = bs.length → (∀ p ∈ out, Sm i p) → out.length ≤ 13 ^ i →
    Ev (fun k => impl_AllSlopeWalks.l0 k out bs (bs.length : Int) (i : Int)) (bfs bs d i out, true) := by
  intro d
  induction d with
  | zero =>
    intro i out hi hm ho
    refine Ev.step (f := fun _ => some (out, true)) (fun k => ?_) (Ev.now _)
    rw [impl_AllSlopeWalks.l0, if_neg (by omega)]
  | succ d ih =>
    intro i out hi hm ho
    have hbi := hb i (by omega)
    obtain ⟨b, hbe⟩ := Int.eq_ofNat_of_zero_le hbi.1
    have hp6 : (13 : Nat) ^ i ≤ 13 ^ 6 := Nat.pow_le_pow_right (by omega) (by omega)
    have h13 : (13 : Nat) ^ 6 = 4826809 := by decide
    have hlen : ∀ L : List (List Int), (∀ p ∈ L, Sm i p) → (L.flatMap (stp b)).length ≤ L.length * 13 := by
      intro L
      induction L with
      | nil => intro _; simp
      | cons p L ihL =>
        intro hL
        have h1 := ihL fun q hq => hL q (List.mem_cons_of_mem _ hq)
        rw [List.flatMap_cons, List.length_append, List.length_cons]
        have h2 : (stp b p).length ≤ 13 := by unfold stp; rw [catF_one]; omega
        omega
    rw [bfs, hbe, Int.toNat_natCast]
    have h2 := ih (i + 1) (out.flatMap (stp b)) (by omega) (fun q hq => by
      obtain ⟨p, hp, hq⟩ := List.mem_flatMap.1 hq
      obtain ⟨x, rfl, hx⟩ := stp_mem hq
      have hs := hm p hp
      refine ⟨by rw [List.length_append, hs.1]; rfl, fun y hy => ?_⟩
      rcases List.mem_append.1 hy with hy | hy
      · exact hs.2 y hy
      · rw [List.mem_singleton] at hy
        omega) (by have := hlen out hm; rw [Nat.pow_succ]; omega)
    have h3 := l1_ev (bs := bs) (out := out) (i := i) (b := b) (m := (bs.length : Int)) (by omega) (by omega) hm (by omega) out.length 0 [] (by omega) (by simp) (by rw [List.drop_zero, List.nil_append]; exact h2)
    refine Ev.step (fun k => ?_) h3
    rw [impl_AllSlopeWalks.l0, if_pos (by omega), if_pos (by omega), if_pos (by omega), hbe]
    rfl
/-! ### the reference's lists -/
def W (n A : Nat) : Nat → List Int → List (List Int)
  | 0, p => if slp p (A : Int) = true then [p] else []
  | d + 1, p => if slp (p ++ List.replicate (d + 1) 0) (A : Int) = true then catF (fun x => W n A d (p ++ [(x : Int)])) (lo p) (A - lo p) else []
theorem W_le (n A : Nat) (hA : A ≤ 13) : ∀ (d : Nat) (p : List Int), (W n A d p).length ≤ 13 ^ d := by
  intro d
  induction d with
  | zero => intro p; rw [W]; split <;> simp
  | succ d ih =>
    intro p
    rw [W]
    split
    · refine Nat.le_trans (catF_le (M := 13 ^ d) _ _ fun k => ih _) ?_
      rw [Nat.pow_succ, Nat.mul_comm]
      exact Nat.mul_le_mul_left _ (by omega)
    · simp
theorem fits_l0 {n : Nat} (hn : n ≤ 100) (a : Int) : ∀ (d : Nat) (p : List Int), p.length + d = n → Ev (fun k => spec_slFits.l0 k (n : Int) a p) (slp (p ++ List.replicate d 0) a) := by
  intro d
  induction d with
  | zero =>
    intro p hp
    rw [List.replicate_zero, List.append_nil]
    refine Ev.step (f := ?f1) (fun k => ?h1) ?g1
    case h1 => rw [spec_slFits.l0, if_neg (by omega)]
    exact Ev.bind (slGood_ev p a) (Ev.now _)
  | succ d ih =>
    intro p hp
    have h := ih (p ++ [0]) (by simp; omega)
    rw [List.append_assoc, List.singleton_append, ← List.replicate_succ] at h
    refine Ev.step (fun k => ?_) h
    rw [spec_slFits.l0, if_pos (by omega), if_pos (by omega)]
theorem fits_ev {n : Nat} (hn : n ≤ 100) (a : Int) (d : Nat) (p : List Int) (hp : p.length + d = n) : Ev (fun k => spec_slFits.f k p (n : Int) a) (slp (p ++ List.replicate d 0) a) := by
  unfold spec_slFits.f
  exact Ev.bindc (own_eq p (by omega)) (fits_l0 hn a d p hp)
theorem slAll_ev {n A : Nat} (hn : n ≤ 6) (hA : A ≤ 13) : ∀ (d : Nat) (p : List Int), p.length + d = n → (∀ x ∈ p, 0 ≤ x ∧ x < (A : Int)) → Ev (fun k => spec_slAll.f k p (n : Int) (A : Int) true) (W n A d p) := by
  intro d
  induction d with
  | zero =>
    intro p hp hx
    have hf := fits_ev (n := n) (by omega) (A : Int) 0 p hp
    rw [List.replicate_zero, List.append_nil] at hf
    rw [W]
    refine Ev.step (f := ?f1) (fun k => ?h1) ?g1
    case h1 => rw [spec_slAll.f]
    refine Ev.bind hf ?_
    cases h2 : slp p (A : Int) with
    | false => exact Ev.neg (by decide) (Ev.now _)
    | true =>
      rw [if_pos rfl]
      exact Ev.pos rfl (Ev.pos (by omega) (Ev.bindc (own_eq p (by omega)) (Ev.now _)))
  | succ d ih =>
    intro p hp hx
    have hf := fits_ev (n := n) (by omega) (A : Int) (d + 1) p hp
    refine Ev.step (f := ?f5) (fun k => ?h5) ?g5
    case h5 => rw [spec_slAll.f]
    refine Ev.bind hf ?_
    rw [W]
    cases h2 : slp (p ++ List.replicate (d + 1) 0) (A : Int) with
    | false => exact Ev.neg (by decide) (Ev.now _)
    | true =>
      rw [if_pos rfl]
      refine Ev.pos rfl (Ev.neg (by omega) (Ev.pos rfl ?_))
      have hlo := lo_le p 12 (fun x h => by have := hx x h; omega)
      have h6 : (13 : Nat) ^ d ≤ 13 ^ 6 := Nat.pow_le_pow_right (by omega) (by omega)
      have h13 : (13 : Nat) ^ 6 = 4826809 := by decide
      have loop : ∀ (e x : Nat) (acc : List (List Int)), e = A - x → x ≤ 13 → acc.length ≤ 4826809 * x → Ev (fun k => spec_slAll.l0 k p (n : Int) (A : Int) true acc (x : Int)) (acc ++ catF (fun x => W n A d (p ++ [(x : Int)])) x e) := by
        intro e
        induction e with
        | zero =>
          intro x acc he hx13 ha
          refine Ev.step (f := fun _ => some acc) (fun k => ?_) (Ev.const (by rw [catF, List.append_nil]))
          rw [spec_slAll.l0, if_neg (by omega)]
        | succ e ihe =>
          intro x acc he hx13 ha
          have h1 := ih (p ++ [(x : Int)]) (by simp; omega) (fun y hy => by
            rcases List.mem_append.1 hy with hy | hy
            · exact hx y hy
            · rw [List.mem_singleton] at hy; omega)
          have hle := W_le n A hA d (p ++ [(x : Int)])
          rw [catF, ← List.append_assoc]
          refine Ev.step (f := ?f2) (fun k => ?h2) ?g2
          case h2 => rw [spec_slAll.l0, if_pos (by omega), own_eq p (by omega), Option.bind_some, if_pos (by omega), wrap_succ x (by omega)]
          exact Ev.bind h1 (Ev.pos (by omega) (ihe (x + 1) _ (by omega) (by omega) (by rw [List.length_append]; omega)))
      have h9 := loop (A - lo p) (lo p) [] rfl (by omega) (by simp)
      rw [List.nil_append] at h9
      by_cases hl : 0 < p.length
      · have e1 : wrap64 ((p.length : Int) - 1) = ((p.length - 1 : Nat) : Int) := by rw [wrap64_in _ (by omega) (by omega)]; omega
        refine Ev.step (f := ?f3) (fun k => ?h3) ?g3
        case h3 => rw [decide_eq_true (by omega), spec_slAll.j0, if_pos rfl, e1, if_pos (by omega), if_pos (by omega), lo_rd p hl (fun x h => (hx x h).1)]
        refine Ev.step (fun k => ?_) h9
        rw [spec_slAll.j1]
      · have e2 : lo p = 0 := by
          have : p = [] := List.eq_nil_of_length_eq_zero (by omega)
          rw [this]; rfl
        rw [e2] at h9 ⊢
        refine Ev.step (f := ?f4) (fun k => ?h4) ?g4
        case h4 => rw [decide_eq_false (by omega), spec_slAll.j0, if_neg (by decide)]
        refine Ev.step (fun k => ?_) h9
        rw [spec_slAll.j1]
        rfl
/-! ### both are one list -/
theorem leR_true : ∀ (xs bs : List Int), (leR xs bs = true) ↔ ∀ i (h1 : i < xs.length) (h2 : i < bs.length), xs[i] ≤ bs[i]
  | [], bs => by simp [leR]
  | x :: xs, [] => by simp [leR]
  | x :: xs, b :: bs => by
    rw [leR, Bool.and_eq_true, decide_eq_true_eq, leR_true xs bs]
    constructor
    · rintro ⟨h0, h⟩ i h1 h2
      cases i with
      | zero => exact h0
      | succ i => exact h i (by simpa using h1) (by simpa using h2)
    · intro h
      exact ⟨h 0 (by simp) (by simp), fun i h1 h2 => h (i + 1) (by simpa using h1) (by simpa using h2)⟩
structure Gd (p : List Int) : Prop where
  asc : p.Pairwise (· ≤ ·)
  top : ∀ y ∈ p, 0 ≤ y ∧ y ≤ (lo p : Int)
theorem Gd.nil : Gd [] := ⟨List.Pairwise.nil, fun y hy => by cases hy⟩
theorem Gd.snoc {p : List Int} (h : Gd p) {x : Nat} (hx : lo p ≤ x) : Gd (p ++ [(x : Int)]) := by
  refine ⟨List.pairwise_append.2 ⟨h.asc, List.pairwise_singleton _ _, fun a ha b hb => ?_⟩, fun y hy => ?_⟩
  · rw [List.mem_singleton] at hb
    have := (h.top a ha).2
    omega
  · rw [lo_snoc]
    rcases List.mem_append.1 hy with hy | hy
    · have := h.top y hy
      omega
    · rw [List.mem_singleton] at hy
      omega
/-- What is asked of the bounds. -/
structure Bd (n A : Nat) (bs : List Int) : Prop where
  sl : slope (n : Int) (A : Int) = true
  eq : bs = bnds (n : Int) (A : Int)
  asc : bs.Pairwise (· ≤ ·)
theorem Bd.len {n A : Nat} {bs : List Int} (h : Bd n A bs) : bs.length = n := by rw [h.eq, bnds_length]; omega
theorem Bd.at {n A : Nat} {bs : List Int} (h : Bd n A bs) (j : Nat) (hj : j < n) : 0 ≤ rd bs (j : Int) ∧ rd bs (j : Int) < (A : Int) := by
  rw [rd_nat bs j (by rw [h.len]; exact hj)]
  exact bnds_lt h.sl _ (h.eq ▸ List.getElem_mem (by rw [h.len]; exact hj))
theorem Bd.mono {n A : Nat} {bs : List Int} (h : Bd n A bs) {i j : Nat} (hij : i ≤ j) (hj : j < n) : rd bs (i : Int) ≤ rd bs (j : Int) := by
  rcases Nat.lt_or_ge i j with h1 | h1
  · have hl := h.len
    rw [rd_nat bs i (by omega), rd_nat bs j (by omega)]
    exact List.pairwise_iff_getElem.1 h.asc i j (by omega) (by omega) h1
  · obtain rfl : i = j := by omega
    exact Int.le_refl _
theorem slp_asc {n A : Nat} {bs : List Int} (h : Bd n A bs) {q m : List Int} (hq : q.length = n) (hp : m.Perm q) (hs : m.Pairwise (· ≤ ·)) (h0 : ∀ x ∈ m, 0 ≤ x) : slp q (A : Int) = leR m bs := by
  unfold slp under
  rw [hq, h.sl, Bool.true_and, ← srt_unique hp hs, ← h.eq]
  exact underR_leR m bs h0
theorem bad {n A : Nat} {bs : List Int} (h : Bd n A bs) : ∀ (d : Nat) (p : List Int), p.length + d = n → Gd p → (∃ j, ∃ hj : j < p.length, rd bs (j : Int) < p[j]) → W n A d p = [] := by
  intro d
  induction d with
  | zero =>
    rintro p hp hg ⟨j, hj, hv⟩
    rw [W, slp_asc h (by omega) (List.Perm.refl p) hg.asc (fun x hx => (hg.top x hx).1), if_neg]
    intro hc
    have := (leR_true p bs).1 hc j hj (by rw [h.len]; omega)
    rw [rd_nat bs j (by rw [h.len]; omega)] at hv
    omega
  | succ d ih =>
    rintro p hp hg ⟨j, hj, hv⟩
    rw [W]
    split
    · refine catF_nil _ _ fun x hx _ => ih (p ++ [(x : Int)]) (by simp; omega) (hg.snoc hx) ⟨j, by simp; omega, ?_⟩
      rw [List.getElem_append_left hj]
      exact hv
    · rfl
theorem lo_at (p : List Int) (hp : 0 < p.length) (h : ∀ x ∈ p, 0 ≤ x) : (lo p : Int) = p[p.length - 1] := by
  rw [← lo_rd p hp h, rd_nat p _ (by omega)]
theorem good {n A : Nat} {bs : List Int} (h : Bd n A bs) : ∀ (d : Nat) (p : List Int), p.length + d = n → Gd p → (∀ j (hj : j < p.length), p[j] ≤ rd bs (j : Int)) → W n A d p = V bs d p := by
  intro d
  induction d with
  | zero =>
    intro p hp hg hv
    rw [W, slp_asc h (by omega) (List.Perm.refl p) hg.asc (fun x hx => (hg.top x hx).1), if_pos, V]
    refine (leR_true p bs).2 fun i h1 h2 => ?_
    have := hv i h1
    rwa [rd_nat bs i h2] at this
  | succ d ih =>
    intro p hp hg hv
    have hb := h.at p.length (by omega)
    obtain ⟨b, hbe⟩ := Int.eq_ofNat_of_zero_le hb.1
    have hlo : lo p ≤ b := by
      by_cases hl : 0 < p.length
      · have h1 := lo_at p hl (fun x hx => (hg.top x hx).1)
        have h2 := hv (p.length - 1) (by omega)
        have h3 := h.mono (i := p.length - 1) (j := p.length) (by omega) (by omega)
        omega
      · have : p = [] := List.eq_nil_of_length_eq_zero (by omega)
        rw [this]
        exact Nat.zero_le _
    have hfit : slp (p ++ List.replicate (d + 1) 0) (A : Int) = true := by
      have hl := h.len
      rw [slp_asc h (q := p ++ List.replicate (d + 1) 0) (m := List.replicate (d + 1) 0 ++ p) (by simp; omega) List.perm_append_comm
        (List.pairwise_append.2 ⟨List.pairwise_replicate.2 (.inr (Int.le_refl _)), hg.asc, fun a ha b hb => by rw [(List.mem_replicate.1 ha).2]; exact (hg.top b hb).1⟩)
        (fun x hx => (List.mem_append.1 hx).elim (fun hx => by rw [(List.mem_replicate.1 hx).2]; exact Int.le_refl _) (fun hx => (hg.top x hx).1))]
      refine (leR_true _ bs).2 fun i h1 h2 => ?_
      by_cases hi : i < d + 1
      · rw [List.getElem_append_left (by simpa using hi), List.getElem_replicate]
        have := (h.at i (by omega)).1
        rwa [rd_nat bs i h2] at this
      · rw [List.getElem_append_right (by simp; omega)]
        simp only [List.length_replicate]
        simp only [List.length_append, List.length_replicate] at h1
        have h3 := hv (i - (d + 1)) (by omega)
        have h4 := h.mono (i := i - (d + 1)) (j := i) (by omega) (by omega)
        rw [rd_nat bs i h2] at h4
        omega
    rw [W, if_pos hfit, V, hbe, Int.toNat_natCast, show A - lo p = (b + 1 - lo p) + (A - (b + 1)) by omega, catF_add, catF_nil (f := fun x => W n A d (p ++ [(x : Int)])) (A - (b + 1)) (lo p + (b + 1 - lo p)), List.append_nil]
    · refine catF_congr _ _ fun x hx1 hx2 => ih (p ++ [(x : Int)]) (by simp; omega) (hg.snoc hx1) fun j hj => ?_
      by_cases hjl : j < p.length
      · rw [List.getElem_append_left hjl]
        exact hv j hjl
      · have hje : j = p.length := by simp at hj; omega
        subst hje
        rw [List.getElem_append_right (Nat.le_refl _)]
        simp only [Nat.sub_self, List.getElem_singleton]
        omega
    · intro x hx1 hx2
      refine bad h d (p ++ [(x : Int)]) (by simp; omega) (hg.snoc (by omega)) ⟨p.length, by simp, ?_⟩
      rw [List.getElem_append_right (Nat.le_refl _)]
      simp only [Nat.sub_self, List.getElem_singleton]
      omega
/-! ### how many, and how long -/
def pr (bs : List Int) : Nat → Nat → Nat
  | 0, _ => 1
  | d + 1, i => ((rd bs (i : Int)).toNat + 1) * pr bs d (i + 1)
theorem V_le (bs : List Int) : ∀ (d : Nat) (p : List Int), (V bs d p).length ≤ pr bs d p.length := by
  intro d
  induction d with
  | zero => intro p; simp [V, pr]
  | succ d ih =>
    intro p
    rw [V, pr]
    refine Nat.le_trans (catF_le (M := pr bs d (p.length + 1)) _ _ fun k => ?_) (Nat.mul_le_mul_right _ (by omega))
    have := ih (p ++ [(k : Int)])
    rwa [List.length_append, List.length_singleton] at this
theorem V_len (bs : List Int) : ∀ (d : Nat) (p q : List Int), q ∈ V bs d p → q.length = p.length + d := by
  intro d
  induction d with
  | zero => intro p q h; rw [V, List.mem_singleton] at h; rw [h]; rfl
  | succ d ih =>
    intro p q h
    rw [V] at h
    obtain ⟨k, hk⟩ := catF_mem _ _ h
    have := ih _ q hk
    rw [List.length_append, List.length_singleton] at this
    omega
theorem bnds_fin2 : ∀ n : Fin 6, ∀ m : Fin 13, (bnds ((n.1 : Int) + 1) ((m.1 : Int) + 1)).Pairwise (· ≤ ·) ∧ pr (bnds ((n.1 : Int) + 1) ((m.1 : Int) + 1)) (n.1 + 1) 0 ≤ 1000000 := by decide +kernel
theorem many_fin : ∀ n : Fin 6, ∀ m : Fin 13, slope ((n.1 : Int) + 1) ((m.1 : Int) + 1) = true → impl_CountSlopeWalks.f 60 ((n.1 : Int) + 1) ((m.1 : Int) + 1) = (spec_slWalks.f 60 ((n.1 : Int) + 1) ((m.1 : Int) + 1)).map (fun c => (c, true)) ∧ spec_slWalks.f 60 ((n.1 : Int) + 1) ((m.1 : Int) + 1) ≠ none := by decide +kernel
theorem both2 (a b : Int) : ∃ ws ok, (ws.length ≤ 1000000 ∧ (∀ x ∈ ws, x.length ≤ 1000) ∧ Ev (fun k => spec_AllSlopeWalks.f k a b) (ws, ok) ∧ Ev (fun k => impl_AllSlopeWalks.f k a b) (ws, ok)) ∧ (ok = true → ∃ n A : Nat, a = (n : Int) ∧ b = (A : Int) ∧ slope (n : Int) (A : Int) = true ∧ ws = V (bnds (n : Int) (A : Int)) n []) := by
  cases h : slope a b with
  | false =>
    have h1 := slIs_ev a b
    have h2 := isSlope_ev a b
    rw [h] at h1 h2
    refine ⟨[], false, ⟨by simp, by simp, ?_, ?_⟩, fun h => by cases h⟩
    · unfold spec_AllSlopeWalks.f
      exact Ev.bind h1 (Ev.neg (by decide) (Ev.now _))
    · unfold impl_AllSlopeWalks.f impl_CountSlopeWalks.f
      refine Ev.bind (a := ((0 : Int), false)) (Ev.bind h2 (Ev.neg (by decide) (Ev.now _))) (Ev.neg (by decide) ?_)
      refine Ev.step (f := fun _ => some ([], false)) (fun k => ?_) (Ev.now _)
      rw [impl_AllSlopeWalks.j0, if_pos rfl]
  | true =>
    have hin := slope_in h
    obtain ⟨n, rfl⟩ := Int.eq_ofNat_of_zero_le (show 0 ≤ a by omega)
    obtain ⟨A, rfl⟩ := Int.eq_ofNat_of_zero_le (show 0 ≤ b by omega)
    have h1 := slIs_ev (n : Int) (A : Int)
    rw [h] at h1
    have e1 : ((n - 1 : Nat) : Int) + 1 = (n : Int) := by omega
    have e2 : ((A - 1 : Nat) : Int) + 1 = (A : Int) := by omega
    have hf := many_fin ⟨n - 1, by omega⟩ ⟨A - 1, by omega⟩
    have hb2 := bnds_fin2 ⟨n - 1, by omega⟩ ⟨A - 1, by omega⟩
    simp only [e1, e2] at hf hb2
    rw [show n - 1 + 1 = n by omega] at hb2
    obtain ⟨hf1, hf2⟩ := hf h
    obtain ⟨c, hc⟩ := Option.ne_none_iff_exists'.1 hf2
    rw [hc, Option.map_some] at hf1
    have hs : Ev (fun k => spec_slWalks.f k (n : Int) (A : Int)) c := Ev.of (k := 60) (fun k => spec_slWalks.mono _ _ k) hc
    have hi : Ev (fun k => impl_CountSlopeWalks.f k (n : Int) (A : Int)) (c, true) := Ev.of (k := 60) (fun k => impl_CountSlopeWalks.mono _ _ k) hf1
    have hB : Bd n A (bnds (n : Int) (A : Int)) := ⟨h, rfl, hb2.1⟩
    by_cases h7 : c > 700
    · refine ⟨[], false, ⟨by simp, by simp, ?_, ?_⟩, fun h => by cases h⟩
      · unfold spec_AllSlopeWalks.f
        exact Ev.bind h1 (Ev.pos rfl (Ev.bind hs (Ev.pos h7 (Ev.now _))))
      · unfold impl_AllSlopeWalks.f
        refine Ev.bind hi (Ev.pos rfl ?_)
        refine Ev.step (f := fun _ => some ([], false)) (fun k => ?_) (Ev.now _)
        rw [decide_eq_true h7, impl_AllSlopeWalks.j0, if_pos rfl]
    · have hl := V_le (bnds (n : Int) (A : Int)) n []
      rw [List.length_nil] at hl
      refine ⟨V (bnds (n : Int) (A : Int)) n [], true, ⟨by omega, fun x hx => by have := V_len _ n [] x hx; rw [List.length_nil] at this; omega, ?_, ?_⟩, fun _ => ⟨n, A, rfl, rfl, h, rfl⟩⟩
      · unfold spec_AllSlopeWalks.f
        have h2 := slAll_ev (n := n) (A := A) (by omega) (by omega) n [] (by simp) (fun x hx => by cases hx)
        rw [good hB n [] (by simp) Gd.nil (fun j hj => absurd hj (Nat.not_lt_zero _))] at h2
        exact Ev.bind h1 (Ev.pos rfl (Ev.bind hs (Ev.neg h7 (Ev.bind h2 (Ev.now _)))))
      · unfold impl_AllSlopeWalks.f
        refine Ev.bind hi (Ev.pos rfl ?_)
        refine Ev.step (f := ?f1) (fun k => ?h1) ?g1
        case h1 => rw [decide_eq_false h7, impl_AllSlopeWalks.j0, if_neg (by decide)]
        refine Ev.bind (bounds_ev h) ?_
        have h2 := l0_ev (bs := bnds (n : Int) (A : Int)) (fun j hj => by have := hB.at j (by rw [← hB.len]; exact hj); omega) (by rw [hB.len]; omega) n 0 [[]] (by rw [hB.len]; omega) (fun p hp => by rw [List.mem_singleton] at hp; rw [hp]; exact ⟨rfl, fun x hx => by cases hx⟩) (by simp)
        rw [bfs_V _ n 0 [[]] (fun p hp => by rw [List.mem_singleton] at hp; rw [hp]; rfl), List.flatMap_cons, List.flatMap_nil, List.append_nil] at h2
        exact h2
theorem both (a b : Int) : ∃ ws ok, ws.length ≤ 1000000 ∧ (∀ x ∈ ws, x.length ≤ 1000) ∧ Ev (fun k => spec_AllSlopeWalks.f k a b) (ws, ok) ∧ Ev (fun k => impl_AllSlopeWalks.f k a b) (ws, ok) := by
  obtain ⟨ws, ok, h, _⟩ := both2 a b
  exact ⟨ws, ok, h⟩
end AllSlopeWalks
theorem FnExactAllSlopeWalks (a b : Int) : ∃ ws ok, ws.length ≤ 1000000 ∧ (∀ x ∈ ws, x.length ≤ 1000) ∧ (∃ k, spec_AllSlopeWalks.f k a b = some (ws, ok)) ∧ (∃ k, impl_AllSlopeWalks.f k a b = some (ws, ok)) := by
  obtain ⟨ws, ok, h1, h2, h3, h4⟩ := AllSlopeWalks.both a b
  exact ⟨ws, ok, h1, h2, Ev.rounds h3, Ev.rounds h4⟩
end Go.Proofs.Ytajcjlflajfdkaa.Pure
