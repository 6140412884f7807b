/- The reference's SlopeAt alone: at each rank it tells a list of the given length. Condition: a slope. -/
import Derived.Test.YtibmphdbkhchdaaPAllx3
import Derived.Test.YtibmphdbkhchdaaPAllx4
import Derived.Test.YtibmphdbkhchdaaBaseN
import Derived.Test.YtibmphdbkhchdaaBaseD
namespace Go.Proofs.Ytibmphdbkhchdaa.Pure
open Go.RowKit Go.Proofs.YtibmphdbkhchdaaW.PrintWords Go.Proofs.YtibmphdbkhchdaaW.PrintLast Go.Proofs.Ytibmphdbkhchdaa.Hand Go.Proofs.Ytibmphdbkhchdaa.PAll Go.Proofs.Ytibmphdbkhchdaa.Plain
set_option linter.unusedVariables false
namespace SpecAt
theorem power_fin : ∀ n : Fin 6, ∀ m : Fin 13, spec_slPower.f 60 ((m.1 : Int) + 1) (n.1 : Int) = some (((m.1 + 1 : Nat) : Int) ^ n.1) := by decide +kernel
theorem first_fin : ∀ n : Fin 6, ∀ m : Fin 13, ((m.1 + 1 : Nat) : Int) ^ n.1 ≤ sways [] ((n.1 : Int) + 1) ((m.1 : Int) + 1) ∨ slope ((n.1 : Int) + 1) ((m.1 : Int) + 1) = false := by decide +kernel
/-- The number of slope parking functions. -/
def all (n a : Int) : Int := a ^ (n - 1).toNat
theorem slPower_ev {n a : Int} (h : slope n a = true) : Ev (fun k => spec_slPower.f k a (n - 1)) (all n a) := by
  have hin := slope_in h
  have e := power_fin ⟨(n - 1).toNat, by omega⟩ ⟨(a - 1).toNat, by omega⟩
  simp only at e
  rw [show (((a - 1).toNat + 1 : Nat) : Int) = a by omega, show (((a - 1).toNat : Nat) : Int) + 1 = a by omega, show (((n - 1).toNat : Nat) : Int) = n - 1 by omega] at e
  exact Ev.of (k := 60) (fun k => spec_slPower.mono _ _ k) e
theorem all_le {n a : Int} (h : slope n a = true) : all n a ≤ sways [] n a := by
  have hin := slope_in h
  have e := first_fin ⟨(n - 1).toNat, by omega⟩ ⟨(a - 1).toNat, by omega⟩
  simp only at e
  rw [show (((a - 1).toNat + 1 : Nat) : Int) = a by omega, show (((a - 1).toNat : Nat) : Int) + 1 = a by omega, show (((n - 1).toNat : Nat) : Int) + 1 = n by omega, h] at e
  rcases e with e | e
  · exact e
  · cases e
theorem all_in {n a : Int} (h : slope n a = true) : 0 ≤ all n a ∧ all n a ≤ 371293 := by
  have hin := slope_in h
  unfold all
  have h0 : ∀ k : Fin 6, ∀ m : Fin 13, (0 : Int) ≤ ((m.1 : Int) + 1) ^ k.1 ∧ ((m.1 : Int) + 1) ^ k.1 ≤ 371293 := by decide +kernel
  have e := h0 ⟨(n - 1).toNat, by omega⟩ ⟨(a - 1).toNat, by omega⟩
  simp only at e
  rwa [show (((a - 1).toNat : Nat) : Int) + 1 = a by omega] at e
/-- The ways to go on from a list, plainly. -/
def own (l : List Int) : Nat → Nat := fun v => (upTo l (v : Int)).toNat
def need (n a : Int) : Nat → Nat := fun v => (upTo (bnds n a) (v : Int)).toNat
theorem sways_eq (l : List Int) {n a : Int} (h : slope n a = true) : sways l n a = (DD (own l) (need n a) (n.toNat - l.length) a.toNat (n.toNat - l.length) : Int) := by
  have hin := slope_in h
  unfold sways
  have e := dp_all (own l) (need n a) (n.toNat - l.length) a.toNat (by omega) (by omega)
  rw [← e]
  have e1 : (fun v : Nat => upTo l (v : Int)) = fun v => (own l v : Int) := by
    funext v
    have := upTo_in l (v : Int)
    unfold own
    omega
  have e2 : (fun v : Nat => upTo (bnds n a) (v : Int)) = fun v => (need n a v : Int) := by
    funext v
    have := upTo_in (bnds n a) (v : Int)
    unfold need
    omega
  rw [e1, e2]
theorem own_more (l : List Int) (x : Nat) : own (l ++ [(x : Int)]) = more (own l) x := by
  funext v
  have h0 := upTo_in l (v : Int)
  show (upTo (l ++ [(x : Int)]) (v : Int)).toNat = (upTo l (v : Int)).toNat + (if x ≤ v then 1 else 0)
  have e : upTo (l ++ [(x : Int)]) (v : Int) = upTo l (v : Int) + (if x ≤ v then (1 : Int) else 0) := by
    unfold upTo
    rw [cntD_snoc]
    by_cases h : x ≤ v
    · rw [if_pos h, if_pos (decide_eq_true (by omega))]
    · rw [if_neg h, if_neg (by rw [decide_eq_false (by omega)]; decide)]
  rw [e]
  split <;> omega
/-- The sum over the next number, from x on. -/
theorem sways_next (l : List Int) {n a : Int} (h : slope n a = true) (hl : (l.length : Int) < n) : sways l n a = (sumTo a.toNat (fun x => (sways (l ++ [(x : Int)]) n a).toNat) : Int) := by
  rw [sways_eq l h]
  obtain ⟨m, hm⟩ : ∃ m, n.toNat - l.length = m + 1 := ⟨n.toNat - l.length - 1, by omega⟩
  rw [hm, DD_next]
  congr 1
  refine sumTo_congr fun x _ => ?_
  rw [sways_eq (l ++ [(x : Int)]) h, own_more, List.length_append, List.length_singleton, show n.toNat - (l.length + 1) = m by omega]
  omega
theorem sways_in (l : List Int) {n a : Int} (h : slope n a = true) : 0 ≤ sways l n a ∧ sways l n a ≤ 7529536 := by
  have hin := slope_in h
  rw [sways_eq l h]
  have h1 := DD_le (need n a) (n.toNat - l.length) (own l) a.toNat (n.toNat - l.length)
  have h2 : (a.toNat + 1) ^ (n.toNat - l.length) ≤ 14 ^ 6 := Nat.le_trans (Nat.pow_le_pow_left (by omega) _) (Nat.pow_le_pow_right (by omega) (by omega))
  have h3 : (14 : Nat) ^ 6 = 7529536 := by decide
  omega
theorem sumTo_from (f : Nat → Nat) : ∀ (A x : Nat), x ≤ A → sumTo A f = sumTo x f + sumTo (A - x) (fun k => f (x + k)) := by
  intro A x
  induction A with
  | zero => intro h; rw [show x = 0 by omega]; rfl
  | succ A ih =>
    intro h
    rcases Nat.lt_or_ge A x with h1 | h1
    · rw [show x = A + 1 by omega, Nat.sub_self]; rfl
    · rw [show A + 1 - x = (A - x) + 1 by omega, sumTo, sumTo, ih h1, show x + (A - x) = A by omega]
      omega
def Low (l : List Int) (a : Int) : Prop := ∀ x ∈ l, 0 ≤ x ∧ x < a
theorem Low.snoc {l : List Int} {a : Int} (h : Low l a) {x : Nat} (hx : (x : Int) < a) : Low (l ++ [(x : Int)]) a := by
  intro y hy
  rw [List.mem_append, List.mem_singleton] at hy
  rcases hy with hy | rfl
  · exact h y hy
  · omega
/-- The search for the next number ends. -/
theorem next_ev {n a : Int} (h : slope n a = true) (l : List Int) (hl : (l.length : Int) < n) (hlow : Low l a)
    (go : ∀ (x : Nat) (r : Int), (x : Int) < a → 0 ≤ r → r < sways (l ++ [(x : Int)]) n a → ∃ s : List Int, Ev (fun k => spec_SlopeAt.l0 k n a r (l ++ [(x : Int)])) (s, true) ∧ (s.length : Int) = n) :
    ∀ (d x : Nat) (r : Int), (x : Int) + (d : Int) = a → 0 ≤ r → r ≤ 7529536 → r < (sumTo d (fun k => (sways (l ++ [((x + k : Nat) : Int)]) n a).toNat) : Int) →
    ∃ s : List Int, Ev (fun k => spec_SlopeAt.l1 k n a r l (x : Int) (sways (l ++ [(x : Int)]) n a)) (s, true) ∧ (s.length : Int) = n := by
  have hin := slope_in h
  intro d
  induction d with
  | zero => intro x r hx h0 hr1 hr; simp only [sumTo] at hr; omega
  | succ d ih =>
    intro x r hx h0 hr1 hr
    have hb := sways_in (l ++ [(x : Int)]) h
    by_cases hlt : r < sways (l ++ [(x : Int)]) n a
    · obtain ⟨s, h1, h3⟩ := go x r (by omega) h0 hlt
      refine ⟨s, ?_, h3⟩
      refine Ev.step (fun k => ?_) h1
      rw [spec_SlopeAt.l1, if_neg (by omega), if_pos (by omega)]
    · rw [sumTo_first] at hr
      simp only [Nat.add_zero] at hr
      have e3 : (sumTo d fun k => (sways (l ++ [((x + (k + 1) : Nat) : Int)]) n a).toNat) = sumTo d fun k => (sways (l ++ [((x + 1 + k : Nat) : Int)]) n a).toNat := sumTo_congr fun k _ => by rw [show x + (k + 1) = x + 1 + k by omega]
      rw [e3] at hr
      have hd : 0 < d := by
        rcases Nat.eq_zero_or_pos d with e | e
        · subst e
          simp only [sumTo] at hr
          omega
        · exact e
      obtain ⟨s, h1, h3⟩ := ih (x + 1) (r - sways (l ++ [(x : Int)]) n a) (by omega) (by omega) (by omega) (by omega)
      have hw := slWays_ev (l ++ [((x + 1 : Nat) : Int)]) h (by simp; omega) (hlow.snoc (by omega))
      refine ⟨s, ?_, h3⟩
      refine Ev.step (f := ?f2) (fun k => ?h2) ?g2
      case h2 => rw [spec_SlopeAt.l1, if_pos (by omega), l1Own_eq l (by omega), Option.bind_some, if_pos (by omega), wrap_succ x (by omega), wrap64_in _ (by omega) (by omega)]
      exact Ev.bind hw h1
theorem walk_ev {n a : Int} (h : slope n a = true) : ∀ (m : Nat) (l : List Int) (r : Int), (l.length : Int) + (m : Int) = n → Low l a → 0 ≤ r → r < sways l n a →
    ∃ s : List Int, Ev (fun k => spec_SlopeAt.l0 k n a r l) (s, true) ∧ (s.length : Int) = n := by
  have hin := slope_in h
  intro m
  induction m with
  | zero =>
    intro l r hl hlow h0 hr
    refine ⟨l, Ev.step (f := fun _ => some (l, true)) (fun k => ?_) (Ev.now _), by omega⟩
    rw [spec_SlopeAt.l0, if_neg (by omega)]
  | succ m ih =>
    intro l r hl hlow h0 hr
    have hb := sways_in l h
    have hr1 : r ≤ 7529536 := by omega
    rw [sways_next l h (by omega)] at hr
    have e : (sumTo a.toNat fun k => (sways (l ++ [((0 + k : Nat) : Int)]) n a).toNat) = sumTo a.toNat fun x => (sways (l ++ [(x : Int)]) n a).toNat := sumTo_congr fun k _ => by rw [Nat.zero_add]
    rw [← e] at hr
    obtain ⟨s, h1, h3⟩ := next_ev h l (by omega) hlow (fun x r hx h0 hr => ih (l ++ [(x : Int)]) r (by simp; omega) (hlow.snoc hx) h0 hr) a.toNat 0 r (by omega) h0 hr1 hr
    have hw := slWays_ev (l ++ [((0 : Nat) : Int)]) h (by simp; omega) (hlow.snoc (by omega))
    refine ⟨s, ?_, h3⟩
    refine Ev.step (f := ?f2) (fun k => ?h2) ?g2
    case h2 => rw [spec_SlopeAt.l0, if_pos (by omega), l1Own_eq l (by omega), Option.bind_some, if_pos (by omega)]
    exact Ev.bind hw h1
theorem at_ev {n a : Int} (h : slope n a = true) (r : Int) (h0 : 0 ≤ r) (hr : r < all n a) : ∃ s : List Int, Ev (fun k => spec_SlopeAt.f k n a r) (s, true) ∧ (s.length : Int) = n := by
  have hin := slope_in h
  have hall := all_in h
  have h1 := slIs_ev n a
  rw [h] at h1
  obtain ⟨s, hs1, hs3⟩ := walk_ev h n.toNat [] r (by simp; omega) (fun x hx => by cases hx) h0 (by have := all_le h; omega)
  refine ⟨s, ?_, hs3⟩
  unfold spec_SlopeAt.f
  rw [wrap64_in (n - 1) (by omega) (by omega)]
  refine Ev.bind h1 (Ev.pos rfl (Ev.bind (slPower_ev h) ?_))
  rw [wrap64_in (all n a - 1) (by omega) (by omega)]
  refine Ev.bindc (l1In_eq _ _ _) ?_
  rw [decide_eq_true (by omega)]
  refine Ev.step (f := ?f1) (fun k => ?h1) ?g1
  case h1 => rw [spec_SlopeAt.j0, if_neg (by decide)]
  exact hs1
end SpecAt
end Go.Proofs.Ytibmphdbkhchdaa.Pure
