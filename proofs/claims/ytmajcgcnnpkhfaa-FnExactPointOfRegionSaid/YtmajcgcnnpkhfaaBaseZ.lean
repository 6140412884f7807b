/- Regions: what the program's and the reference's tests of a region come to. No condition beside what each theorem states. -/
import Derived.Test.YtmajcgcnnpkhfaaPAllx5
import Derived.Test.YtmajcgcnnpkhfaaPAllx6
import Derived.Test.YtmajcgcnnpkhfaaBaseO
import Derived.Test.YtmajcgcnnpkhfaaBaseM
namespace Go.Proofs.Ytmajcgcnnpkhfaa.Plain
open Go.RowKit Go.Proofs.YtmajcgcnnpkhfaaW.PrintWords Go.Proofs.YtmajcgcnnpkhfaaW.PrintLast Go.Proofs.Ytmajcgcnnpkhfaa.Hand Go.Proofs.Ytmajcgcnnpkhfaa.PAll
set_option linter.unusedVariables false
/-- From place n on, the last number being told: each number of f is from the last one to its place, and where it grows a less index stands ahead. -/
def regGo (o f : List Int) : Nat → Nat → Int → Bool
  | 0, _, _ => true
  | d + 1, n, last => if last ≤ rd f n ∧ rd f n ≤ n then (if rd f n > last then (if rd o (rd f n - 1) > rd o n then false else regGo o f d (n + 1) (rd f n)) else regGo o f d (n + 1) (rd f n)) else false
/-- A region. -/
def reg (o f : List Int) : Bool := order o && decide (f.length = o.length) && regGo o f f.length 0 0
theorem reg_len {o f : List Int} (h : reg o f = true) : o.length ≤ 8 ∧ f.length = o.length := by
  unfold reg at h
  rw [Bool.and_eq_true, Bool.and_eq_true, decide_eq_true_eq] at h
  exact ⟨order_length h.1.1, h.1.2⟩
theorem reg_order {o f : List Int} (h : reg o f = true) : order o = true := by
  unfold reg at h
  rw [Bool.and_eq_true, Bool.and_eq_true] at h
  exact h.1.1
theorem reg_go {o f : List Int} (h : reg o f = true) : regGo o f f.length 0 0 = true := by
  unfold reg at h
  rw [Bool.and_eq_true] at h
  exact h.2
theorem regGo_in (o f : List Int) : ∀ (d n : Nat) (last : Int), 0 ≤ last → regGo o f d n last = true → ∀ m : Nat, n ≤ m → m < n + d → (0 ≤ rd f m ∧ rd f m ≤ m ∧ last ≤ rd f m) := by
  intro d
  induction d with
  | zero => intro n last _ _ m h1 h2; omega
  | succ d ih =>
    intro n last h0 h m h1 h2
    rw [regGo] at h
    by_cases hc : last ≤ rd f n ∧ rd f n ≤ n
    · rw [if_pos hc] at h
      by_cases e : m = n
      · subst e
        exact ⟨by omega, hc.2, hc.1⟩
      · have h3 : regGo o f d (n + 1) (rd f n) = true := by
          split at h
          · split at h
            · cases h
            · exact h
          · exact h
        have := ih (n + 1) (rd f n) (by omega) h3 m (by omega) (by omega)
        exact ⟨this.1, this.2.1, by omega⟩
    · rw [if_neg hc] at h
      cases h
theorem regGo_mono (o f : List Int) : ∀ (d n : Nat) (last : Int), 0 ≤ last → regGo o f d n last = true → ∀ m m2 : Nat, n ≤ m → m ≤ m2 → m2 < n + d → rd f m ≤ rd f m2 := by
  intro d
  induction d with
  | zero => intro n last _ _ m m2 h1 h2 h3; omega
  | succ d ih =>
    intro n last h0 h m m2 h1 h2 h3
    have hin := regGo_in o f (d + 1) n last h0 h
    rw [regGo] at h
    by_cases hc : last ≤ rd f n ∧ rd f n ≤ n
    · rw [if_pos hc] at h
      have h4 : regGo o f d (n + 1) (rd f n) = true := by
        split at h
        · split at h
          · cases h
          · exact h
        · exact h
      by_cases e : m = n
      · subst e
        by_cases e2 : m2 = m
        · subst e2; exact Int.le_refl _
        · exact (regGo_in o f d (m + 1) (rd f m) (by omega) h4 m2 (by omega) (by omega)).2.2
      · exact ih (n + 1) (rd f n) (by omega) h4 m m2 (by omega) h2 (by omega)
    · rw [if_neg hc] at h
      cases h
theorem reg_far {o f : List Int} (h : reg o f = true) (m : Nat) (hm : m < f.length) : 0 ≤ rd f m ∧ rd f m ≤ m := by
  have := regGo_in o f f.length 0 0 (Int.le_refl _) (reg_go h) m (by omega) (by omega)
  exact ⟨this.1, this.2.1⟩
theorem reg_mono {o f : List Int} (h : reg o f = true) (m m2 : Nat) (h1 : m ≤ m2) (h2 : m2 < f.length) : rd f m ≤ rd f m2 :=
  regGo_mono o f f.length 0 0 (Int.le_refl _) (reg_go h) m m2 (by omega) h1 (by omega)
theorem reGood_l0 (o f : List Int) (hl : f.length = o.length) (h8 : o.length ≤ 8) : ∀ (d n : Nat) (last : Int), n + d = f.length → 0 ≤ last → last ≤ n →
    Ev (fun k => spec_reGood.l0 k last f (f.length : Int) (n : Int) o f) (regGo o f d n last) := by
  intro d
  induction d with
  | zero =>
    intro n last hn h0 h1
    refine Ev.step (f := fun _ => some true) (fun k => ?_) (Ev.now _)
    rw [spec_reGood.l0, if_neg (by omega)]
  | succ d ih =>
    intro n last hn h0 h1
    rw [regGo]
    have e1 : spec_l1In.f (rd f n) last n = some (decide (last ≤ rd f n ∧ rd f n ≤ n)) := l1In_eq _ _ _
    by_cases hc : last ≤ rd f n ∧ rd f n ≤ n
    · rw [if_pos hc]
      rw [decide_eq_true hc] at e1
      by_cases hg : rd f n > last
      · rw [if_pos hg]
        by_cases ho : rd o (rd f n - 1) > rd o n
        · rw [if_pos ho]
          refine Ev.step (f := fun _ => some false) (fun k => ?_) (Ev.now _)
          rw [spec_reGood.l0, if_pos (by omega), if_pos (by omega), if_pos (by omega), e1, Option.bind_some, if_pos rfl, if_pos hg, wrap64_in (rd f n - 1) (by omega) (by omega), if_pos (by omega), if_pos (by omega), if_pos (by omega), if_pos ho]
        · rw [if_neg ho]
          refine Ev.step (fun k => ?_) (ih (n + 1) (rd f n) (by omega) (by omega) (by omega))
          rw [spec_reGood.l0, if_pos (by omega), if_pos (by omega), if_pos (by omega), e1, Option.bind_some, if_pos rfl, if_pos hg, wrap64_in (rd f n - 1) (by omega) (by omega), if_pos (by omega), if_pos (by omega), if_pos (by omega), if_neg ho, wrap_succ n (by omega)]
      · rw [if_neg hg]
        refine Ev.step (fun k => ?_) (ih (n + 1) (rd f n) (by omega) (by omega) (by omega))
        rw [spec_reGood.l0, if_pos (by omega), if_pos (by omega), if_pos (by omega), e1, Option.bind_some, if_pos rfl, if_neg hg, wrap_succ n (by omega)]
    · rw [if_neg hc]
      rw [decide_eq_false hc] at e1
      refine Ev.step (f := fun _ => some false) (fun k => ?_) (Ev.now _)
      rw [spec_reGood.l0, if_pos (by omega), if_pos (by omega), if_pos (by omega), e1, Option.bind_some, if_neg (by decide)]
theorem isRegion_l0 (o f : List Int) (hl : f.length = o.length) (h8 : o.length ≤ 8) : ∀ (d n : Nat) (last : Int), n + d = f.length → 0 ≤ last → last ≤ n →
    Ev (fun k => impl_isRegion.l0 k last f (f.length : Int) (n : Int) o f) (regGo o f d n last) := by
  intro d
  induction d with
  | zero =>
    intro n last hn h0 h1
    refine Ev.step (f := fun _ => some true) (fun k => ?_) (Ev.now _)
    rw [impl_isRegion.l0, if_neg (by omega)]
  | succ d ih =>
    intro n last hn h0 h1
    rw [regGo]
    by_cases hc : last ≤ rd f n ∧ rd f n ≤ n
    · rw [if_pos hc]
      by_cases hg : rd f n > last
      · rw [if_pos hg]
        by_cases ho : rd o (rd f n - 1) > rd o n
        · rw [if_pos ho]
          refine Ev.step (f := fun _ => some false) (fun k => ?_) (Ev.now _)
          rw [impl_isRegion.l0, if_pos (by omega), if_pos (by omega), if_pos (by omega), if_neg (by omega), if_neg (by omega), if_pos hg, wrap64_in (rd f n - 1) (by omega) (by omega), if_pos (by omega), if_pos (by omega), if_pos (by omega), if_pos ho]
        · rw [if_neg ho]
          refine Ev.step (fun k => ?_) (ih (n + 1) (rd f n) (by omega) (by omega) (by omega))
          rw [impl_isRegion.l0, if_pos (by omega), if_pos (by omega), if_pos (by omega), if_neg (by omega), if_neg (by omega), if_pos hg, wrap64_in (rd f n - 1) (by omega) (by omega), if_pos (by omega), if_pos (by omega), if_pos (by omega), if_neg ho, wrap_succ n (by omega)]
      · rw [if_neg hg]
        refine Ev.step (fun k => ?_) (ih (n + 1) (rd f n) (by omega) (by omega) (by omega))
        rw [impl_isRegion.l0, if_pos (by omega), if_pos (by omega), if_pos (by omega), if_neg (by omega), if_neg (by omega), if_neg hg, wrap_succ n (by omega)]
    · rw [if_neg hc]
      refine Ev.step (f := fun _ => some false) (fun k => ?_) (Ev.now _)
      rw [impl_isRegion.l0, if_pos (by omega), if_pos (by omega), if_pos (by omega)]
      by_cases h2 : rd f n < last
      · rw [if_pos h2]
      · rw [if_neg h2, if_pos (by omega)]
theorem reGood_ev (o f : List Int) : Ev (fun k => spec_reGood.f k o f) (reg o f) := by
  unfold spec_reGood.f reg
  refine Ev.bind (reOrder_ev o) ?_
  cases h : order o with
  | false =>
    refine Ev.neg (by decide) (Ev.step (f := fun _ => some false) (fun k => ?_) (Ev.const (by simp)))
    rw [spec_reGood.j0, if_pos rfl]
  | true =>
    have h8 := order_length h
    refine Ev.pos rfl ?_
    by_cases hl : f.length = o.length
    · rw [decide_eq_true hl]
      refine Ev.step (f := ?f1) (fun k => ?h1) ?g1
      case h1 => rw [spec_reGood.j0, if_neg (by simp; omega)]
      exact reGood_l0 o f hl h8 f.length 0 0 (by omega) (Int.le_refl _) (Int.le_refl _)
    · rw [decide_eq_false hl]
      refine Ev.step (f := fun _ => some false) (fun k => ?_) (Ev.const (by simp))
      rw [spec_reGood.j0, if_pos (by simp; omega)]
theorem isRegion_ev (o f : List Int) (hs : o.length ≤ 1099511627776) : Ev (fun k => impl_isRegion.f k o f) (reg o f) := by
  unfold impl_isRegion.f reg
  refine Ev.bind (isOrder_ev o hs) ?_
  cases h : order o with
  | false =>
    refine Ev.neg (by decide) (Ev.step (f := fun _ => some false) (fun k => ?_) (Ev.const (by simp)))
    rw [impl_isRegion.j0, if_pos rfl]
  | true =>
    have h8 := order_length h
    refine Ev.pos rfl ?_
    by_cases hl : f.length = o.length
    · rw [decide_eq_true hl]
      refine Ev.step (f := ?f1) (fun k => ?h1) ?g1
      case h1 => rw [impl_isRegion.j0, if_neg (by simp; omega)]
      exact isRegion_l0 o f hl h8 f.length 0 0 (by omega) (Int.le_refl _) (Int.le_refl _)
    · rw [decide_eq_false hl]
      refine Ev.step (f := fun _ => some false) (fun k => ?_) (Ev.const (by simp))
      rw [impl_isRegion.j0, if_pos (by simp; omega)]
/-! ### the laws' helpers for regions -/
theorem toRegion_ev (o f : List Int) (h1 : o.length ≤ 1099511627776) (h2 : f.length ≤ 1099511627776) : Ev (fun k => laws_toRegion.f k o f) (o, f) := by
  unfold laws_toRegion.f
  exact Ev.bind (toIntS_ev o h1) (Ev.bind (toIntS_ev f h2) (Ev.now _))
theorem eqRegion_same (o f : List Int) (h1 : o.length ≤ 1099511627776) (h2 : f.length ≤ 1099511627776) : Ev (fun k => laws_eqRegion.f k o f o f) true := by
  unfold laws_eqRegion.f
  exact Ev.bind (eqIntS_same o h1) (Ev.pos rfl (Ev.bind (eqIntS_same f h2) (Ev.pos rfl (Ev.now _))))
theorem markRegion_ev (o f : List Int) (h1 : o.length ≤ 1099511627) (h2 : f.length ≤ 1099511627) : Ev (fun k => laws_markRegion.f k o f 1) (1 + (o.length : Int) + (f.length : Int), iota 1 o.length, iota (1 + (o.length : Int)) f.length) := by
  unfold laws_markRegion.f
  exact Ev.bind (markIntS_ev o 1 (by omega) (by omega) (by omega)) (Ev.bind (markIntS_ev f _ (by dsimp only; omega) (by dsimp only; omega) (by omega)) (Ev.now _))
theorem szRegion_eq (o f : List Int) (h1 : o.length ≤ maxLen) (h2 : f.length ≤ maxLen) : ∃ r, laws_szRegion.f o f 1048576 = some r ∧ (0 ≤ r → o.length + f.length ≤ 1048576) := by
  unfold maxLen at h1 h2
  unfold laws_szRegion.f laws_szIntS.f
  rw [wrap64_in _ (by omega) (by omega)]
  by_cases a : (1048576 : Int) - (o.length : Int) < 0
  · rw [if_pos a, Option.bind_some, if_pos (by decide)]
    exact ⟨_, rfl, fun h => by omega⟩
  · rw [if_neg a, Option.bind_some, if_neg a, wrap64_in _ (by omega) (by omega)]
    by_cases b : (1048576 : Int) - (o.length : Int) - (f.length : Int) < 0
    · rw [if_pos b, Option.bind_some, if_pos (by decide)]
      exact ⟨_, rfl, fun h => by omega⟩
    · rw [if_neg b, Option.bind_some, if_neg b]
      exact ⟨_, rfl, fun h => by omega⟩
end Go.Proofs.Ytmajcgcnnpkhfaa.Plain
