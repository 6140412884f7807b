/- Orders: what the program's and the reference's tests of an order of cars come to. No condition. -/
import Derived.Test.YtgfcnfbbiaeboaaGreatPAllx2
import Derived.Test.YtgfcnfbbiaeboaaGreatPAllx5
import Derived.Test.YtgfcnfbbiaeboaaGreatPAllx6
import Derived.Test.YtgfcnfbbiaeboaaGreatBaseX
import Derived.Test.YtgfcnfbbiaeboaaGreatHandE
import Derived.Test.YtgfcnfbbiaeboaaGreatBaseH
namespace Go.Proofs.YtgfcnfbbiaeboaaGreat.Plain
open Go.RowKit Go.Proofs.YtgfcnfbbiaeboaaGreatW.PrintWords Go.Proofs.YtgfcnfbbiaeboaaGreatW.PrintLast Go.Proofs.YtgfcnfbbiaeboaaGreat.Hand Go.Proofs.YtgfcnfbbiaeboaaGreat.PAll
set_option linter.unusedVariables false
theorem sorted_eq (l : List Int) (hs : l.length ≤ 1099511627776) : impl_sorted.f l = some (srt l) := by
  unfold impl_sorted.f
  rw [if_pos hs]
  rfl
/-- An order of cars. -/
def order (l : List Int) : Bool := decide (srt l = iota 0 l.length) && decide (l.length ≤ 8)
theorem order_iff (l : List Int) : srt l = iota 0 l.length ↔ l.Nodup ∧ ∀ x ∈ l, 0 ≤ x ∧ x < (l.length : Int) := by
  constructor
  · intro h
    have hp : l.Perm (iota 0 l.length) := by rw [← h]; exact (srt_perm l).symm
    exact ⟨(hp.nodup_iff).2 (iota_nodup _), fun x hx => (iota_mem _ x).1 (hp.mem_iff.1 hx)⟩
  · rintro ⟨hn, hb⟩
    have hp : l.Perm (iota 0 l.length) := nodup_perm l _ hn (fun x hx => (iota_mem _ x).2 (hb x hx)) (by rw [iota_length]; exact Nat.le_refl _)
    exact (srt_unique hp.symm (iota_sorted _)).symm
theorem isOrder_l0 (l xs : List Int) (hs : xs.length ≤ 1099511627776) : ∀ (d n : Nat), n + d = xs.length →
    Ev (fun k => impl_isOrder.l0 k l xs (xs.length : Int) (n : Int)) (decide (xs.drop n = (iota 0 xs.length).drop n) && decide ((l.length : Int) ≤ 8)) := by
  intro d
  induction d with
  | zero =>
    intro n hn
    refine Ev.step (f := fun _ => some (decide ((l.length : Int) ≤ 8))) (fun k => ?_) (Ev.const ?_)
    · rw [impl_isOrder.l0, if_neg (by omega)]
    · rw [List.drop_eq_nil_of_le (by omega), List.drop_eq_nil_of_le (by rw [iota_length]; omega)]
      simp
  | succ d ih =>
    intro n hn
    have h1 : n < xs.length := by omega
    have h2 : n < (iota 0 xs.length).length := by rw [iota_length]; omega
    rw [List.drop_eq_getElem_cons h1, List.drop_eq_getElem_cons h2, cons_eq, iota_get]
    by_cases hx : xs[n] = 0 + (n : Int)
    · rw [decide_eq_true hx, Bool.true_and]
      refine Ev.step (fun k => ?_) (ih (n + 1) (by omega))
      rw [impl_isOrder.l0, if_pos (by omega), if_pos (by omega), if_pos (by omega), rd_nat xs n h1, if_pos (by omega), wrap_succ n (by omega)]
    · rw [decide_eq_false hx, Bool.false_and, Bool.false_and]
      refine Ev.step (f := fun _ => some false) (fun k => ?_) (Ev.now _)
      rw [impl_isOrder.l0, if_pos (by omega), if_pos (by omega), if_pos (by omega), rd_nat xs n h1, if_neg (by omega)]
theorem isOrder_ev (l : List Int) (hs : l.length ≤ 1099511627776) : Ev (fun k => impl_isOrder.f k l) (order l) := by
  unfold impl_isOrder.f order
  refine Ev.bindc (sorted_eq l hs) ?_
  have h := isOrder_l0 l (srt l) (by rw [srt_length]; omega) (srt l).length 0 (by omega)
  rw [List.drop_zero, List.drop_zero, srt_length] at h
  have e : decide ((l.length : Int) ≤ 8) = decide (l.length ≤ 8) := by
    by_cases h8 : l.length ≤ 8
    · rw [decide_eq_true h8, decide_eq_true (by omega)]
    · rw [decide_eq_false h8, decide_eq_false (by omega)]
  rw [e] at h
  rw [srt_length]
  exact h
/-- No number stands twice, from place n on. -/
theorem reOrder_l0 (l : List Int) (hs : l.length ≤ 1099511627776) : ∀ (d n : Nat), n + d = l.length → (l.take n).Nodup →
    Ev (fun k => spec_reOrder.l0 k l l (l.length : Int) (n : Int)) (decide l.Nodup) := by
  intro d
  induction d with
  | zero =>
    intro n hn hd
    rw [List.take_of_length_le (by omega)] at hd
    refine Ev.step (f := fun _ => some true) (fun k => ?_) (Ev.const (by rw [decide_eq_true hd]))
    rw [spec_reOrder.l0, if_neg (by omega)]
  | succ d ih =>
    intro n hn hd
    have h1 : n < l.length := by omega
    have e : l.take (n + 1) = l.take n ++ [l[n]] := List.take_succ_eq_append_getElem h1
    refine Ev.step (f := ?f1) (fun k => ?h1) ?g1
    case h1 => rw [spec_reOrder.l0, if_pos (by omega), if_pos (by omega), if_pos (by omega), if_pos (by omega), Int.toNat_natCast, rd_nat l n h1]
    refine Ev.bind (l1Has_ev (l.take n) l[n] (by simp; omega)) ?_
    by_cases hm : l[n] ∈ l.take n
    · rw [decide_eq_true hm]
      have hnd : ¬ l.Nodup := by
        intro h2
        have h3 : (l.take (n + 1)).Nodup := h2.sublist (List.take_sublist _ _)
        rw [e, List.nodup_append] at h3
        exact h3.2.2 _ hm _ List.mem_cons_self rfl
      rw [decide_eq_false hnd]
      exact Ev.pos rfl (Ev.now _)
    · rw [decide_eq_false hm, wrap_succ n (by omega)]
      refine Ev.neg (by decide) (ih (n + 1) (by omega) ?_)
      rw [e, List.nodup_append]
      refine ⟨hd, by simp, fun x hx y hy => ?_⟩
      rw [List.mem_singleton] at hy
      subst hy
      exact fun e2 => hm (e2 ▸ hx)
theorem reOrder_ev (l : List Int) : Ev (fun k => spec_reOrder.f k l) (order l) := by
  unfold spec_reOrder.f order
  by_cases h8 : l.length ≤ 8
  · rw [decide_eq_true h8, Bool.and_true]
    refine Ev.neg (by omega) ?_
    rw [wrap64_in _ (by omega) (by omega)]
    refine Ev.bind (l1All_ev l 0 ((l.length : Int) - 1) (by omega)) ?_
    cases h2 : (l.all fun x => decide (0 ≤ x ∧ x ≤ (l.length : Int) - 1)) with
    | false =>
      have hn : ¬ srt l = iota 0 l.length := by
        intro h3
        rw [order_iff] at h3
        rw [List.all_eq_false] at h2
        obtain ⟨x, hx, hc⟩ := h2
        have := h3.2 x hx
        exact hc (decide_eq_true (by omega))
      rw [decide_eq_false hn]
      refine Ev.step (f := fun _ => some false) (fun k => ?_) (Ev.now _)
      rw [spec_reOrder.j0, if_pos (by decide)]
    | true =>
      have e : decide (srt l = iota 0 l.length) = decide l.Nodup := by
        refine decide_eq_decide.2 ((order_iff l).trans ⟨fun h => h.1, fun h => ⟨h, fun x hx => ?_⟩⟩)
        have := of_decide_eq_true (List.all_eq_true.1 h2 x hx)
        omega
      rw [e]
      refine Ev.step (f := ?f1) (fun k => ?h1) ?g1
      case h1 => rw [spec_reOrder.j0, if_neg (by decide)]
      exact reOrder_l0 l (by omega) l.length 0 (by omega) (by simp)
  · rw [decide_eq_false h8, Bool.and_false]
    refine Ev.pos (by omega) (Ev.step (f := fun _ => some false) (fun k => ?_) (Ev.now _))
    rw [spec_reOrder.j0, if_pos rfl]
theorem order_length {l : List Int} (h : order l = true) : l.length ≤ 8 := by
  unfold order at h
  rw [Bool.and_eq_true, decide_eq_true_eq, decide_eq_true_eq] at h
  exact h.2
theorem order_in {l : List Int} (h : order l = true) : ∀ x ∈ l, 0 ≤ x ∧ x < (l.length : Int) := by
  unfold order at h
  rw [Bool.and_eq_true, decide_eq_true_eq, decide_eq_true_eq] at h
  exact ((order_iff l).1 h.1).2
end Go.Proofs.YtgfcnfbbiaeboaaGreat.Plain
/- Regions: what the program's and the reference's tests of a region come to. No condition beside what each theorem states. -/
namespace Go.Proofs.YtgfcnfbbiaeboaaGreat.Plain
open Go.RowKit Go.Proofs.YtgfcnfbbiaeboaaGreatW.PrintWords Go.Proofs.YtgfcnfbbiaeboaaGreatW.PrintLast Go.Proofs.YtgfcnfbbiaeboaaGreat.Hand Go.Proofs.YtgfcnfbbiaeboaaGreat.PAll
set_option linter.unusedVariables false
/-- From place n on, the last number being told: each number of f is from the last one to its place, and where it grows a less index stands ahead. -/
def regGo (o f : List Int) : Nat → Nat → Int → Bool
  | 0, _, _ => true
  | d + 1, n, last => if last ≤ rd f n ∧ rd f n ≤ n then (if rd f n > last then (if rd o (rd f n - 1) > rd o n then false else regGo o f d (n + 1) (rd f n)) else regGo o f d (n + 1) (rd f n)) else false
/-- A region. -/
def reg (o f : List Int) : Bool := order o && decide (f.length = o.length) && regGo o f f.length 0 0
theorem reg_len {o f : List Int} (h : reg o f = true) : o.length ≤ 8 ∧ f.length = o.length := by
  unfold reg at h
  rw [Bool.and_eq_true, Bool.and_eq_true, decide_eq_true_eq] at h
  exact ⟨order_length h.1.1, h.1.2⟩
theorem reg_order {o f : List Int} (h : reg o f = true) : order o = true := by
  unfold reg at h
  rw [Bool.and_eq_true, Bool.and_eq_true] at h
  exact h.1.1
theorem reg_go {o f : List Int} (h : reg o f = true) : regGo o f f.length 0 0 = true := by
  unfold reg at h
  rw [Bool.and_eq_true] at h
  exact h.2
theorem regGo_in (o f : List Int) : ∀ (d n : Nat) (last : Int), 0 ≤ last → regGo o f d n last = true → ∀ m : Nat, n ≤ m → m < n + d → (0 ≤ rd f m ∧ rd f m ≤ m ∧ last ≤ rd f m) := by
  intro d
  induction d with
  | zero => intro n last _ _ m h1 h2; omega
  | succ d ih =>
    intro n last h0 h m h1 h2
    rw [regGo] at h
    by_cases hc : last ≤ rd f n ∧ rd f n ≤ n
    · rw [if_pos hc] at h
      by_cases e : m = n
      · subst e
        exact ⟨by omega, hc.2, hc.1⟩
      · have h3 : regGo o f d (n + 1) (rd f n) = true := by
          split at h
          · split at h
            · cases h
            · exact h
          · exact h
        have := ih (n + 1) (rd f n) (by omega) h3 m (by omega) (by omega)
        exact ⟨this.1, this.2.1, by omega⟩
    · rw [if_neg hc] at h
      cases h
theorem regGo_mono (o f : List Int) : ∀ (d n : Nat) (last : Int), 0 ≤ last → regGo o f d n last = true → ∀ m m2 : Nat, n ≤ m → m ≤ m2 → m2 < n + d → rd f m ≤ rd f m2 := by
  intro d
  induction d with
  | zero => intro n last _ _ m m2 h1 h2 h3; omega
  | succ d ih =>
    intro n last h0 h m m2 h1 h2 h3
    have hin := regGo_in o f (d + 1) n last h0 h
    rw [regGo] at h
    by_cases hc : last ≤ rd f n ∧ rd f n ≤ n
    · rw [if_pos hc] at h
      have h4 : regGo o f d (n + 1) (rd f n) = true := by
        split at h
        · split at h
          · cases h
          · exact h
        · exact h
      by_cases e : m = n
      · subst e
        by_cases e2 : m2 = m
        · subst e2; exact Int.le_refl _
        · exact (regGo_in o f d (m + 1) (rd f m) (by omega) h4 m2 (by omega) (by omega)).2.2
      · exact ih (n + 1) (rd f n) (by omega) h4 m m2 (by omega) h2 (by omega)
    · rw [if_neg hc] at h
      cases h
theorem reg_far {o f : List Int} (h : reg o f = true) (m : Nat) (hm : m < f.length) : 0 ≤ rd f m ∧ rd f m ≤ m := by
  have := regGo_in o f f.length 0 0 (Int.le_refl _) (reg_go h) m (by omega) (by omega)
  exact ⟨this.1, this.2.1⟩
theorem reg_mono {o f : List Int} (h : reg o f = true) (m m2 : Nat) (h1 : m ≤ m2) (h2 : m2 < f.length) : rd f m ≤ rd f m2 :=
  regGo_mono o f f.length 0 0 (Int.le_refl _) (reg_go h) m m2 (by omega) h1 (by omega)
theorem reGood_l0 (o f : List Int) (hl : f.length = o.length) (h8 : o.length ≤ 8) : ∀ (d n : Nat) (last : Int), n + d = f.length → 0 ≤ last → last ≤ n →
    Ev (fun k => spec_reGood.l0 k last f (f.length : Int) (n : Int) o f) (regGo o f d n last) := by
  intro d
  induction d with
  | zero =>
    intro n last hn h0 h1
    refine Ev.step (f := fun _ => some true) (fun k => ?_) (Ev.now _)
    rw [spec_reGood.l0, if_neg (by omega)]
  | succ d ih =>
    intro n last hn h0 h1
    rw [regGo]
    have e1 : spec_l1In.f (rd f n) last n = some (decide (last ≤ rd f n ∧ rd f n ≤ n)) := l1In_eq _ _ _
    by_cases hc : last ≤ rd f n ∧ rd f n ≤ n
    · rw [if_pos hc]
      rw [decide_eq_true hc] at e1
      by_cases hg : rd f n > last
      · rw [if_pos hg]
        by_cases ho : rd o (rd f n - 1) > rd o n
        · rw [if_pos ho]
          refine Ev.step (f := fun _ => some false) (fun k => ?_) (Ev.now _)
          rw [spec_reGood.l0, if_pos (by omega), if_pos (by omega), if_pos (by omega), e1, Option.bind_some, if_pos rfl, if_pos hg, wrap64_in (rd f n - 1) (by omega) (by omega), if_pos (by omega), if_pos (by omega), if_pos (by omega), if_pos ho]
        · rw [if_neg ho]
          refine Ev.step (fun k => ?_) (ih (n + 1) (rd f n) (by omega) (by omega) (by omega))
          rw [spec_reGood.l0, if_pos (by omega), if_pos (by omega), if_pos (by omega), e1, Option.bind_some, if_pos rfl, if_pos hg, wrap64_in (rd f n - 1) (by omega) (by omega), if_pos (by omega), if_pos (by omega), if_pos (by omega), if_neg ho, wrap_succ n (by omega)]
      · rw [if_neg hg]
        refine Ev.step (fun k => ?_) (ih (n + 1) (rd f n) (by omega) (by omega) (by omega))
        rw [spec_reGood.l0, if_pos (by omega), if_pos (by omega), if_pos (by omega), e1, Option.bind_some, if_pos rfl, if_neg hg, wrap_succ n (by omega)]
    · rw [if_neg hc]
      rw [decide_eq_false hc] at e1
      refine Ev.step (f := fun _ => some false) (fun k => ?_) (Ev.now _)
      rw [spec_reGood.l0, if_pos (by omega), if_pos (by omega), if_pos (by omega), e1, Option.bind_some, if_neg (by decide)]
theorem isRegion_l0 (o f : List Int) (hl : f.length = o.length) (h8 : o.length ≤ 8) : ∀ (d n : Nat) (last : Int), n + d = f.length → 0 ≤ last → last ≤ n →
    Ev (fun k => impl_isRegion.l0 k last f (f.length : Int) (n : Int) o f) (regGo o f d n last) := by
  intro d
  induction d with
  | zero =>
    intro n last hn h0 h1
    refine Ev.step (f := fun _ => some true) (fun k => ?_) (Ev.now _)
    rw [impl_isRegion.l0, if_neg (by omega)]
  | succ d ih =>
    intro n last hn h0 h1
    rw [regGo]
    by_cases hc : last ≤ rd f n ∧ rd f n ≤ n
    · rw [if_pos hc]
      by_cases hg : rd f n > last
      · rw [if_pos hg]
        by_cases ho : rd o (rd f n - 1) > rd o n
        · rw [if_pos ho]
          refine Ev.step (f := fun _ => some false) (fun k => ?_) (Ev.now _)
          rw [impl_isRegion.l0, if_pos (by omega), if_pos (by omega), if_pos (by omega), if_neg (by omega), if_neg (by omega), if_pos hg, wrap64_in (rd f n - 1) (by omega) (by omega), if_pos (by omega), if_pos (by omega), if_pos (by omega), if_pos ho]
        · rw [if_neg ho]
          refine Ev.step (fun k => ?_) (ih (n + 1) (rd f n) (by omega) (by omega) (by omega))
          rw [impl_isRegion.l0, if_pos (by omega), if_pos (by omega), if_pos (by omega), if_neg (by omega), if_neg (by omega), if_pos hg, wrap64_in (rd f n - 1) (by omega) (by omega), if_pos (by omega), if_pos (by omega), if_pos (by omega), if_neg ho, wrap_succ n (by omega)]
      · rw [if_neg hg]
        refine Ev.step (fun k => ?_) (ih (n + 1) (rd f n) (by omega) (by omega) (by omega))
        rw [impl_isRegion.l0, if_pos (by omega), if_pos (by omega), if_pos (by omega), if_neg (by omega), if_neg (by omega), if_neg hg, wrap_succ n (by omega)]
    · rw [if_neg hc]
      refine Ev.step (f := fun _ => some false) (fun k => ?_) (Ev.now _)
      rw [impl_isRegion.l0, if_pos (by omega), if_pos (by omega), if_pos (by omega)]
      by_cases h2 : rd f n < last
      · rw [if_pos h2]
      · rw [if_neg h2, if_pos (by omega)]
theorem reGood_ev (o f : List Int) : Ev (fun k => spec_reGood.f k o f) (reg o f) := by
  unfold spec_reGood.f reg
  refine Ev.bind (reOrder_ev o) ?_
  cases h : order o with
  | false =>
    refine Ev.neg (by decide) (Ev.step (f := fun _ => some false) (fun k => ?_) (Ev.const (by simp)))
    rw [spec_reGood.j0, if_pos rfl]
  | true =>
    have h8 := order_length h
    refine Ev.pos rfl ?_
    by_cases hl : f.length = o.length
    · rw [decide_eq_true hl]
      refine Ev.step (f := ?f1) (fun k => ?h1) ?g1
      case h1 => rw [spec_reGood.j0, if_neg (by simp; omega)]
      exact reGood_l0 o f hl h8 f.length 0 0 (by omega) (Int.le_refl _) (Int.le_refl _)
    · rw [decide_eq_false hl]
      refine Ev.step (f := fun _ => some false) (fun k => ?_) (Ev.const (by simp))
      rw [spec_reGood.j0, if_pos (by simp; omega)]
theorem isRegion_ev (o f : List Int) (hs : o.length ≤ 1099511627776) : Ev (fun k => impl_isRegion.f k o f) (reg o f) := by
  unfold impl_isRegion.f reg
  refine Ev.bind (isOrder_ev o hs) ?_
  cases h : order o with
  | false =>
    refine Ev.neg (by decide) (Ev.step (f := fun _ => some false) (fun k => ?_) (Ev.const (by simp)))
    rw [impl_isRegion.j0, if_pos rfl]
  | true =>
    have h8 := order_length h
    refine Ev.pos rfl ?_
    by_cases hl : f.length = o.length
    · rw [decide_eq_true hl]
      refine Ev.step (f := ?f1) (fun k => ?h1) ?g1
      case h1 => rw [impl_isRegion.j0, if_neg (by simp; omega)]
      exact isRegion_l0 o f hl h8 f.length 0 0 (by omega) (Int.le_refl _) (Int.le_refl _)
    · rw [decide_eq_false hl]
      refine Ev.step (f := fun _ => some false) (fun k => ?_) (Ev.const (by simp))
      rw [impl_isRegion.j0, if_pos (by simp; omega)]
/-! ### the laws' helpers for regions -/
end Go.Proofs.YtgfcnfbbiaeboaaGreat.Plain
/- Regions and the points in them, in plain words: a region is told by its points; labels. No condition beside what each theorem states. -/
namespace Go.Proofs.YtgfcnfbbiaeboaaGreat.Plain
open Go.RowKit Go.Proofs.YtgfcnfbbiaeboaaGreatW.PrintWords Go.Proofs.YtgfcnfbbiaeboaaGreatW.PrintLast Go.Proofs.YtgfcnfbbiaeboaaGreat.Hand
set_option linter.unusedVariables false
/-- A region, part by part. -/
structure RegP (o f : List Int) : Prop where
  nd : o.Nodup
  inr : ∀ x ∈ o, 0 ≤ x ∧ x < (o.length : Int)
  len : f.length = o.length
  far : ∀ p : Nat, p < o.length → 0 ≤ rd f p ∧ rd f p ≤ (p : Int)
  mono : ∀ p : Nat, p + 1 < o.length → rd f (p : Int) ≤ rd f ((p + 1 : Nat) : Int)
  grow : ∀ p : Nat, p + 1 < o.length → rd f (p : Int) < rd f ((p + 1 : Nat) : Int) → rd o (rd f ((p + 1 : Nat) : Int) - 1) < rd o ((p + 1 : Nat) : Int)
/-- The point x lies in the region. -/
structure InReg (x o f : List Int) : Prop where
  xl : x.length = o.length
  dec : ∀ p q : Nat, p < q → q < o.length → rd x (rd o (q : Int)) < rd x (rd o (p : Int))
  far : ∀ q p : Nat, q < p → p < o.length → rd o (q : Int) < rd o (p : Int) → ((q : Int) < rd f (p : Int) ↔ 100 < rd x (rd o (q : Int)) - rd x (rd o (p : Int)))
theorem RegP.perm {o f : List Int} (h : RegP o f) : o.Perm (iota 0 o.length) := nodup_perm _ _ h.nd (fun x hx => (iota_mem _ _).2 (h.inr x hx)) (by rw [iota_length]; exact Nat.le_refl _)
theorem InReg.pw {x o f : List Int} (h : InReg x o f) : o.Pairwise (fun a b => rd x b < rd x a) :=
  List.pairwise_iff_getElem.2 fun i j hi hj hij => by
    have := h.dec i j hij hj
    rwa [rd_nat o i hi, rd_nat o j hj] at this
theorem rd_ext {l m : List Int} (hl : l.length = m.length) (h : ∀ p : Nat, p < l.length → rd l (p : Int) = rd m (p : Int)) : l = m :=
  List.ext_getElem hl fun i h1 h2 => by
    have := h i h1
    rwa [rd_nat l i h1, rd_nat m i h2] at this
theorem far_step {x o f f' : List Int} (h : InReg x o f) (h' : InReg x o f') (r : RegP o f) (r' : RegP o f') (p : Nat) (hp : p + 1 < o.length) (e : rd f (p : Int) = rd f' (p : Int)) : ¬ rd f ((p + 1 : Nat) : Int) < rd f' ((p + 1 : Nat) : Int) := by
  intro hlt
  have h1 := r.mono p hp
  have h2 := r.far (p + 1) hp
  have h3 := r'.far (p + 1) hp
  have hg := r'.grow p hp (by omega)
  obtain ⟨q, hq⟩ : ∃ q : Nat, rd f' ((p + 1 : Nat) : Int) - 1 = (q : Int) := ⟨(rd f' ((p + 1 : Nat) : Int) - 1).toNat, by omega⟩
  rw [hq] at hg
  have hqp : q < p + 1 := by omega
  have h4 := (h'.far q (p + 1) hqp hp hg).1 (by omega)
  have h5 := (h.far q (p + 1) hqp hp hg).2 h4
  omega
/-- A point lies in one region alone. -/
theorem region_unique {x o f o' f' : List Int} (h : InReg x o f) (h' : InReg x o' f') (r : RegP o f) (r' : RegP o' f') : o = o' ∧ f = f' := by
  have hl : o.length = o'.length := by rw [← h.xl, ← h'.xl]
  have ho : o = o' := by
    have hp : o.Perm o' := r.perm.trans (by rw [hl]; exact r'.perm.symm)
    exact hp.eq_of_pairwise (fun a b _ _ h1 h2 => by omega) h.pw h'.pw
  subst ho
  refine ⟨rfl, rd_ext (by rw [r.len, r'.len]) fun p hp => ?_⟩
  rw [r.len] at hp
  induction p with
  | zero =>
    have h1 := r.far 0 hp
    have h2 := r'.far 0 hp
    omega
  | succ p ih =>
    have e := ih (by omega)
    have h1 := far_step h h' r r' p hp e
    have h2 := far_step h' h r' r p hp e.symm
    omega
/-- Place q is far ahead of place p. -/
def Cq (x o : List Int) (q p : Nat) : Prop := rd o (q : Int) < rd o (p : Int) ∧ 100 < rd x (rd o (q : Int)) - rd x (rd o (p : Int))
/-- v: how many places ahead of place p are far, or have been (a). -/
structure FarAt (x o : List Int) (p : Nat) (a v : Int) : Prop where
  ge : a ≤ v
  all : ∀ q : Nat, q < p → Cq x o q p → (q : Int) + 1 ≤ v
  ex : v = a ∨ ∃ q : Nat, q < p ∧ Cq x o q p ∧ v = (q : Int) + 1
theorem of_farAt {x o f : List Int} (nd : o.Nodup) (inr : ∀ x ∈ o, 0 ≤ x ∧ x < (o.length : Int)) (len : f.length = o.length) (xl : x.length = o.length) (dec : ∀ p q : Nat, p < q → q < o.length → rd x (rd o (q : Int)) < rd x (rd o (p : Int)))
    (h0 : 0 < o.length → FarAt x o 0 0 (rd f ((0 : Nat) : Int))) (hs : ∀ p : Nat, p + 1 < o.length → FarAt x o (p + 1) (rd f (p : Int)) (rd f ((p + 1 : Nat) : Int))) : RegP o f ∧ InReg x o f := by
  have hz : 0 < o.length → rd f ((0 : Nat) : Int) = 0 := fun h => by
    rcases (h0 h).ex with e | ⟨q, hq, _⟩
    · exact e
    · omega
  have hfar : ∀ p : Nat, p < o.length → 0 ≤ rd f (p : Int) ∧ rd f (p : Int) ≤ (p : Int) := by
    intro p
    induction p with
    | zero => intro h; rw [hz h]; omega
    | succ p ih =>
      intro h
      have h1 := ih (by omega)
      have h2 := hs p h
      rcases h2.ex with e | ⟨q, hq, _, e⟩
      · omega
      · omega
  have hsrc : ∀ (p : Nat), p < o.length → ∀ q : Nat, (q : Int) < rd f (p : Int) → ∃ q' p' : Nat, q ≤ q' ∧ q' < p' ∧ p' ≤ p ∧ Cq x o q' p' := by
    intro p
    induction p with
    | zero => intro h q hq; rw [hz h] at hq; omega
    | succ p ih =>
      intro h q hq
      rcases (hs p h).ex with e | ⟨q', hq', hc, e⟩
      · obtain ⟨q1, p1, a1, a2, a3, a4⟩ := ih (by omega) q (by omega)
        exact ⟨q1, p1, a1, a2, by omega, a4⟩
      · exact ⟨q', p + 1, by omega, hq', Nat.le_refl _, hc⟩
  refine ⟨⟨nd, inr, len, hfar, fun p hp => (hs p hp).ge, fun p hp hlt => ?_⟩, ⟨xl, dec, fun q p hqp hp hlt => ⟨fun hq => ?_, fun hd => ?_⟩⟩⟩
  · rcases (hs p hp).ex with e | ⟨q, hq, hc, e⟩
    · omega
    · rw [e, show (q : Int) + 1 - 1 = (q : Int) by omega]
      exact hc.1
  · obtain ⟨q', p', h1, h2, h3, h4⟩ := hsrc p hp q hq
    have hx1 : rd x (rd o (q' : Int)) ≤ rd x (rd o (q : Int)) := by
      rcases Nat.lt_or_eq_of_le h1 with h | h
      · exact Int.le_of_lt (dec q q' h (by omega))
      · rw [h]; exact Int.le_refl _
    have hx2 : rd x (rd o (p : Int)) ≤ rd x (rd o (p' : Int)) := by
      rcases Nat.lt_or_eq_of_le h3 with h | h
      · exact Int.le_of_lt (dec p' p h hp)
      · rw [h]; exact Int.le_refl _
    have := h4.2
    omega
  · match p, hp, hqp with
    | p + 1, hp, hqp =>
      have := (hs p hp).all q hqp ⟨hlt, hd⟩
      omega
/-! ### regions as the tests tell them -/
theorem regGo_grow (o f : List Int) : ∀ (d n : Nat) (last : Int), regGo o f d n last = true → (∀ m : Nat, m + 1 < n + d → n ≤ m → rd f (m : Int) < rd f ((m + 1 : Nat) : Int) → ¬ rd o (rd f ((m + 1 : Nat) : Int) - 1) > rd o ((m + 1 : Nat) : Int)) ∧ (0 < d → last < rd f (n : Int) → ¬ rd o (rd f (n : Int) - 1) > rd o (n : Int)) := by
  intro d
  induction d with
  | zero => intro n last _; exact ⟨fun m h1 h2 => by omega, fun h => absurd h (by omega)⟩
  | succ d ih =>
    intro n last h
    rw [regGo] at h
    split at h
    case isFalse => cases h
    case isTrue hb =>
    split at h
    case isTrue hgt =>
      split at h
      case isTrue => cases h
      case isFalse hng =>
        have hi := ih (n + 1) (rd f n) h
        refine ⟨fun m h1 h2 h3 => ?_, fun _ _ => hng⟩
        rcases Nat.lt_or_eq_of_le h2 with h4 | h4
        · exact hi.1 m (by omega) h4 h3
        · subst h4
          exact hi.2 (by omega) h3
    case isFalse hle =>
      have hi := ih (n + 1) (rd f n) h
      refine ⟨fun m h1 h2 h3 => ?_, fun _ hlt => absurd hlt hle⟩
      rcases Nat.lt_or_eq_of_le h2 with h4 | h4
      · exact hi.1 m (by omega) h4 h3
      · subst h4
        exact hi.2 (by omega) h3
theorem regGo_of (o f : List Int) (N : Nat) (hf : ∀ p : Nat, p < N → 0 ≤ rd f (p : Int) ∧ rd f (p : Int) ≤ (p : Int)) (hm : ∀ p : Nat, p + 1 < N → rd f (p : Int) ≤ rd f ((p + 1 : Nat) : Int))
    (hg : ∀ p : Nat, p + 1 < N → rd f (p : Int) < rd f ((p + 1 : Nat) : Int) → rd o (rd f ((p + 1 : Nat) : Int) - 1) < rd o ((p + 1 : Nat) : Int)) : ∀ (d n : Nat) (last : Int), n + d = N → (n = 0 → last = 0) → (∀ m : Nat, m + 1 = n → last = rd f (m : Int)) → regGo o f d n last = true := by
  intro d
  induction d with
  | zero => intro n last _ _ _; rfl
  | succ d ih =>
    intro n last hn h0 h1
    have hfn := hf n (by omega)
    have hlast : last ≤ rd f (n : Int) := by
      cases n with
      | zero => rw [h0 rfl]; exact hfn.1
      | succ n => rw [h1 n rfl]; exact hm n (by omega)
    have hr := ih (n + 1) (rd f (n : Int)) (by omega) (fun h => by omega) (fun m hm' => by rw [show m = n by omega])
    rw [regGo, if_pos ⟨hlast, hfn.2⟩]
    split
    · rename_i hgt
      rw [if_neg ?_]
      · exact hr
      · cases n with
        | zero => have := h0 rfl; omega
        | succ n =>
          have := h1 n rfl
          have := hg n (by omega) (by omega)
          omega
    · exact hr
theorem reg_iff (o f : List Int) : reg o f = true ↔ RegP o f ∧ o.length ≤ 8 := by
  constructor
  · intro h
    have hl := reg_len h
    have ho := reg_order h
    unfold order at ho
    rw [Bool.and_eq_true, decide_eq_true_eq, decide_eq_true_eq] at ho
    have h1 := (order_iff o).1 ho.1
    have hg := regGo_grow o f f.length 0 0 (reg_go h)
    refine ⟨⟨h1.1, h1.2, hl.2, fun p hp => reg_far h p (by omega), fun p hp => reg_mono h p (p + 1) (by omega) (by omega), fun p hp hlt => ?_⟩, hl.1⟩
    have h2 := hg.1 p (by omega) (by omega) hlt
    have h3 := reg_far h p (by omega)
    have h4 := reg_far h (p + 1) (by omega)
    have hne : rd o (rd f ((p + 1 : Nat) : Int) - 1) ≠ rd o ((p + 1 : Nat) : Int) := by
      obtain ⟨q, hq⟩ : ∃ q : Nat, rd f ((p + 1 : Nat) : Int) - 1 = (q : Int) := ⟨(rd f ((p + 1 : Nat) : Int) - 1).toNat, by omega⟩
      rw [hq, rd_nat o q (by omega), rd_nat o (p + 1) hp]
      intro e
      have := (List.getElem_inj h1.1).1 e
      omega
    omega
  · rintro ⟨h, h8⟩
    unfold reg order
    rw [Bool.and_eq_true, Bool.and_eq_true, Bool.and_eq_true, decide_eq_true_eq, decide_eq_true_eq, decide_eq_true_eq]
    refine ⟨⟨⟨(order_iff o).2 ⟨h.nd, h.inr⟩, h8⟩, h.len⟩, regGo_of o f f.length (fun p hp => h.far p (by have := h.len; omega)) (fun p hp => h.mono p (by have := h.len; omega)) (fun p hp => h.grow p (by have := h.len; omega)) f.length 0 0 (by omega) (fun _ => rfl) (fun m hm => by omega)⟩
end Go.Proofs.YtgfcnfbbiaeboaaGreat.Plain
