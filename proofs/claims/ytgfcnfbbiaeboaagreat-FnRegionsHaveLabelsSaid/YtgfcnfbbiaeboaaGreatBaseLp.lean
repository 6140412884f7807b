/- The label of a region: what the program's LabelOfRegion (and the reference's) come to. No condition beside what each theorem states. -/
import Derived.Test.YtgfcnfbbiaeboaaGreatPAllx1
import Derived.Test.YtgfcnfbbiaeboaaGreatPAllx3
import Derived.Test.YtgfcnfbbiaeboaaGreatPAllx7
import Derived.Test.YtgfcnfbbiaeboaaGreatPAllx8
import Derived.Test.YtgfcnfbbiaeboaaGreatBaseRt
import Derived.Test.YtgfcnfbbiaeboaaGreatPAllx9
import Derived.Test.YtgfcnfbbiaeboaaGreatBasePp
namespace Go.Proofs.YtgfcnfbbiaeboaaGreat.Plain
open Go.RowKit Go.Proofs.YtgfcnfbbiaeboaaGreatW.PrintWords Go.Proofs.YtgfcnfbbiaeboaaGreatW.PrintLast Go.Proofs.YtgfcnfbbiaeboaaGreat.Hand Go.Proofs.YtgfcnfbbiaeboaaGreat.PAll
set_option linter.unusedVariables false
namespace LabelOfRegion
/-- How many stand ahead that are greater than i, or among the first f ones. -/
def rc (i far : Int) : List Int → Int → Int
  | [], _ => 0
  | x :: xs, n => (if x > i ∨ n < far then 1 else 0) + rc i far xs (n + 1)
theorem rc_in (i far : Int) : ∀ (b : List Int) (n : Int), 0 ≤ rc i far b n ∧ rc i far b n ≤ b.length := by
  intro b
  induction b with
  | nil => intro n; exact ⟨Int.le_refl _, Int.le_refl _⟩
  | cons x xs ih =>
    intro n
    have := ih (n + 1)
    rw [rc, List.length_cons]
    split <;> omega
theorem cntL_cons (p : Int → Bool) (x : Int) (l : List Int) : cnt p (x :: l) = (if p x = true then 1 else 0) + cnt p l := by
  unfold cnt
  rw [List.filter_cons]
  split <;> simp <;> omega
theorem rc_cnt (i far : Int) : ∀ (b : List Int) (n : Int), (∀ x ∈ b, x ≠ i) → rc i far b n = cnt (fun x => decide (x > i)) b + cnt (fun x => decide (x < i)) (b.take (far - n).toNat) := by
  intro b
  induction b with
  | nil => intro n _; simp [rc, cnt]
  | cons x xs ih =>
    intro n hb
    have h1 := ih (n + 1) (fun y hy => hb y (List.mem_cons_of_mem _ hy))
    have hx := hb x List.mem_cons_self
    rw [rc, h1, cntL_cons]
    by_cases hf : n < far
    · obtain ⟨m, hm⟩ : ∃ m, (far - n).toNat = m + 1 := ⟨(far - n).toNat - 1, by omega⟩
      have hm2 : (far - (n + 1)).toNat = m := by omega
      rw [hm, hm2, List.take_succ_cons, cntL_cons, if_pos (.inr hf)]
      by_cases hg : x > i
      · rw [if_pos (decide_eq_true hg), if_neg (by simp; omega)]
        omega
      · rw [if_neg (by simp; omega), if_pos (by simp; omega)]
        omega
    · have hm : (far - n).toNat = 0 := by omega
      have hm2 : (far - (n + 1)).toNat = 0 := by omega
      rw [hm, hm2, List.take_zero, List.take_zero]
      by_cases hg : x > i
      · rw [if_pos (.inl hg), if_pos (decide_eq_true hg)]
        omega
      · rw [if_neg (by omega), if_neg (by simp; omega)]
        omega
theorem reCount_l0 (i far : Int) (b : List Int) (h8 : b.length ≤ 100) : ∀ (d n : Nat) (acc : Int), n + d = b.length → 0 ≤ acc → acc ≤ n →
    Ev (fun k => spec_reCount.l0 k far i acc b (b.length : Int) (n : Int)) (acc + rc i far (b.drop n) n) := by
  intro d
  induction d with
  | zero =>
    intro n acc hn h0 h1
    rw [List.drop_eq_nil_of_le (by omega), rc, Int.add_zero]
    refine Ev.step (f := fun _ => some acc) (fun k => ?_) (Ev.now _)
    rw [spec_reCount.l0, if_neg (by omega)]
  | succ d ih =>
    intro n acc hn h0 h1
    have hlt : n < b.length := by omega
    have ed : b.drop n = b[n] :: b.drop (n + 1) := List.drop_eq_getElem_cons hlt
    have en : ((n + 1 : Nat) : Int) = (n : Int) + 1 := by omega
    rw [ed, rc]
    by_cases hg : b[n] > i
    · rw [if_pos (.inl hg)]
      have h := ih (n + 1) (acc + 1) (by omega) (by omega) (by omega)
      rw [show acc + (1 + rc i far (b.drop (n + 1)) ((n : Int) + 1)) = acc + 1 + rc i far (b.drop (n + 1)) ((n + 1 : Nat) : Int) by rw [en]; omega]
      refine Ev.step (fun k => ?_) h
      rw [spec_reCount.l0, if_pos (by omega), if_pos (by omega), if_pos (by omega), rd_nat b n hlt, if_pos hg, wrap_succ n (by omega), wrap64_in (acc + 1) (by omega) (by omega)]
    · by_cases hf : (n : Int) < far
      · rw [if_pos (.inr hf)]
        have h := ih (n + 1) (acc + 1) (by omega) (by omega) (by omega)
        rw [show acc + (1 + rc i far (b.drop (n + 1)) ((n : Int) + 1)) = acc + 1 + rc i far (b.drop (n + 1)) ((n + 1 : Nat) : Int) by rw [en]; omega]
        refine Ev.step (fun k => ?_) h
        rw [spec_reCount.l0, if_pos (by omega), if_pos (by omega), if_pos (by omega), rd_nat b n hlt, if_neg hg, if_pos hf, wrap_succ n (by omega), wrap64_in (acc + 1) (by omega) (by omega)]
      · rw [if_neg (by omega)]
        have h := ih (n + 1) acc (by omega) (by omega) (by omega)
        rw [show acc + (0 + rc i far (b.drop (n + 1)) ((n : Int) + 1)) = acc + rc i far (b.drop (n + 1)) ((n + 1 : Nat) : Int) by rw [en]; omega]
        refine Ev.step (fun k => ?_) h
        rw [spec_reCount.l0, if_pos (by omega), if_pos (by omega), if_pos (by omega), rd_nat b n hlt, if_neg hg, if_neg hf, wrap_succ n (by omega)]
theorem reCount_ev (b : List Int) (far i : Int) (h8 : b.length ≤ 100) : Ev (fun k => spec_reCount.f k b far i) (rc i far b 0) := by
  unfold spec_reCount.f
  have h := reCount_l0 i far b h8 b.length 0 0 (by omega) (Int.le_refl _) (Int.le_refl _)
  rw [List.drop_zero, Int.zero_add] at h
  exact h
theorem labelAt_eq (b : List Int) (far i : Int) (h8 : b.length ≤ 100) (h0 : 0 ≤ far) (h1 : far ≤ b.length) (hb : ∀ x ∈ b, x ≠ i) : impl_labelAt.f b far i = some (rc i far b 0) := by
  have h := rc_cnt i far b 0 hb
  rw [Int.sub_zero] at h
  have hi := rc_in i far b 0
  unfold impl_labelAt.f countIf_labelAt1.f countIf_labelAt2.f
  rw [Option.bind_some, if_pos h0, if_pos h1, Option.bind_some, ← h, wrap64_in _ (by omega) (by omega)]
/-- The labels of the first n places. -/
def lb (o f : List Int) : Nat → List Int
  | 0 => List.replicate o.length 0
  | n + 1 => (lb o f n).set (rd o n).toNat (rc (rd o n) (rd f n) (o.take n) 0)
theorem lb_length (o f : List Int) : ∀ n, (lb o f n).length = o.length := by
  intro n
  induction n with
  | zero => simp [lb]
  | succ n ih => rw [lb, List.length_set, ih]
theorem spec_l0 (o f : List Int) (hr : reg o f = true) : ∀ (d n : Nat), n + d = o.length →
    Ev (fun k => spec_reLabelOf.l0 k (lb o f n) o (o.length : Int) (n : Int) o f) (lb o f o.length) := by
  have h8 := (reg_len hr).1
  have hl := (reg_len hr).2
  intro d
  induction d with
  | zero =>
    intro n hn
    obtain rfl : n = o.length := by omega
    refine Ev.step (f := fun _ => some (lb o f o.length)) (fun k => ?_) (Ev.now _)
    rw [spec_reLabelOf.l0, if_neg (by omega)]
  | succ d ih =>
    intro n hn
    have hlt : n < o.length := by omega
    have ho := order_in (reg_order hr) (rd o n) (by rw [rd_nat o n hlt]; exact List.getElem_mem hlt)
    refine Ev.step (f := ?f1) (fun k => ?h1) ?g1
    case h1 => rw [spec_reLabelOf.l0, if_pos (by omega), if_pos (by omega), if_pos (by omega), if_pos (by omega), if_pos (by omega), Int.toNat_natCast]
    refine Ev.bind (reCount_ev (o.take n) (rd f n) (rd o n) (by rw [List.length_take]; omega)) (Ev.pos (by omega) (Ev.pos (by rw [lb_length]; omega) ?_))
    rw [wrap_succ n (by omega)]
    exact ih (n + 1) (by omega)
theorem order_new {o : List Int} (h : order o = true) (n : Nat) (hn : n < o.length) : ∀ x ∈ o.take n, x ≠ rd o n := by
  unfold order at h
  rw [Bool.and_eq_true, decide_eq_true_eq, decide_eq_true_eq] at h
  have hd := ((order_iff o).1 h.1).1
  have h3 : (o.take (n + 1)).Nodup := hd.sublist (List.take_sublist _ _)
  rw [List.take_succ_eq_append_getElem hn, List.nodup_append] at h3
  intro x hx
  rw [rd_nat o n hn]
  exact h3.2.2 x hx _ List.mem_cons_self
theorem impl_l0 (o f : List Int) (hr : reg o f = true) : ∀ (d n : Nat), n + d = o.length →
    Ev (fun k => impl_LabelOfRegion.l0 k (lb o f n) o (o.length : Int) (n : Int) o f) (lb o f o.length, true) := by
  have h8 := (reg_len hr).1
  have hl := (reg_len hr).2
  intro d
  induction d with
  | zero =>
    intro n hn
    obtain rfl : n = o.length := by omega
    refine Ev.step (f := fun _ => some (lb o f o.length, true)) (fun k => ?_) (Ev.now _)
    rw [impl_LabelOfRegion.l0, if_neg (by omega)]
  | succ d ih =>
    intro n hn
    have hlt : n < o.length := by omega
    have ho := order_in (reg_order hr) (rd o n) (by rw [rd_nat o n hlt]; exact List.getElem_mem hlt)
    have hf := reg_far hr n (by omega)
    have hlen : (o.take n).length = n := by rw [List.length_take]; omega
    refine Ev.step (fun k => ?h1) (ih (n + 1) (by omega))
    rw [impl_LabelOfRegion.l0, if_pos (by omega), if_pos (by omega), if_pos (by omega), if_pos (by omega), if_pos (by omega), Int.toNat_natCast,
      labelAt_eq (o.take n) (rd f n) (rd o n) (by omega) hf.1 (by rw [hlen]; exact hf.2) (order_new (reg_order hr) n hlt), Option.bind_some, if_pos (by omega), if_pos (by rw [lb_length]; omega), wrap_succ n (by omega)]
    rfl
def res (o f : List Int) : List Int × Bool := if reg o f = true then (lb o f o.length, true) else ([], false)
theorem spec_ev (o f : List Int) : Ev (fun k => spec_LabelOfRegion.f k o f) (res o f) := by
  unfold spec_LabelOfRegion.f res
  refine Ev.bind (reGood_ev o f) ?_
  cases h : reg o f with
  | false => rw [if_neg (by decide)]; exact Ev.neg (by decide) (Ev.now _)
  | true =>
    have h8 := (reg_len h).1
    rw [if_pos rfl]
    refine Ev.pos rfl (Ev.bind ?_ (Ev.now _))
    unfold spec_reLabelOf.f
    refine Ev.pos (by omega) (Ev.pos (by omega) ?_)
    rw [Int.toNat_natCast]
    exact spec_l0 o f h o.length 0 (by omega)
theorem impl_ev (o f : List Int) (hs : o.length ≤ 1099511627776) : Ev (fun k => impl_LabelOfRegion.f k o f) (res o f) := by
  unfold impl_LabelOfRegion.f res
  refine Ev.bind (isRegion_ev o f hs) ?_
  cases h : reg o f with
  | false => rw [if_neg (by decide)]; exact Ev.neg (by decide) (Ev.now _)
  | true =>
    have h8 := (reg_len h).1
    rw [if_pos rfl]
    refine Ev.pos rfl (Ev.pos (by omega) (Ev.pos (by omega) ?_))
    rw [Int.toNat_natCast]
    exact impl_l0 o f h o.length 0 (by omega)
end LabelOfRegion
end Go.Proofs.YtgfcnfbbiaeboaaGreat.Plain
/- The label of a point: what the program's LabelOfPoint and the reference's come to; it is the label of the point's region. Condition: the list is a point. -/
namespace Go.Proofs.YtgfcnfbbiaeboaaGreat.Plain
open Go.RowKit Go.Proofs.YtgfcnfbbiaeboaaGreatW.PrintWords Go.Proofs.YtgfcnfbbiaeboaaGreatW.PrintLast Go.Proofs.YtgfcnfbbiaeboaaGreat.Hand Go.Proofs.YtgfcnfbbiaeboaaGreat.PAll
set_option linter.unusedVariables false
/-- Whether the number at j counts for the label at i. -/
def lpC (x : List Int) (i j : Int) : Bool := decide ((j < i ∧ rd x j > rd x i + 100) ∨ (j > i ∧ rd x j > rd x i))
def lpT (x : List Int) (i : Nat) : Nat → Nat
  | 0 => 0
  | m + 1 => lpT x i m + (if lpC x (i : Int) (m : Int) = true then 1 else 0)
theorem lpT_le (x : List Int) (i : Nat) : ∀ m, lpT x i m ≤ m
  | 0 => Nat.le_refl _
  | m + 1 => by
    have := lpT_le x i m
    rw [lpT]
    split <;> omega
def labP (x : List Int) : Nat → List Int
  | 0 => List.replicate x.length 0
  | i + 1 => (labP x i).set i (lpT x i x.length : Int)
theorem labP_length (x : List Int) : ∀ i, (labP x i).length = x.length
  | 0 => by rw [labP, List.length_replicate]
  | i + 1 => by rw [labP, List.length_set, labP_length x i]
theorem labP_zero (x : List Int) : ∀ (i j : Nat), i ≤ j → (h : j < x.length) → (labP x i)[j]'(by rw [labP_length]; exact h) = 0
  | 0, j, _, h => by simp [labP]
  | i + 1, j, hij, h => by
    simp only [labP]
    rw [List.getElem_set_ne (by omega)]
    exact labP_zero x i j (by omega) h
theorem labP_get (x : List Int) : ∀ (i j : Nat), j < i → (h : j < x.length) → (labP x i)[j]'(by rw [labP_length]; exact h) = (lpT x j x.length : Int)
  | 0, j, hij, h => by omega
  | i + 1, j, hij, h => by
    simp only [labP]
    rcases Nat.lt_or_eq_of_le (Nat.le_of_lt_succ hij) with e | e
    · rw [List.getElem_set_ne (by omega)]
      exact labP_get x i j e h
    · subst e
      rw [List.getElem_set_self]
theorem labP_same (x : List Int) (i : Nat) (hi : i < x.length) : (labP x i).set i ((0 : Nat) : Int) = labP x i := by
  have h := labP_zero x i i (Nat.le_refl _) hi
  refine List.ext_getElem (by rw [List.length_set]) fun j h1 h2 => ?_
  by_cases e : i = j
  · subst e
    rw [List.getElem_set_self, h]
    rfl
  · rw [List.getElem_set_ne e]
theorem rd_set_self (l : List Int) (i : Nat) (v : Int) (h : i < l.length) : rd (l.set i v) (i : Int) = v := by
  rw [rd_nat _ i (by rw [List.length_set]; exact h), List.getElem_set_self]
theorem LabelOfPoint_l1 (x : List Int) (hx : Pt x) (i : Nat) (hi : i < x.length) (r : List Int × Bool) (hr : Ev (fun k => impl_LabelOfPoint.l0 k x (labP x (i + 1)) x (x.length : Int) ((i + 1 : Nat) : Int)) r) : ∀ (d j : Nat), j + d = x.length →
    Ev (fun k => impl_LabelOfPoint.l1 k x ((labP x i).set i (lpT x i j : Int)) (i : Int) (rd x (i : Int)) x (x.length : Int) (i : Int) x (x.length : Int) (j : Int)) r := by
  have h8 := hx.len
  have hv := hx.rd i hi
  intro d
  induction d with
  | zero =>
    intro j hj
    obtain rfl : j = x.length := by omega
    refine Ev.step (f := ?f1) (fun k => ?h1) ?g1
    case g1 => exact hr
    case h1 =>
      rw [impl_LabelOfPoint.l1, if_neg (by omega), wrap_succ i (by omega)]
      rfl
  | succ d ih =>
    intro j hj
    have hw := hx.rd j (by omega)
    have hle := lpT_le x i j
    have hlen : ((labP x i).set i (lpT x i j : Int)).length = x.length := by rw [List.length_set, labP_length]
    have hrd : rd ((labP x i).set i (lpT x i j : Int)) (i : Int) = (lpT x i j : Int) := rd_set_self _ i _ (by rw [labP_length]; exact hi)
    have hset : ((labP x i).set i (lpT x i j : Int)).set ((i : Int).toNat) (wrap64 (rd ((labP x i).set i (lpT x i j : Int)) (i : Int) + 1)) = (labP x i).set i ((lpT x i j + 1 : Nat) : Int) := by
      rw [hrd, wrap_succ _ (by omega), Int.toNat_natCast, List.set_set]
    have hw1 : wrap64 (rd x (i : Int) + 100) = rd x (i : Int) + 100 := wrap64_in _ (by omega) (by omega)
    have h := ih (j + 1) (by omega)
    rw [lpT] at h
    refine Ev.step (f := ?f2) (fun k => ?h2) ?g2
    case g2 => exact h
    case h2 =>
      rw [impl_LabelOfPoint.l1, if_pos (by omega), if_pos (by omega), if_pos (by omega), hset, hw1, wrap_succ j (by omega)]
      by_cases c1 : (j : Int) < (i : Int)
      · rw [if_pos c1]
        by_cases c2 : rd x (j : Int) > rd x (i : Int) + 100
        · have e : lpC x (i : Int) (j : Int) = true := decide_eq_true (.inl ⟨c1, c2⟩)
          rw [if_pos c2, if_pos (by omega), if_pos (by omega), if_pos e]
        · have e : ¬ lpC x (i : Int) (j : Int) = true := fun h => by have := of_decide_eq_true h; omega
          rw [if_neg c2, if_neg (by omega), if_neg e]
          rfl
      · rw [if_neg c1]
        by_cases c2 : (j : Int) > (i : Int)
        · rw [if_pos c2]
          by_cases c3 : rd x (j : Int) > rd x (i : Int)
          · have e : lpC x (i : Int) (j : Int) = true := decide_eq_true (.inr ⟨c2, c3⟩)
            rw [if_pos c3, if_pos (by omega), if_pos (by omega), if_pos e]
          · have e : ¬ lpC x (i : Int) (j : Int) = true := fun h => by have := of_decide_eq_true h; omega
            rw [if_neg c3, if_neg e]
            rfl
        · have e : ¬ lpC x (i : Int) (j : Int) = true := fun h => by have := of_decide_eq_true h; omega
          rw [if_neg c2, if_neg e]
          rfl
theorem LabelOfPoint_l0 (x : List Int) (hx : Pt x) : ∀ (d i : Nat), i + d = x.length → Ev (fun k => impl_LabelOfPoint.l0 k x (labP x i) x (x.length : Int) (i : Int)) (labP x x.length, true) := by
  have h8 := hx.len
  intro d
  induction d with
  | zero =>
    intro i hi
    obtain rfl : i = x.length := by omega
    refine Ev.step (f := fun _ => some (labP x x.length, true)) (fun k => ?_) (Ev.now _)
    rw [impl_LabelOfPoint.l0, if_neg (by omega)]
  | succ d ih =>
    intro i hi
    have h := LabelOfPoint_l1 x hx i (by omega) _ (ih (i + 1) (by omega)) x.length 0 (by omega)
    rw [lpT, labP_same x i (by omega)] at h
    refine Ev.step (f := ?f1) (fun k => ?h1) ?g1
    case g1 => exact h
    case h1 =>
      rw [impl_LabelOfPoint.l0, if_pos (by omega), if_pos (by omega), if_pos (by omega)]
      rfl
def labR (x : List Int) : List Int × Bool := if ptB x = true then (labP x x.length, true) else ([], false)
theorem LabelOfPoint_ev (x : List Int) : Ev (fun k => impl_LabelOfPoint.f k x) (labR x) := by
  unfold impl_LabelOfPoint.f labR
  refine Ev.bind (isPoint_ev x) ?_
  cases h : ptB x with
  | true =>
    have hx := (ptB_iff x).1 h
    have h8 := hx.len
    refine Ev.pos rfl (Ev.pos (by omega) (Ev.pos (by omega) ?_))
    rw [Int.toNat_natCast]
    exact LabelOfPoint_l0 x hx x.length 0 (by omega)
  | false => exact Ev.neg (by decide) (Ev.now _)
/-! ### the label of the region -/
theorem lpT_cnt (x : List Int) (i : Nat) : ∀ m : Nat, (lpT x i m : Int) = cnt (lpC x (i : Int)) (iota 0 m)
  | 0 => by simp [lpT, cnt, iota]
  | m + 1 => by
    have := lpT_cnt x i m
    rw [lpT, iota_succ, Int.zero_add]
    unfold cnt at this ⊢
    rw [List.filter_append, List.length_append]
    by_cases h : lpC x (i : Int) (m : Int) = true
    · simp [h]; omega
    · simp [h]; omega
theorem cnt_perm (p : Int → Bool) {l m : List Int} (h : l.Perm m) : cnt p l = cnt p m := by
  unfold cnt
  rw [(h.filter p).length_eq]
theorem rc_pt (i far : Int) (P : Int → Bool) : ∀ (b : List Int) (n : Nat), (∀ q : Nat, (h : q < b.length) → (P b[q] = true ↔ (b[q] > i ∨ ((n + q : Nat) : Int) < far))) → cnt P b = LabelOfRegion.rc i far b (n : Int)
  | [], n, _ => rfl
  | y :: ys, n, h => by
    have h0 := h 0 (by simp)
    have ih := rc_pt i far P ys (n + 1) (fun q hq => by
      have := h (q + 1) (by simp; omega)
      rw [List.getElem_cons_succ, show n + (q + 1) = n + 1 + q by omega] at this
      exact this)
    rw [LabelOfRegion.cntL_cons, LabelOfRegion.rc, ih]
    simp only [List.getElem_cons_zero, Nat.add_zero] at h0
    rw [show ((n : Int) + 1) = ((n + 1 : Nat) : Int) by omega]
    by_cases c : P y = true
    · rw [if_pos c, if_pos (h0.1 c)]
    · rw [if_neg c, if_neg (fun h => c (h0.2 h))]
theorem cnt_zero (p : Int → Bool) : ∀ l : List Int, (∀ v ∈ l, ¬ p v = true) → cnt p l = 0
  | [], _ => rfl
  | y :: ys, h => by
    rw [LabelOfRegion.cntL_cons, if_neg (h y List.mem_cons_self), cnt_zero p ys (fun v hv => h v (List.mem_cons_of_mem _ hv))]
    rfl
theorem lp_rc {x o f : List Int} (h : InReg x o f) (r : RegP o f) (p : Nat) (hp : p < o.length) (i : Nat) (hi : rd o (p : Int) = (i : Int)) : (lpT x i x.length : Int) = LabelOfRegion.rc (rd o (p : Int)) (rd f (p : Int)) (o.take p) 0 := by
  rw [lpT_cnt, h.xl, ← cnt_perm _ r.perm]
  have hsplit : o = o.take p ++ (o[p] :: o.drop (p + 1)) := by rw [← List.drop_eq_getElem_cons hp, List.take_append_drop]
  have e1 : cnt (lpC x (i : Int)) o = cnt (lpC x (i : Int)) (o.take p) + cnt (lpC x (i : Int)) (o[p] :: o.drop (p + 1)) := by
    conv => lhs; rw [hsplit]
    unfold cnt
    rw [List.filter_append, List.length_append]
    omega
  have e2 : cnt (lpC x (i : Int)) (o[p] :: o.drop (p + 1)) = 0 := by
    refine cnt_zero _ _ fun v hv hc => ?_
    have hc' := of_decide_eq_true hc
    rw [← List.drop_eq_getElem_cons hp] at hv
    obtain ⟨q, hq, e⟩ := List.mem_iff_getElem.1 hv
    rw [List.length_drop] at hq
    rw [List.getElem_drop] at e
    rw [← hi] at hc'
    rw [← e, ← rd_nat o (p + q) (by omega)] at hc'
    rcases Nat.eq_zero_or_pos q with e0 | hq0
    · subst e0
      rw [Nat.add_zero] at hc'
      omega
    · have := h.dec p (p + q) (by omega) (by omega)
      omega
  have e3 := rc_pt (rd o (p : Int)) (rd f (p : Int)) (lpC x (i : Int)) (o.take p) 0 (fun q hq => by
    rw [List.length_take] at hq
    have hqp : q < p := by omega
    have hd := h.dec q p hqp hp
    have hf := h.far q p hqp hp
    have hne : rd o (q : Int) ≠ rd o (p : Int) := by
      rw [rd_nat o q (by omega), rd_nat o p hp]
      intro e
      have := (List.getElem_inj r.nd).1 e
      omega
    rw [List.getElem_take, ← rd_nat o q (by omega), Nat.zero_add]
    unfold lpC
    rw [decide_eq_true_eq, ← hi]
    constructor
    · rintro (⟨a, b⟩ | ⟨a, b⟩)
      · exact .inr ((hf a).2 (by omega))
      · exact .inl a
    · rintro (a | a)
      · exact .inr ⟨a, hd⟩
      · by_cases c : rd o (q : Int) > rd o (p : Int)
        · exact .inr ⟨c, hd⟩
        · have hlt : rd o (q : Int) < rd o (p : Int) := by omega
          exact .inl ⟨hlt, by have := (hf hlt).1 a; omega⟩)
  rw [e1, e2, e3, Int.add_zero]
  rfl
theorem lb_get {o f : List Int} (r : RegP o f) : ∀ (N p : Nat), p < N → N ≤ o.length → rd (LabelOfRegion.lb o f N) (rd o (p : Int)) = LabelOfRegion.rc (rd o (p : Int)) (rd f (p : Int)) (o.take p) 0
  | 0, p, h, _ => by omega
  | N + 1, p, h, hN => by
    have hin : ∀ q : Nat, q < o.length → 0 ≤ rd o (q : Int) ∧ rd o (q : Int) < (o.length : Int) := fun q hq => r.inr _ (by rw [rd_nat o q hq]; exact List.getElem_mem hq)
    have h1 := hin p (by omega)
    have h2 := hin N (by omega)
    have hlb := LabelOfRegion.lb_length o f N
    obtain ⟨a, ha⟩ : ∃ a : Nat, rd o (p : Int) = (a : Int) := ⟨(rd o (p : Int)).toNat, by omega⟩
    rw [LabelOfRegion.lb, ha]
    rcases Nat.lt_or_eq_of_le (Nat.le_of_lt_succ h) with e | e
    · have hne : rd o (N : Int) ≠ rd o (p : Int) := by
        rw [rd_nat o N (by omega), rd_nat o p (by omega)]
        intro e2
        have := (List.getElem_inj r.nd).1 e2
        omega
      rw [rd_nat _ a (by rw [List.length_set]; omega), List.getElem_set_ne (by omega), ← rd_nat _ a (by omega), ← ha]
      exact lb_get r N p e (by omega)
    · subst e
      rw [ha, Int.toNat_natCast, rd_nat _ a (by rw [List.length_set]; omega), List.getElem_set_self]
/-- A point's label is its region's. -/
theorem lab_eq {x o f : List Int} (h : InReg x o f) (r : RegP o f) : labP x x.length = LabelOfRegion.lb o f o.length := by
  refine rd_ext (by rw [labP_length, LabelOfRegion.lb_length, h.xl]) fun i hi => ?_
  rw [labP_length] at hi
  have hm : (i : Int) ∈ o := r.perm.mem_iff.2 ((iota_mem _ _).2 ⟨by omega, by rw [← h.xl]; omega⟩)
  obtain ⟨p, hp, e⟩ := List.mem_iff_getElem.1 hm
  rw [← rd_nat o p hp] at e
  have h1 := lp_rc h r p hp i e
  have h2 := lb_get r o.length p hp (Nat.le_refl _)
  rw [e] at h2
  rw [h2, rd_nat _ i (by rw [labP_length]; exact hi), labP_get x x.length i hi hi, h1, e]
end Go.Proofs.YtgfcnfbbiaeboaaGreat.Plain
