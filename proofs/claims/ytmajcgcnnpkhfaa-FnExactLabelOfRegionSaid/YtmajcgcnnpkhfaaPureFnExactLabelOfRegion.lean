/- The pure statement of the law FnExactLabelOfRegion: the program's LabelOfRegion and the reference's one answer alike; no condition beside the row's own. -/
import Derived.Test.YtmajcgcnnpkhfaaPAllx6
import Derived.Test.YtmajcgcnnpkhfaaPAllx7
import Derived.Test.YtmajcgcnnpkhfaaPAllx8
import Derived.Test.YtmajcgcnnpkhfaaBaseZ
namespace Go.Proofs.Ytmajcgcnnpkhfaa.Pure
open Go.RowKit Go.Proofs.YtmajcgcnnpkhfaaW.PrintWords Go.Proofs.YtmajcgcnnpkhfaaW.PrintLast Go.Proofs.Ytmajcgcnnpkhfaa.Hand Go.Proofs.Ytmajcgcnnpkhfaa.PAll Go.Proofs.Ytmajcgcnnpkhfaa.Plain
set_option linter.unusedVariables false
namespace LabelOfRegion
/-- How many stand ahead that are greater than i, or among the first f ones. -/
def rc (i far : Int) : List Int → Int → Int
  | [], _ => 0
  | x :: xs, n => (if x > i ∨ n < far then 1 else 0) + rc i far xs (n + 1)
theorem rc_in (i far : Int) : ∀ (b : List Int) (n : Int), 0 ≤ rc i far b n ∧ rc i far b n ≤ b.length := by
  intro b
  induction b with
  | nil => intro n; exact ⟨Int.le_refl _, Int.le_refl _⟩
  | cons x xs ih =>
    intro n
    have := ih (n + 1)
    rw [rc, List.length_cons]
    split <;> omega
theorem cntL_cons (p : Int → Bool) (x : Int) (l : List Int) : cnt p (x :: l) = (if p x = true then 1 else 0) + cnt p l := by
  unfold cnt
  rw [List.filter_cons]
  split <;> simp <;> omega
theorem rc_cnt (i far : Int) : ∀ (b : List Int) (n : Int), (∀ x ∈ b, x ≠ i) → rc i far b n = cnt (fun x => decide (x > i)) b + cnt (fun x => decide (x < i)) (b.take (far - n).toNat) := by
  intro b
  induction b with
  | nil => intro n _; simp [rc, cnt]
  | cons x xs ih =>
    intro n hb
    have h1 := ih (n + 1) (fun y hy => hb y (List.mem_cons_of_mem _ hy))
    have hx := hb x List.mem_cons_self
    rw [rc, h1, cntL_cons]
    by_cases hf : n < far
    · obtain ⟨m, hm⟩ : ∃ m, (far - n).toNat = m + 1 := ⟨(far - n).toNat - 1, by omega⟩
      have hm2 : (far - (n + 1)).toNat = m := by omega
      rw [hm, hm2, List.take_succ_cons, cntL_cons, if_pos (.inr hf)]
      by_cases hg : x > i
      · rw [if_pos (decide_eq_true hg), if_neg (by simp; omega)]
        omega
      · rw [if_neg (by simp; omega), if_pos (by simp; omega)]
        omega
    · have hm : (far - n).toNat = 0 := by omega
      have hm2 : (far - (n + 1)).toNat = 0 := by omega
      rw [hm, hm2, List.take_zero, List.take_zero]
      by_cases hg : x > i
      · rw [if_pos (.inl hg), if_pos (decide_eq_true hg)]
        omega
      · rw [if_neg (by omega), if_neg (by simp; omega)]
        omega
theorem reCount_l0 (i far : Int) (b : List Int) (h8 : b.length ≤ 100) : ∀ (d n : Nat) (acc : Int), n + d = b.length → 0 ≤ acc → acc ≤ n →
    Ev (fun k => spec_reCount.l0 k far i acc b (b.length : Int) (n : Int)) (acc + rc i far (b.drop n) n) := by
  intro d
  induction d with
  | zero =>
    intro n acc hn h0 h1
    rw [List.drop_eq_nil_of_le (by omega), rc, Int.add_zero]
    refine Ev.step (f := fun _ => some acc) (fun k => ?_) (Ev.now _)
    rw [spec_reCount.l0, if_neg (by omega)]
  | succ d ih =>
    intro n acc hn h0 h1
    have hlt : n < b.length := by omega
    have ed : b.drop n = b[n] :: b.drop (n + 1) := List.drop_eq_getElem_cons hlt
    have en : ((n + 1 : Nat) : Int) = (n : Int) + 1 := by omega
    rw [ed, rc]
    by_cases hg : b[n] > i
    · rw [if_pos (.inl hg)]
      have h := ih (n + 1) (acc + 1) (by omega) (by omega) (by omega)
      rw [show acc + (1 + rc i far (b.drop (n + 1)) ((n : Int) + 1)) = acc + 1 + rc i far (b.drop (n + 1)) ((n + 1 : Nat) : Int) by rw [en]; omega]
      refine Ev.step (fun k => ?_) h
      rw [spec_reCount.l0, if_pos (by omega), if_pos (by omega), if_pos (by omega), rd_nat b n hlt, if_pos hg, wrap_succ n (by omega), wrap64_in (acc + 1) (by omega) (by omega)]
    · by_cases hf : (n : Int) < far
      · rw [if_pos (.inr hf)]
        have h := ih (n + 1) (acc + 1) (by omega) (by omega) (by omega)
        rw [show acc + (1 + rc i far (b.drop (n + 1)) ((n : Int) + 1)) = acc + 1 + rc i far (b.drop (n + 1)) ((n + 1 : Nat) : Int) by rw [en]; omega]
        refine Ev.step (fun k => ?_) h
        rw [spec_reCount.l0, if_pos (by omega), if_pos (by omega), if_pos (by omega), rd_nat b n hlt, if_neg hg, if_pos hf, wrap_succ n (by omega), wrap64_in (acc + 1) (by omega) (by omega)]
      · rw [if_neg (by omega)]
        have h := ih (n + 1) acc (by omega) (by omega) (by omega)
        rw [show acc + (0 + rc i far (b.drop (n + 1)) ((n : Int) + 1)) = acc + rc i far (b.drop (n + 1)) ((n + 1 : Nat) : Int) by rw [en]; omega]
        refine Ev.step (fun k => ?_) h
        rw [spec_reCount.l0, if_pos (by omega), if_pos (by omega), if_pos (by omega), rd_nat b n hlt, if_neg hg, if_neg hf, wrap_succ n (by omega)]
theorem reCount_ev (b : List Int) (far i : Int) (h8 : b.length ≤ 100) : Ev (fun k => spec_reCount.f k b far i) (rc i far b 0) := by
  unfold spec_reCount.f
  have h := reCount_l0 i far b h8 b.length 0 0 (by omega) (Int.le_refl _) (Int.le_refl _)
  rw [List.drop_zero, Int.zero_add] at h
  exact h
theorem labelAt_eq (b : List Int) (far i : Int) (h8 : b.length ≤ 100) (h0 : 0 ≤ far) (h1 : far ≤ b.length) (hb : ∀ x ∈ b, x ≠ i) : impl_labelAt.f b far i = some (rc i far b 0) := by
  have h := rc_cnt i far b 0 hb
  rw [Int.sub_zero] at h
  have hi := rc_in i far b 0
  unfold impl_labelAt.f countIf_labelAt1.f countIf_labelAt2.f
  rw [Option.bind_some, if_pos h0, if_pos h1, Option.bind_some, ← h, wrap64_in _ (by omega) (by omega)]
/-- The labels of the first n places. -/
def lb (o f : List Int) : Nat → List Int
  | 0 => List.replicate o.length 0
  | n + 1 => (lb o f n).set (rd o n).toNat (rc (rd o n) (rd f n) (o.take n) 0)
theorem lb_length (o f : List Int) : ∀ n, (lb o f n).length = o.length := by
  intro n
  induction n with
  | zero => simp [lb]
  | succ n ih => rw [lb, List.length_set, ih]
theorem spec_l0 (o f : List Int) (hr : reg o f = true) : ∀ (d n : Nat), n + d = o.length →
    Ev (fun k => spec_reLabelOf.l0 k (lb o f n) o (o.length : Int) (n : Int) o f) (lb o f o.length) := by
  have h8 := (reg_len hr).1
  have hl := (reg_len hr).2
  intro d
  induction d with
  | zero =>
    intro n hn
    obtain rfl : n = o.length := by omega
    refine Ev.step (f := fun _ => some (lb o f o.length)) (fun k => ?_) (Ev.now _)
    rw [spec_reLabelOf.l0, if_neg (by omega)]
  | succ d ih =>
    intro n hn
    have hlt : n < o.length := by omega
    have ho := order_in (reg_order hr) (rd o n) (by rw [rd_nat o n hlt]; exact List.getElem_mem hlt)
    refine Ev.step (f := ?f1) (fun k => ?h1) ?g1
    case h1 => rw [spec_reLabelOf.l0, if_pos (by omega), if_pos (by omega), if_pos (by omega), if_pos (by omega), if_pos (by omega), Int.toNat_natCast]
    refine Ev.bind (reCount_ev (o.take n) (rd f n) (rd o n) (by rw [List.length_take]; omega)) (Ev.pos (by omega) (Ev.pos (by rw [lb_length]; omega) ?_))
    rw [wrap_succ n (by omega)]
    exact ih (n + 1) (by omega)
theorem order_new {o : List Int} (h : order o = true) (n : Nat) (hn : n < o.length) : ∀ x ∈ o.take n, x ≠ rd o n := by
  unfold order at h
  rw [Bool.and_eq_true, decide_eq_true_eq, decide_eq_true_eq] at h
  have hd := ((order_iff o).1 h.1).1
  have h3 : (o.take (n + 1)).Nodup := hd.sublist (List.take_sublist _ _)
  rw [List.take_succ_eq_append_getElem hn, List.nodup_append] at h3
  intro x hx
  rw [rd_nat o n hn]
  exact h3.2.2 x hx _ List.mem_cons_self
theorem impl_l0 (o f : List Int) (hr : reg o f = true) : ∀ (d n : Nat), n + d = o.length →
    Ev (fun k => impl_LabelOfRegion.l0 k (lb o f n) o (o.length : Int) (n : Int) o f) (lb o f o.length, true) := by
  have h8 := (reg_len hr).1
  have hl := (reg_len hr).2
  intro d
  induction d with
  | zero =>
    intro n hn
    obtain rfl : n = o.length := by omega
    refine Ev.step (f := fun _ => some (lb o f o.length, true)) (fun k => ?_) (Ev.now _)
    rw [impl_LabelOfRegion.l0, if_neg (by omega)]
  | succ d ih =>
    intro n hn
    have hlt : n < o.length := by omega
    have ho := order_in (reg_order hr) (rd o n) (by rw [rd_nat o n hlt]; exact List.getElem_mem hlt)
    have hf := reg_far hr n (by omega)
    have hlen : (o.take n).length = n := by rw [List.length_take]; omega
    refine Ev.step (fun k => ?h1) (ih (n + 1) (by omega))
    rw [impl_LabelOfRegion.l0, if_pos (by omega), if_pos (by omega), if_pos (by omega), if_pos (by omega), if_pos (by omega), Int.toNat_natCast,
      labelAt_eq (o.take n) (rd f n) (rd o n) (by omega) hf.1 (by rw [hlen]; exact hf.2) (order_new (reg_order hr) n hlt), Option.bind_some, if_pos (by omega), if_pos (by rw [lb_length]; omega), wrap_succ n (by omega)]
    rfl
def res (o f : List Int) : List Int × Bool := if reg o f = true then (lb o f o.length, true) else ([], false)
theorem res_length (o f : List Int) : (res o f).1.length ≤ 100 := by
  unfold res
  split
  · rename_i h
    have := (reg_len h).1
    simp only [lb_length]
    omega
  · simp
theorem spec_ev (o f : List Int) : Ev (fun k => spec_LabelOfRegion.f k o f) (res o f) := by
  unfold spec_LabelOfRegion.f res
  refine Ev.bind (reGood_ev o f) ?_
  cases h : reg o f with
  | false => rw [if_neg (by decide)]; exact Ev.neg (by decide) (Ev.now _)
  | true =>
    have h8 := (reg_len h).1
    rw [if_pos rfl]
    refine Ev.pos rfl (Ev.bind ?_ (Ev.now _))
    unfold spec_reLabelOf.f
    refine Ev.pos (by omega) (Ev.pos (by omega) ?_)
    rw [Int.toNat_natCast]
    exact spec_l0 o f h o.length 0 (by omega)
theorem impl_ev (o f : List Int) (hs : o.length ≤ 1099511627776) : Ev (fun k => impl_LabelOfRegion.f k o f) (res o f) := by
  unfold impl_LabelOfRegion.f res
  refine Ev.bind (isRegion_ev o f hs) ?_
  cases h : reg o f with
  | false => rw [if_neg (by decide)]; exact Ev.neg (by decide) (Ev.now _)
  | true =>
    have h8 := (reg_len h).1
    rw [if_pos rfl]
    refine Ev.pos rfl (Ev.pos (by omega) (Ev.pos (by omega) ?_))
    rw [Int.toNat_natCast]
    exact impl_l0 o f h o.length 0 (by omega)
end LabelOfRegion
theorem FnExactLabelOfRegion : ∀ (o f : List Int), o.length ≤ maxLen → f.length ≤ maxLen → ∃ k, laws_FnExactLabelOfRegion.f k o f = some true := by
  intro o f hm1 hm2
  refine Ev.rounds ?_
  unfold laws_FnExactLabelOfRegion.f
  obtain ⟨z, hz, hzl⟩ := szRegion_eq o f hm1 hm2
  refine Ev.bindc hz ?_
  by_cases hb : z < 0
  · exact Ev.pos hb (Ev.now _)
  have hl := hzl (by omega)
  have h1 : o.length ≤ 1099511627 := by omega
  have h2 : f.length ≤ 1099511627 := by omega
  have h1' : o.length ≤ 1099511627776 := by omega
  have h2' : f.length ≤ 1099511627776 := by omega
  have hr := LabelOfRegion.res_length o f
  refine Ev.neg hb (Ev.bind (toRegion_ev o f h1' h2') (Ev.bind (LabelOfRegion.spec_ev o f) (Ev.bind (toRegion_ev o f h1' h2') (Ev.bind (LabelOfRegion.impl_ev o f h1') (Ev.bind (eqIntS_same _ (by omega)) (Ev.pos rfl ?_))))))
  rw [bne_self_eq_false]
  refine Ev.step (f := ?f1) (fun k => ?h1) ?g1
  case h1 => rw [laws_FnExactLabelOfRegion.j0, if_neg (by decide)]
  refine Ev.bind (toRegion_ev o f h1' h2') (Ev.bind (eqRegion_same _ _ h1' h2') (Ev.pos rfl (Ev.bind (markRegion_ev o f h1 h2) (Ev.neg (by dsimp only; omega) (Ev.bind (eqIntS_same _ (by omega)) (Ev.pos rfl ?_))))))
  rw [bne_self_eq_false]
  refine Ev.step (f := ?f2) (fun k => ?h2) ?g2
  case h2 => rw [laws_FnExactLabelOfRegion.j1, if_neg (by decide)]
  refine Ev.bind (markIntS_ev _ 1 (by omega) (by omega) (by omega)) (Ev.bind (heldIntS_ev 1 _ (by omega) (by omega) (by omega)) (Ev.neg (by omega) (Ev.pos rfl (Ev.bind (toRegion_ev o f h1' h2') (Ev.bind (LabelOfRegion.impl_ev o f h1') (Ev.bind (eqIntS_same _ (by omega)) (Ev.pos rfl ?_)))))))
  rw [bne_self_eq_false]
  refine Ev.step (f := ?f3) (fun k => ?h3) ?g3
  case h3 => rw [laws_FnExactLabelOfRegion.j2, if_neg (by decide)]
  exact Ev.bind (heldIntS_ev 1 _ (by omega) (by omega) (by omega)) (Ev.neg (by omega) (Ev.pos rfl (Ev.now _)))
end Go.Proofs.Ytmajcgcnnpkhfaa.Pure
