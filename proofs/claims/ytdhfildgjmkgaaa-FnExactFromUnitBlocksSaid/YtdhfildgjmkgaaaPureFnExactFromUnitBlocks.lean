/- The pure facts of the law FnExactFromUnitBlocks: the program's FromUnitBlocks and the reference's one answer alike. Condition: what the program's own sizes allow (at most 2^40 numbers in all, and rows). -/
import Derived.Test.YtdhfildgjmkgaaaPAllx1
import Derived.Test.YtdhfildgjmkgaaaPAllx2
import Derived.Test.YtdhfildgjmkgaaaPAllx3
import Derived.Test.YtdhfildgjmkgaaaPAllx4
import Derived.Test.YtdhfildgjmkgaaaBaseO
import Derived.Test.YtdhfildgjmkgaaaPureFnExactUnitBlocks
namespace Go.Proofs.Ytdhfildgjmkgaaa.Pure
open Go.RowKit Go.Proofs.YtdhfildgjmkgaaaW.PrintWords Go.Proofs.YtdhfildgjmkgaaaW.PrintLast Go.Proofs.Ytdhfildgjmkgaaa.Hand Go.Proofs.Ytdhfildgjmkgaaa.PAll Go.Proofs.Ytdhfildgjmkgaaa.Plain
set_option linter.unusedVariables false
namespace FromUnit
/-! ### Equality of rows -/
theorem l1Same_l0 (a b : List Int) (hl : a.length = b.length) (hs : a.length ≤ 1099511627776) : ∀ (d n : Nat), n + d = a.length → Ev (fun k => spec_l1Same.l0 k a b (a.length : Int) (n : Int)) (decide (a.drop n = b.drop n)) := by
  intro d
  induction d with
  | zero =>
    intro n hn
    refine Ev.step (f := fun _ => some (decide (a.drop n = b.drop n))) (fun k => ?_) (Ev.now _)
    rw [spec_l1Same.l0, if_neg (by omega), List.drop_eq_nil_of_le (by omega), List.drop_eq_nil_of_le (by omega)]
    rfl
  | succ d ih =>
    intro n hn
    have h1 : n < a.length := by omega
    have h2 : n < b.length := by omega
    rw [List.drop_eq_getElem_cons h1, List.drop_eq_getElem_cons h2, cons_eq]
    by_cases hx : a[n] = b[n]
    · rw [decide_eq_true hx, Bool.true_and]
      refine Ev.step (fun k => ?_) (ih (n + 1) (by omega))
      rw [spec_l1Same.l0, if_pos (by omega), if_pos (by omega), if_pos (by omega), if_pos (by omega), rd_nat a n h1, rd_nat b n h2, if_pos hx, wrap_succ n (by omega)]
    · rw [decide_eq_false hx, Bool.false_and]
      refine Ev.step (f := fun _ => some false) (fun k => ?_) (Ev.now _)
      rw [spec_l1Same.l0, if_pos (by omega), if_pos (by omega), if_pos (by omega), if_pos (by omega), rd_nat a n h1, rd_nat b n h2, if_neg hx]
theorem l1Same_ev (a b : List Int) (hs : a.length ≤ 1099511627776) : Ev (fun k => spec_l1Same.f k a b) (decide (a = b)) := by
  unfold spec_l1Same.f
  by_cases hl : a.length = b.length
  · exact Ev.pos (by omega) (l1Same_l0 a b hl hs a.length 0 (by omega))
  · rw [decide_eq_false (fun e => hl (by rw [e]))]
    exact Ev.neg (by omega) (Ev.now _)
theorem equal_l0 (a b : List Int) (hl : a.length = b.length) (hs : a.length ≤ 1099511627776) : ∀ (d n : Nat), n + d = a.length → Ev (fun k => slices_Equal_int_int.l0 k a b (a.length : Int) (n : Int)) (decide (a.drop n = b.drop n)) := by
  intro d
  induction d with
  | zero =>
    intro n hn
    refine Ev.step (f := fun _ => some (decide (a.drop n = b.drop n))) (fun k => ?_) (Ev.now _)
    rw [slices_Equal_int_int.l0, if_neg (by omega), List.drop_eq_nil_of_le (by omega), List.drop_eq_nil_of_le (by omega)]
    rfl
  | succ d ih =>
    intro n hn
    have h1 : n < a.length := by omega
    have h2 : n < b.length := by omega
    rw [List.drop_eq_getElem_cons h1, List.drop_eq_getElem_cons h2, cons_eq]
    by_cases hx : a[n] = b[n]
    · rw [decide_eq_true hx, Bool.true_and]
      refine Ev.step (fun k => ?_) (ih (n + 1) (by omega))
      rw [slices_Equal_int_int.l0, if_pos (by omega), if_pos (by omega), if_pos (by omega), if_pos (by omega), rd_nat a n h1, rd_nat b n h2, if_pos hx, wrap_succ n (by omega)]
    · rw [decide_eq_false hx, Bool.false_and]
      refine Ev.step (f := fun _ => some false) (fun k => ?_) (Ev.now _)
      rw [slices_Equal_int_int.l0, if_pos (by omega), if_pos (by omega), if_pos (by omega), if_pos (by omega), rd_nat a n h1, rd_nat b n h2, if_neg hx]
theorem equal_ev (a b : List Int) (hs : a.length ≤ 1099511627776) : Ev (fun k => slices_Equal_int_int.f k a b) (decide (a = b)) := by
  unfold slices_Equal_int_int.f
  by_cases hl : a.length = b.length
  · exact Ev.pos (by omega) (equal_l0 a b hl hs a.length 0 (by omega))
  · rw [decide_eq_false (fun e => hl (by rw [e]))]
    exact Ev.neg (by omega) (Ev.now _)
theorem eqRows_ev : ∀ (A B : List (List Int)), A.length = B.length → (∀ x ∈ A, x.length ≤ 1099511627776) → Ev (fun k => eqRows (slices_Equal_int_int.f k) A B) (decide (A = B))
  | [], [], _, _ => by simp only [eqRows]; exact Ev.now _
  | [], _ :: _, h, _ => by simp at h
  | _ :: _, [], h, _ => by simp at h
  | x :: xs, y :: ys, h, hx => by
    have ih := eqRows_ev xs ys (by simpa using h) (fun z hz => hx z (List.mem_cons_of_mem _ hz))
    simp only [eqRows]
    refine Ev.bind (equal_ev x y (hx x List.mem_cons_self)) ?_
    by_cases e : x = y
    · rw [decide_eq_true e]
      refine Ev.pos rfl ?_
      have e2 : decide (x :: xs = y :: ys) = decide (xs = ys) := by simp [e]
      rw [e2]
      exact ih
    · rw [decide_eq_false e]
      have e2 : decide (x :: xs = y :: ys) = false := by simp [e]
      rw [e2]
      exact Ev.neg (by decide) (Ev.now _)
theorem equalFunc_ev (A B : List (List Int)) (hA : A.length ≤ 1099511627776) (hx : ∀ x ∈ A, x.length ≤ 1099511627776) : Ev (fun k => slices_EqualFunc_rows.f k A B) (decide (A = B)) := by
  unfold slices_EqualFunc_rows.f
  by_cases hl : A.length = B.length
  · exact Ev.pos hl (Ev.pos hA (eqRows_ev A B hl hx))
  · rw [decide_eq_false (fun e => hl (by rw [e]))]
    exact Ev.neg hl (Ev.now _)
/-! ### What both write -/
def lag (j : Nat) : Int := ((j - 1 : Nat) : Int)
def fillB (first : Int) : Nat → List Int → List Int → List Int
  | _, [], out => out
  | j, c :: cs, out => fillB first (j + 1) cs (out.set c.toNat (first + lag j))
def fillL : Int → List (List Int) → List Int → List Int
  | _, [], out => out
  | first, b :: bs, out => fillL (first + (b.length : Int)) bs (fillB first 0 b out)
theorem fillB_length (first : Int) : ∀ (b : List Int) (j : Nat) (out : List Int), (fillB first j b out).length = out.length
  | [], j, out => rfl
  | c :: cs, j, out => by rw [fillB, fillB_length first cs, List.length_set]
theorem fillL_length : ∀ (L : List (List Int)) (first : Int) (out : List Int), (fillL first L out).length = out.length
  | [], first, out => rfl
  | b :: bs, first, out => by rw [fillL, fillL_length bs, fillB_length]
theorem mx_lag (n : Nat) (h : n ≤ 1000) : mx (wrap64 ((n : Int) - 1)) 0 = lag n := by
  rw [wrap64_in _ (by omega) (by omega)]
  unfold mx lag
  split <;> omega
theorem most_lag (n : Nat) (h : n ≤ 1000) : spec_l1Most.f (wrap64 ((n : Int) - 1)) 0 = some (lag n) := by
  rw [wrap64_in _ (by omega) (by omega)]
  unfold spec_l1Most.f lag
  split
  · congr 1; omega
  · congr 1; omega
theorem rdL_nat (L : List (List Int)) (i : Nat) (h : i < L.length) : rd_L1 L (i : Int) = L[i] := by
  unfold rd_L1
  rw [Int.toNat_natCast, List.getD_eq_getElem?_getD, List.getElem?_eq_getElem h]
  rfl
/-! ### The program -/
theorem impl_l1 (L : List (List Int)) (i : Nat) (hi : i < 4611686018427387904) (b : List Int) (hb : b.length ≤ 8) (first : Int) (hf : 0 ≤ first ∧ first ≤ 8) (N : Nat) (hin : ∀ c ∈ b, 0 ≤ c ∧ c < (N : Int)) (r : List Int × Bool) : ∀ (d j : Nat) (out : List Int), j + d = b.length → out.length = N →
    Ev (fun k => impl_FromUnitBlocks.l0 k L (fillB first j (b.drop j) out) (first + (b.length : Int)) L (L.length : Int) ((i + 1 : Nat) : Int)) r →
    Ev (fun k => impl_FromUnitBlocks.l1 k L out first b L (L.length : Int) (i : Int) b (b.length : Int) (j : Int)) r := by
  intro d
  induction d with
  | zero =>
    intro j out hj ho h
    rw [List.drop_eq_nil_of_le (by omega)] at h
    refine Ev.step (fun k => ?_) h
    rw [impl_FromUnitBlocks.l1, if_neg (by omega), wrap64_in (first + (b.length : Int)) (by omega) (by omega), wrap_succ i (by omega), fillB]
  | succ d ih =>
    intro j out hj ho h
    have hlt : j < b.length := by omega
    have hc := hin b[j] (List.getElem_mem hlt)
    rw [List.drop_eq_getElem_cons hlt, fillB] at h
    refine Ev.step (fun k => ?_) (ih (j + 1) (out.set b[j].toNat (first + lag j)) (by omega) (by rw [List.length_set]; exact ho) h)
    have hlag : lag j ≤ 8 ∧ 0 ≤ lag j := by unfold lag; omega
    rw [impl_FromUnitBlocks.l1, if_pos (by omega), if_pos (by omega), if_pos (by omega), rd_nat b j hlt, if_pos hc.1, if_pos (by omega), mx_lag j (by omega), wrap64_in (first + lag j) (by omega) (by omega), wrap_succ j (by omega)]
/-- The end of both: what is written is told where its own blocks are those. -/
theorem flat_cons_in {b : List Int} {bs : List (List Int)} {x : Int} (h : x ∈ b) : x ∈ (b :: bs).flatten := by
  rw [List.flatten_cons, List.mem_append]
  exact .inl h
theorem impl_l0 (L : List (List Int)) (hL : L.length < 4611686018427387904) (N : Nat) (r : List Int × Bool) : ∀ (d i : Nat) (first : Int) (out : List Int), i + d = L.length → out.length = N → 0 ≤ first → first + ((L.drop i).flatten.length : Int) ≤ 8 → (∀ c ∈ (L.drop i).flatten, 0 ≤ c ∧ c < (N : Int)) →
    Ev (fun k => (impl_UnitBlocks.f k (fillL first (L.drop i) out)).bind fun bt598 => (if bt598.2 = true then ((slices_EqualFunc_rows.f k bt598.1 L).bind fun t602 => (if t602 = true then (some (fillL first (L.drop i) out, true)) else (some (([] : List Int), false)))) else (some (([] : List Int), false)))) r →
    Ev (fun k => impl_FromUnitBlocks.l0 k L out first L (L.length : Int) (i : Int)) r := by
  intro d
  induction d with
  | zero =>
    intro i first out hi ho h0 h8 hin h
    rw [List.drop_eq_nil_of_le (by omega)] at h
    refine Ev.step (fun k => ?_) h
    rw [impl_FromUnitBlocks.l0, if_neg (by omega), fillL]
  | succ d ih =>
    intro i first out hi ho h0 h8 hin h
    have hlt : i < L.length := by omega
    rw [List.drop_eq_getElem_cons hlt] at h h8 hin
    rw [List.flatten_cons, List.length_append] at h8
    have ihh := ih (i + 1) (first + (L[i].length : Int)) (fillB first 0 L[i] out) (by omega) (by rw [fillB_length]; exact ho) (by omega) (by omega) (fun c hc => hin c (by rw [List.flatten_cons, List.mem_append]; exact .inr hc))
    rw [fillL] at h
    refine Ev.step (f := ?f1) (fun k => ?h1) ?g1
    case h1 => rw [impl_FromUnitBlocks.l0, if_pos (by omega), if_pos (by omega), if_pos (by omega), rdL_nat L i hlt]
    exact impl_l1 L i (by omega) L[i] (by omega) first (by omega) N (fun c hc => hin c (flat_cons_in hc)) r L[i].length 0 out (by omega) ho (ihh h)
/-! ### The reference -/
theorem sizes_l0 (L : List (List Int)) (hL : L.length < 4611686018427387904) (hr : ∀ b ∈ L, b.length ≤ 1099511627776) (r : List Int × Bool) : ∀ (d i : Nat) (n : Int), i + d = L.length → 0 ≤ n ∧ n ≤ 8 →
    (¬ ((∀ b ∈ L.drop i, b ≠ []) ∧ n + ((L.drop i).flatten.length : Int) ≤ 8) → r = ([], false)) →
    (((∀ b ∈ L.drop i, b ≠ []) ∧ n + ((L.drop i).flatten.length : Int) ≤ 8) → Ev (fun k => spec_FromUnitBlocks.l1 k L (n + ((L.drop i).flatten.length : Int)) (List.replicate (n + ((L.drop i).flatten.length : Int)).toNat 0) ([] : List Int) 0 L (L.length : Int) 0) r) →
    Ev (fun k => spec_FromUnitBlocks.l0 k L n L (L.length : Int) (i : Int)) r := by
  intro d
  induction d with
  | zero =>
    intro i n hi hn hno hyes
    rw [List.drop_eq_nil_of_le (by omega)] at hyes
    have h := hyes ⟨by simp, by simp; omega⟩
    simp only [List.flatten_nil, List.length_nil, Int.natCast_zero, Int.add_zero] at h
    refine Ev.step (fun k => ?_) h
    rw [spec_FromUnitBlocks.l0, if_neg (by omega), if_pos (by omega), if_pos (by omega)]
  | succ d ih =>
    intro i n hi hn hno hyes
    have hlt : i < L.length := by omega
    have hbl := hr L[i] (List.getElem_mem hlt)
    have hstep : ∀ k, spec_FromUnitBlocks.l0 (k + 1) L n L (L.length : Int) (i : Int) = _ := fun k => by rw [spec_FromUnitBlocks.l0, if_pos (by omega), if_pos (by omega), if_pos (by omega), rdL_nat L i hlt, wrap64_in (n + (L[i].length : Int)) (by omega) (by omega), wrap_succ i (by omega)]
    rw [List.drop_eq_getElem_cons hlt] at hno hyes
    simp only [List.forall_mem_cons, List.flatten_cons, List.length_append, Int.natCast_add] at hno hyes
    by_cases h0 : L[i].length = 0
    · have hr0 := hno (fun h => h.1.1 (List.eq_nil_of_length_eq_zero h0))
      subst hr0
      refine Ev.step (f := fun _ => some ([], false)) (fun k => ?_) (Ev.now _)
      rw [hstep, if_pos (by omega)]
    · by_cases h8 : n + (L[i].length : Int) > 8
      · have hr0 := hno (fun h => by omega)
        subst hr0
        refine Ev.step (f := fun _ => some ([], false)) (fun k => ?_) (Ev.now _)
        rw [hstep, if_neg (by omega), if_pos h8]
      · refine Ev.step (f := ?f1) (fun k => ?h1) ?g1
        case h1 => rw [hstep, if_neg (by omega), if_neg h8]
        refine ih (i + 1) (n + (L[i].length : Int)) (by omega) (by omega) (fun h => hno (fun h2 => h ⟨h2.1.2, by omega⟩)) (fun h => ?_)
        have e : n + (L[i].length : Int) + ((L.drop (i + 1)).flatten.length : Int) = n + ((L[i].length : Int) + ((L.drop (i + 1)).flatten.length : Int)) := by omega
        rw [e]
        exact hyes ⟨⟨fun he => h0 (by rw [he]; rfl), h.1⟩, by omega⟩
/-- No number beyond the places, none twice. -/
def okS (N : Int) : List Int → List Int → Bool
  | _, [] => true
  | seen, c :: cs => (decide (0 ≤ c ∧ c ≤ N - 1) && !decide (c ∈ seen)) && okS N (seen ++ [c]) cs
theorem okS_append (N : Int) : ∀ (a seen b : List Int), okS N seen (a ++ b) = (okS N seen a && okS N (seen ++ a) b)
  | [], seen, b => by simp [okS]
  | c :: cs, seen, b => by
    rw [List.cons_append, okS, okS, okS_append N cs, List.append_assoc, List.singleton_append]
    simp only [Bool.and_assoc]
theorem okS_iff (N : Int) : ∀ (cs seen : List Int), seen.Nodup → (okS N seen cs = true ↔ (seen ++ cs).Nodup ∧ ∀ c ∈ cs, 0 ≤ c ∧ c < N)
  | [], seen, hs => by
    rw [okS, List.append_nil]
    exact ⟨fun _ => ⟨hs, by simp⟩, fun _ => rfl⟩
  | c :: cs, seen, hs => by
    rw [okS, Bool.and_eq_true, Bool.and_eq_true, decide_eq_true_eq, Bool.not_eq_true', decide_eq_false_iff_not]
    constructor
    · rintro ⟨⟨h1, h2⟩, h3⟩
      have hs2 : (seen ++ [c]).Nodup := by
        rw [List.nodup_append]
        refine ⟨hs, by simp, fun a ha b hb => ?_⟩
        rw [List.mem_singleton] at hb
        subst hb
        exact fun e => h2 (e ▸ ha)
      have h4 := (okS_iff N cs (seen ++ [c]) hs2).1 h3
      rw [List.append_assoc, List.singleton_append] at h4
      exact ⟨h4.1, fun x hx => by
        rcases List.mem_cons.1 hx with rfl | hx
        · omega
        · exact h4.2 x hx⟩
    · rintro ⟨h1, h2⟩
      have h3 := h2 c List.mem_cons_self
      have h4 : c ∉ seen := fun hm => by
        rw [List.nodup_append] at h1
        exact h1.2.2 c hm c List.mem_cons_self rfl
      have hs2 : (seen ++ [c]).Nodup := by
        rw [List.nodup_append]
        refine ⟨hs, by simp, fun a ha b hb => ?_⟩
        rw [List.mem_singleton] at hb
        subst hb
        exact fun e => h4 (e ▸ ha)
      refine ⟨⟨by omega, h4⟩, (okS_iff N cs (seen ++ [c]) hs2).2 ⟨by rw [List.append_assoc, List.singleton_append]; exact h1, fun x hx => h2 x (List.mem_cons_of_mem _ hx)⟩⟩
theorem spec_l2 (L : List (List Int)) (i : Nat) (hi : i < 4611686018427387904) (b : List Int) (hb : b.length ≤ 8) (first : Int) (hf : 0 ≤ first ∧ first ≤ 8) (N : Nat) (hN : N ≤ 8) (r : List Int × Bool) : ∀ (d j : Nat) (out seen : List Int), j + d = b.length → out.length = N → seen.length + d ≤ 100 →
    (okS (N : Int) seen (b.drop j) = false → r = ([], false)) →
    (okS (N : Int) seen (b.drop j) = true → Ev (fun k => spec_FromUnitBlocks.l1 k L (N : Int) (fillB first j (b.drop j) out) (seen ++ b.drop j) (first + (b.length : Int)) L (L.length : Int) ((i + 1 : Nat) : Int)) r) →
    Ev (fun k => spec_FromUnitBlocks.l2 k L (N : Int) out seen first b L (L.length : Int) (i : Int) b (b.length : Int) (j : Int)) r := by
  intro d
  induction d with
  | zero =>
    intro j out seen hj ho hs hno hyes
    rw [List.drop_eq_nil_of_le (by omega)] at hyes
    have h := hyes rfl
    rw [List.append_nil, fillB] at h
    refine Ev.step (fun k => ?_) h
    rw [spec_FromUnitBlocks.l2, if_neg (by omega), wrap64_in (first + (b.length : Int)) (by omega) (by omega), wrap_succ i (by omega)]
  | succ d ih =>
    intro j out seen hj ho hs hno hyes
    have hlt : j < b.length := by omega
    have hlag : lag j ≤ 8 ∧ 0 ≤ lag j := by unfold lag; omega
    rw [List.drop_eq_getElem_cons hlt] at hno hyes
    rw [okS] at hno hyes
    rw [fillB] at hyes
    refine Ev.step (f := ?f1) (fun k => ?h1) ?g1
    case h1 => rw [spec_FromUnitBlocks.l2, if_pos (by omega), if_pos (by omega), if_pos (by omega), rd_nat b j hlt, wrap64_in ((N : Int) - 1) (by omega) (by omega), l1In_eq, Option.bind_some]
    by_cases hc : 0 ≤ b[j] ∧ b[j] ≤ (N : Int) - 1
    · rw [decide_eq_true hc, Bool.true_and] at hno hyes
      rw [decide_eq_true hc]
      refine Ev.pos rfl (Ev.bind (l1Has_ev seen b[j] (by omega)) ?_)
      by_cases hm : b[j] ∈ seen
      · rw [decide_eq_true hm] at hno ⊢
        have hr := hno rfl
        subst hr
        exact Ev.pos rfl (Ev.now _)
      · rw [decide_eq_false hm] at hno hyes ⊢
        simp only [Bool.not_false, Bool.true_and] at hno hyes
        refine Ev.neg (by decide) (Ev.pos (by omega) (Ev.bindc (most_lag j (by omega)) (Ev.pos hc.1 (Ev.pos (by omega) ?_))))
        rw [wrap64_in (first + lag j) (by omega) (by omega), wrap_succ j (by omega)]
        refine ih (j + 1) (out.set b[j].toNat (first + lag j)) (seen ++ [b[j]]) (by omega) (by rw [List.length_set]; exact ho) (by simp; omega) hno (fun h => ?_)
        rw [List.append_assoc, List.singleton_append]
        exact hyes h
    · rw [decide_eq_false hc] at hno ⊢
      have hr := hno rfl
      subst hr
      exact Ev.neg (by decide) (Ev.now _)
theorem spec_l1 (L : List (List Int)) (hL : L.length < 4611686018427387904) (N : Nat) (hN : N ≤ 8) (r : List Int × Bool) : ∀ (d i : Nat) (first : Int) (out seen : List Int), i + d = L.length → out.length = N → 0 ≤ first → first + ((L.drop i).flatten.length : Int) ≤ 8 → seen.length + (L.drop i).flatten.length ≤ 50 →
    (okS (N : Int) seen (L.drop i).flatten = false → r = ([], false)) →
    (okS (N : Int) seen (L.drop i).flatten = true → Ev (fun k => (spec_UnitBlocks.f k (fillL first (L.drop i) out)).bind fun bt479 => (if bt479.2 = true then (spec_FromUnitBlocks.j3 k L (fillL first (L.drop i) out) bt479.1 ((bt479.1.length : Int) != (L.length : Int))) else (spec_FromUnitBlocks.j3 k L (fillL first (L.drop i) out) bt479.1 true))) r) →
    Ev (fun k => spec_FromUnitBlocks.l1 k L (N : Int) out seen first L (L.length : Int) (i : Int)) r := by
  intro d
  induction d with
  | zero =>
    intro i first out seen hi ho h0 h8 hs hno hyes
    rw [List.drop_eq_nil_of_le (by omega)] at hyes
    have h := hyes rfl
    rw [fillL] at h
    refine Ev.step (fun k => ?_) h
    rw [spec_FromUnitBlocks.l1, if_neg (by omega)]
  | succ d ih =>
    intro i first out seen hi ho h0 h8 hs hno hyes
    have hlt : i < L.length := by omega
    rw [List.drop_eq_getElem_cons hlt] at hno hyes h8 hs
    rw [List.flatten_cons, List.length_append] at h8 hs
    rw [List.flatten_cons, okS_append] at hno hyes
    rw [fillL] at hyes
    refine Ev.step (f := ?f1) (fun k => ?h1) ?g1
    case h1 => rw [spec_FromUnitBlocks.l1, if_pos (by omega), if_pos (by omega), if_pos (by omega), rdL_nat L i hlt]
    refine spec_l2 L i (by omega) L[i] (by omega) first (by omega) N hN r L[i].length 0 out seen (by omega) ho (by omega) (fun h => hno (by rw [show okS (N : Int) seen L[i] = false from h]; rfl)) (fun h => ?_)
    have h' : okS (N : Int) seen L[i] = true := h
    rw [h', Bool.true_and] at hno hyes
    exact ih (i + 1) (first + (L[i].length : Int)) (fillB first 0 L[i] out) (seen ++ L[i]) (by omega) (by rw [fillB_length]; exact ho) (by omega) (by omega) (by rw [List.length_append]; omega) hno hyes
theorem spec_l3 (out : List Int) (ws L : List (List Int)) (hl : ws.length = L.length) (hL : L.length < 4611686018427387904) (hr : ∀ b ∈ L, b.length ≤ 1099511627776) : ∀ (d i : Nat), i + d = L.length →
    Ev (fun k => spec_FromUnitBlocks.l3 k out ws L (L.length : Int) (i : Int)) (if L.drop i = ws.drop i then (out, true) else ([], false)) := by
  intro d
  induction d with
  | zero =>
    intro i hi
    rw [List.drop_eq_nil_of_le (by omega), List.drop_eq_nil_of_le (by omega), if_pos rfl]
    refine Ev.step (f := fun _ => some (out, true)) (fun k => ?_) (Ev.now _)
    rw [spec_FromUnitBlocks.l3, if_neg (by omega)]
  | succ d ih =>
    intro i hi
    have h1 : i < L.length := by omega
    have h2 : i < ws.length := by omega
    rw [List.drop_eq_getElem_cons h1, List.drop_eq_getElem_cons h2]
    refine Ev.step (f := ?f1) (fun k => ?h1) ?g1
    case h1 => rw [spec_FromUnitBlocks.l3, if_pos (by omega), if_pos (by omega), if_pos (by omega), if_pos (by omega), rdL_nat L i h1, rdL_nat ws i h2, wrap_succ i (by omega)]
    refine Ev.bind (l1Same_ev L[i] ws[i] (hr _ (List.getElem_mem h1))) ?_
    by_cases e : L[i] = ws[i]
    · rw [decide_eq_true e]
      have ih1 := ih (i + 1) (by omega)
      by_cases e2 : L.drop (i + 1) = ws.drop (i + 1)
      · rw [if_pos e2] at ih1
        rw [if_pos (by rw [e, e2])]
        exact Ev.pos rfl ih1
      · rw [if_neg e2] at ih1
        rw [if_neg (fun h => e2 (List.cons.inj h).2)]
        exact Ev.pos rfl ih1
    · rw [decide_eq_false e, if_neg (fun h => e (List.cons.inj h).1)]
      exact Ev.neg (by decide) (Ev.now _)
/-! ### Both -/
theorem join_ne (car : Int) (o : List (List Int)) (h : ∀ x ∈ o, x ≠ []) : ∀ x ∈ UnitBlocks.join car o, x ≠ [] := by
  intro x hx
  unfold UnitBlocks.join at hx
  rcases List.mem_or_eq_of_mem_set hx with hx | rfl
  · exact h x hx
  · simp
theorem put_ne (l : List Int) (car : Int) (n : Nat) (out : List (List Int)) (h : ∀ x ∈ out, x ≠ []) : ∀ x ∈ UnitBlocks.put l car n out, x ≠ [] := by
  unfold UnitBlocks.put
  split
  · intro x hx
    unfold UnitBlocks.join at hx
    rw [List.length_append, List.length_singleton, Nat.add_sub_cancel, List.set_append_right _ _ (Nat.le_refl _), Nat.sub_self, List.set_cons_zero, List.mem_append, List.mem_singleton] at hx
    rcases hx with hx | rfl
    · exact h x hx
    · simp
  · exact join_ne car out h
theorem go_ne (l fr : List Int) : ∀ (d n : Nat) (out : List (List Int)), (∀ x ∈ out, x ≠ []) → ∀ x ∈ UnitBlocks.go l fr d n out, x ≠ []
  | 0, n, out, h => h
  | d + 1, n, out, h => go_ne l fr d (n + 1) _ (put_ne l _ n out h)
/-- What UnitBlocks comes to. -/
def ub (l : List Int) : List (List Int) × Bool := if parking l = true ∧ unit l 1 = true then (UnitBlocks.go l (fairS l) (fairS l).length 0 [], true) else ([], false)
theorem ub_ev (l : List Int) : Ev (fun k => spec_UnitBlocks.f k l) (ub l) ∧ Ev (fun k => impl_UnitBlocks.f k l) (ub l) := by
  have h1 := paParking_ev l
  have h2 := isParking_ev l
  unfold spec_UnitBlocks.f impl_UnitBlocks.f ub
  cases hp : parking l with
  | false =>
    rw [hp] at h1 h2
    rw [if_neg (by simp)]
    refine ⟨Ev.bind h1 (Ev.neg (by decide) (Ev.step (f := fun _ => some ([], false)) (fun k => ?_) (Ev.now _))), Ev.bind h2 (Ev.neg (by decide) (Ev.now _))⟩
    rw [spec_UnitBlocks.j0, if_pos rfl]
  | true =>
    rw [hp] at h1 h2
    have h8 := parking_cars hp
    have hx : ∀ x ∈ l, 0 ≤ x ∧ x < 100 := fun x hx => by have := parking_in hp x hx; omega
    have h3 := vaUnit_ev hp 1
    have h4 := isUnit_ev hp 1 (by omega)
    cases hu : unit l 1 with
    | false =>
      rw [hu] at h3 h4
      rw [if_neg (by simp)]
      refine ⟨Ev.bind h1 (Ev.pos rfl (Ev.bind h3 (Ev.step (f := fun _ => some ([], false)) (fun k => ?_) (Ev.now _)))), Ev.bind h2 (Ev.pos rfl (Ev.bind h4 (Ev.neg (by decide) (Ev.now _))))⟩
      rw [spec_UnitBlocks.j0, if_pos (by decide)]
    | true =>
      rw [hu] at h3 h4
      rw [if_pos ⟨rfl, rfl⟩]
      have hf := UnitBlocks.fits hp
      have hl8 := hf.len
      refine ⟨Ev.bind h1 (Ev.pos rfl (Ev.bind h3 (Ev.step (f := ?f1) (fun k => ?h1) ?g1))), Ev.bind h2 (Ev.pos rfl (Ev.bind h4 (Ev.pos rfl (Ev.bind (a := UnitBlocks.go l (fairS l) (fairS l).length 0 []) ?_ (Ev.now _)))))⟩
      case h1 => rw [spec_UnitBlocks.j0, if_neg (by decide)]
      · exact Ev.bind (vaFair_ev l h8 hx) (UnitBlocks.spec_l0 hf (fairS l).length 0 [] (by omega) (by omega) (by simp) (by simp))
      · unfold impl_blocks.f
        exact Ev.bindc (fair_ev l h8 hx) (UnitBlocks.impl_l0 hf (fairS l).length 0 [] (by omega) (by omega) (by simp) (by simp))
theorem ub_rows (l : List Int) : (ub l).1.length ≤ 8 ∧ (∀ x ∈ (ub l).1, x.length ≤ 8) ∧ ∀ x ∈ (ub l).1, x ≠ [] := by
  unfold ub
  split
  · rename_i h
    have hf := UnitBlocks.fits h.1
    have hl8 := hf.len
    have hr := UnitBlocks.go_rows l (fairS l) (fairS l).length 0 [] (by simp) (by simp)
    exact ⟨by dsimp only; omega, fun x hx => by have := hr.2 x hx; omega, go_ne l (fairS l) _ _ [] (by simp)⟩
  · simp
/-- What is written for rows. -/
def outOf (L : List (List Int)) : List Int := fillL 0 L (List.replicate L.flatten.length 0)
def res (L : List (List Int)) : List Int × Bool := if order L.flatten = true ∧ (ub (outOf L)).2 = true ∧ (ub (outOf L)).1 = L then (outOf L, true) else ([], false)
theorem order_facts {c : List Int} (h : order c = true) : c.length ≤ 8 ∧ c.Nodup ∧ ∀ x ∈ c, 0 ≤ x ∧ x < (c.length : Int) := by
  unfold order at h
  rw [Bool.and_eq_true, decide_eq_true_eq, decide_eq_true_eq] at h
  exact ⟨h.2, (order_iff c).1 h.1⟩
theorem order_of {c : List Int} (h8 : c.length ≤ 8) (hn : c.Nodup) (hi : ∀ x ∈ c, 0 ≤ x ∧ x < (c.length : Int)) : order c = true := by
  unfold order
  rw [decide_eq_true ((order_iff c).2 ⟨hn, hi⟩), decide_eq_true h8]
  rfl
theorem impl_ev (L : List (List Int)) (h1 : L.length ≤ 1099511627776) (h2 : L.flatten.length ≤ 1099511627776) : Ev (fun k => impl_FromUnitBlocks.f k L) (res L) := by
  unfold impl_FromUnitBlocks.f
  refine Ev.bindc (a := L.flatten) (by unfold slices_Concat_int_int.f; rw [if_pos h1, if_pos h2]) (Ev.bind (isOrder_ev L.flatten h2) ?_)
  show Ev (fun k => if order L.flatten = true then _ else _) _
  cases ho : order L.flatten with
  | false =>
    unfold res
    rw [ho, if_neg (by simp)]
    exact Ev.neg (by decide) (Ev.now _)
  | true =>
    have hf := order_facts ho
    refine Ev.pos rfl (Ev.pos (by omega) (Ev.pos (by omega) ?_))
    rw [Int.toNat_natCast]
    refine impl_l0 L (by omega) L.flatten.length (res L) L.length 0 0 (List.replicate L.flatten.length 0) (by omega) (by simp) (by omega) (by rw [List.drop_zero]; omega) (by rw [List.drop_zero]; exact hf.2.2) ?_
    rw [List.drop_zero]
    show Ev (fun k => (impl_UnitBlocks.f k (outOf L)).bind _) _
    have hu := ub_ev (outOf L)
    have hr := ub_rows (outOf L)
    refine Ev.bind hu.2 ?_
    cases hb : (ub (outOf L)).2 with
    | false =>
      unfold res
      rw [hb, if_neg (by simp)]
      exact Ev.neg (by decide) (Ev.now _)
    | true =>
      refine Ev.pos rfl (Ev.bind (equalFunc_ev _ L (by omega) (fun x hx => by have := hr.2.1 x hx; omega)) ?_)
      by_cases e : (ub (outOf L)).1 = L
      · have er : res L = (outOf L, true) := by unfold res; rw [if_pos ⟨ho, hb, e⟩]
        rw [er]
        exact Ev.pos (decide_eq_true e) (Ev.now _)
      · have er : res L = ([], false) := by unfold res; rw [if_neg (fun h => e h.2.2)]
        rw [er]
        exact Ev.neg (by rw [decide_eq_false e]; decide) (Ev.now _)
theorem row_le (L : List (List Int)) (b : List Int) (hb : b ∈ L) : b.length ≤ L.flatten.length := by
  induction L with
  | nil => cases hb
  | cons x xs ih =>
    rw [List.flatten_cons, List.length_append]
    rcases List.mem_cons.1 hb with rfl | hb
    · omega
    · have := ih hb
      omega
theorem spec_ev (L : List (List Int)) (h1 : L.length ≤ 1099511627776) (h2 : L.flatten.length ≤ 1099511627776) : Ev (fun k => spec_FromUnitBlocks.f k L) (res L) := by
  unfold spec_FromUnitBlocks.f
  refine sizes_l0 L (by omega) (fun b hb => by have := row_le L b hb; omega) (res L) L.length 0 0 (by omega) (by omega) (fun h => ?_) (fun h => ?_)
  · rw [List.drop_zero, Int.zero_add] at h
    unfold res
    rw [if_neg]
    rintro ⟨a, b, c⟩
    have hr := ub_rows (outOf L)
    rw [c] at hr
    have hf := order_facts a
    exact h ⟨hr.2.2, by omega⟩
  · rw [List.drop_zero, Int.zero_add] at h ⊢
    have hN : L.flatten.length ≤ 8 := by omega
    rw [Int.toNat_natCast]
    refine spec_l1 L (by omega) L.flatten.length hN (res L) L.length 0 0 (List.replicate L.flatten.length 0) [] (by omega) (by simp) (by omega) (by rw [List.drop_zero]; omega) (by rw [List.drop_zero, List.length_nil]; omega) (fun hk => ?_) (fun hk => ?_)
    · rw [List.drop_zero] at hk
      unfold res
      rw [if_neg]
      rintro ⟨a, _⟩
      have hf := order_facts a
      have := (okS_iff (L.flatten.length : Int) L.flatten [] (by simp)).2 ⟨by simpa using hf.2.1, hf.2.2⟩
      rw [hk] at this
      cases this
    · rw [List.drop_zero] at hk ⊢
      have hk2 := (okS_iff (L.flatten.length : Int) L.flatten [] (by simp)).1 hk
      rw [List.nil_append] at hk2
      have ho := order_of hN hk2.1 hk2.2
      show Ev (fun k => (spec_UnitBlocks.f k (outOf L)).bind _) _
      have hu := ub_ev (outOf L)
      have hr := ub_rows (outOf L)
      refine Ev.bind hu.1 ?_
      cases hb : (ub (outOf L)).2 with
      | false =>
        unfold res
        rw [hb, if_neg (by simp)]
        refine Ev.neg (by decide) (Ev.step (f := fun _ => some ([], false)) (fun k => ?_) (Ev.now _))
        rw [spec_FromUnitBlocks.j3, if_pos rfl]
      | true =>
        refine Ev.pos rfl ?_
        by_cases hl : (ub (outOf L)).1.length = L.length
        · have e1 : (((ub (outOf L)).1.length : Int) != (L.length : Int)) = false := by rw [hl]; simp
          rw [e1]
          refine Ev.step (f := ?f1) (fun k => ?h1) ?g1
          case h1 => rw [spec_FromUnitBlocks.j3, if_neg (by decide)]
          have h3 := spec_l3 (outOf L) (ub (outOf L)).1 L hl (by omega) (fun b hb => by have := row_le L b hb; omega) L.length 0 (by omega)
          rw [List.drop_zero, List.drop_zero] at h3
          have e2 : res L = if L = (ub (outOf L)).1 then (outOf L, true) else ([], false) := by
            unfold res
            by_cases e : (ub (outOf L)).1 = L
            · rw [if_pos ⟨ho, hb, e⟩, if_pos e.symm]
            · rw [if_neg (fun h => e h.2.2), if_neg (fun h => e h.symm)]
          rw [e2]
          exact h3
        · have e1 : (((ub (outOf L)).1.length : Int) != (L.length : Int)) = true := by rw [bne_iff_ne]; omega
          rw [e1]
          unfold res
          rw [if_neg (fun h => hl (by rw [h.2.2]))]
          refine Ev.step (f := fun _ => some ([], false)) (fun k => ?_) (Ev.now _)
          rw [spec_FromUnitBlocks.j3, if_pos rfl]
end FromUnit
end Go.Proofs.Ytdhfildgjmkgaaa.Pure
