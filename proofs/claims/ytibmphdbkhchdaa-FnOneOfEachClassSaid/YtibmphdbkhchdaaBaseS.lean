/- Sorted lists and slope parking functions, as the program and the reference tell them. Conditions: those that each theorem states. -/
import Derived.Test.YtibmphdbkhchdaaPAllx2
import Derived.Test.YtibmphdbkhchdaaPAllx5
import Derived.Test.YtibmphdbkhchdaaBaseR
import Derived.Test.YtibmphdbkhchdaaBaseX
import Derived.Test.YtibmphdbkhchdaaHandE
namespace Go.Proofs.Ytibmphdbkhchdaa.Plain
open Go.RowKit Go.Proofs.YtibmphdbkhchdaaW.PrintWords Go.Proofs.YtibmphdbkhchdaaW.PrintLast Go.Proofs.Ytibmphdbkhchdaa.Hand Go.Proofs.Ytibmphdbkhchdaa.PAll
set_option linter.unusedVariables false

theorem sorted_eq (l : List Int) (hs : l.length ≤ 1099511627776) : impl_sorted.f l = some (srt l) := by
  unfold impl_sorted.f
  rw [if_pos hs]
  rfl

theorem paSorted_l (l : List Int) (hs : l.length ≤ 1099511627776) : ∀ (d n : Nat) (out : List Int), n + d = l.length → out.length = n → out.Pairwise (· ≤ ·) → out.Perm (l.take n) →
    Ev (fun k => spec_paSorted.l0 k out l (l.length : Int) (n : Int)) (srt l) := by
  intro d
  induction d with
  | zero =>
    intro n out hn ho hp hq
    have e : out = srt l := srt_unique (by rwa [List.take_of_length_le (by omega)] at hq) hp
    refine Ev.step (f := fun _ => some (srt l)) (fun k => ?_) (Ev.now _)
    rw [spec_paSorted.l0, if_neg (by omega), e]
  | succ d ih =>
    intro n out hn ho hp hq
    have h1 : n < l.length := by omega
    have inner : ∀ (e j : Nat), j + e = out.length → (∀ y ∈ out.take j, y ≤ l[n]) → Ev (fun k => spec_paSorted.l1 k out l[n] (j : Int) l (l.length : Int) (n : Int)) (srt l) := by
      intro e
      induction e with
      | zero =>
        intro j hj hy
        have hput := put_sorted (k := j) (by omega) hp hy (fun h => absurd h (by omega))
        refine Ev.step (fun k => ?_) (ih (n + 1) ((out.take j ++ [l[n]]) ++ out.drop j) (by omega) (by simp; omega) hput.1 ?_)
        · rw [spec_paSorted.l1, if_neg (by omega), if_pos (by omega), if_pos (by omega), Int.toNat_natCast, l1Own_eq _ (by simp; omega)]
          simp only [Option.bind_some]
          rw [if_pos (by simp; omega), if_pos (by simp; omega), wrap_succ n (by omega)]
        · rw [List.take_succ_eq_append_getElem h1]
          exact hput.2.trans (hq.append_right _)
      | succ e ihe =>
        intro j hj hy
        have hj1 : j < out.length := by omega
        by_cases hle : out[j] ≤ l[n]
        · refine Ev.step (fun k => ?_) (ihe (j + 1) (by omega) ?_)
          · rw [spec_paSorted.l1, if_pos (by omega), if_pos (by omega), rd_nat out j hj1, if_pos hle, wrap_succ j (by omega)]
          · intro y hy2
            rw [List.take_succ_eq_append_getElem hj1, List.mem_append, List.mem_singleton] at hy2
            rcases hy2 with hy2 | rfl
            · exact hy y hy2
            · exact hle
        · have hput := put_sorted (k := j) (by omega) hp hy (fun h => by omega)
          refine Ev.step (fun k => ?_) (ih (n + 1) ((out.take j ++ [l[n]]) ++ out.drop j) (by omega) (by simp; omega) hput.1 ?_)
          · rw [spec_paSorted.l1, if_pos (by omega), if_pos (by omega), rd_nat out j hj1, if_neg hle, if_pos (by omega), Int.toNat_natCast, l1Own_eq _ (by simp; omega)]
            simp only [Option.bind_some]
            rw [if_pos (by simp; omega), if_pos (by simp; omega), wrap_succ n (by omega)]
          · rw [List.take_succ_eq_append_getElem h1]
            exact hput.2.trans (hq.append_right _)
    refine Ev.step (fun k => ?_) (inner out.length 0 (by omega) (by simp))
    rw [spec_paSorted.l0, if_pos (by omega), if_pos (by omega), if_pos (by omega), rd_nat l n h1]
    rfl
theorem paSorted_ev (l : List Int) (hs : l.length ≤ 1099511627776) : Ev (fun k => spec_paSorted.f k l) (srt l) := by
  unfold spec_paSorted.f
  exact paSorted_l l hs l.length 0 [] (by omega) rfl List.Pairwise.nil (by simp)

/-! ### slope parking functions -/
/-- Each number is between zero and its bound. -/
def underR : List Int → List Int → Bool
  | x :: xs, b :: bs => decide (0 ≤ x ∧ x ≤ b) && underR xs bs
  | _, _ => true
/-- Each number is at most its bound. -/
def leR : List Int → List Int → Bool
  | x :: xs, b :: bs => decide (x ≤ b) && leR xs bs
  | _, _ => true
theorem underR_leR : ∀ (xs bs : List Int), (∀ x ∈ xs, 0 ≤ x) → underR xs bs = leR xs bs
  | [], bs, _ => by simp [underR, leR]
  | x :: xs, [], _ => by simp [underR, leR]
  | x :: xs, b :: bs, h => by
    rw [underR, leR, underR_leR xs bs (fun y hy => h y (List.mem_cons_of_mem _ hy))]
    congr 1
    have := h x List.mem_cons_self
    simp [this]
theorem underR_in : ∀ (xs bs : List Int) (a : Int), xs.length = bs.length → (∀ b ∈ bs, b < a) → underR xs bs = true → ∀ x ∈ xs, 0 ≤ x ∧ x < a
  | [], _, _, _, _, _ => fun x hx => by cases hx
  | x :: xs, [], _, h, _, _ => by simp at h
  | x :: xs, b :: bs, a, hl, hb, h => by
    rw [underR, Bool.and_eq_true, decide_eq_true_eq] at h
    intro y hy
    rcases List.mem_cons.1 hy with rfl | hy
    · exact ⟨h.1.1, Int.lt_of_le_of_lt h.1.2 (hb b List.mem_cons_self)⟩
    · exact underR_in xs bs a (by simpa using hl) (fun c hc => hb c (List.mem_cons_of_mem _ hc)) h.2 y hy
/-- The list's numbers, in increasing order, are at most the bounds. -/
def under (l : List Int) (a : Int) : Bool := underR (srt l) (bnds (l.length : Int) a)
/-- A slope parking function. -/
def slp (l : List Int) (a : Int) : Bool := slope (l.length : Int) a && under l a
theorem slp_slope {l : List Int} {a : Int} (h : slp l a = true) : slope (l.length : Int) a = true := by
  unfold slp at h
  rw [Bool.and_eq_true] at h
  exact h.1
theorem slp_length {l : List Int} {a : Int} (h : slp l a = true) : l.length ≤ 6 := by
  have := slope_in (slp_slope h)
  omega
theorem under_in {l : List Int} {a : Int} (hs : slope (l.length : Int) a = true) (h : under l a = true) : ∀ x ∈ l, 0 ≤ x ∧ x < a := by
  intro x hx
  exact underR_in (srt l) _ a (by rw [srt_length, bnds_length]; omega) (fun b hb => (bnds_lt hs b hb).2) h x ((srt_mem l x).2 hx)
theorem slp_in {l : List Int} {a : Int} (h : slp l a = true) : ∀ x ∈ l, 0 ≤ x ∧ x < a := by
  have h2 := h
  unfold slp at h2
  rw [Bool.and_eq_true] at h2
  exact under_in h2.1 h2.2

theorem slGood_l0 (xs bs : List Int) (hl : xs.length = bs.length) (hs : xs.length ≤ 1099511627776) : ∀ (d n : Nat), n + d = xs.length →
    Ev (fun k => spec_slGood.l0 k bs xs (xs.length : Int) (n : Int)) (leR (xs.drop n) (bs.drop n)) := by
  intro d
  induction d with
  | zero =>
    intro n hn
    refine Ev.step (f := fun _ => some true) (fun k => ?_) (Ev.const ?_)
    · rw [spec_slGood.l0, if_neg (by omega)]
    · rw [List.drop_eq_nil_of_le (by omega), List.drop_eq_nil_of_le (by omega)]
      rfl
  | succ d ih =>
    intro n hn
    have h1 : n < xs.length := by omega
    have h2 : n < bs.length := by omega
    rw [List.drop_eq_getElem_cons h1, List.drop_eq_getElem_cons h2, leR]
    by_cases hx : xs[n] ≤ bs[n]
    · rw [decide_eq_true hx, Bool.true_and]
      refine Ev.step (fun k => ?_) (ih (n + 1) (by omega))
      rw [spec_slGood.l0, if_pos (by omega), if_pos (by omega), if_pos (by omega), if_pos (by omega), rd_nat xs n h1, rd_nat bs n h2, if_neg (by omega), wrap_succ n (by omega)]
    · rw [decide_eq_false hx, Bool.false_and]
      refine Ev.step (f := fun _ => some false) (fun k => ?_) (Ev.now _)
      rw [spec_slGood.l0, if_pos (by omega), if_pos (by omega), if_pos (by omega), if_pos (by omega), rd_nat xs n h1, rd_nat bs n h2, if_pos (by omega)]
theorem slGood_ev (l : List Int) (a : Int) : Ev (fun k => spec_slGood.f k l a) (slp l a) := by
  unfold spec_slGood.f
  refine Ev.bind (slIs_ev _ _) ?_
  cases h : slope (l.length : Int) a with
  | false =>
    have e : slp l a = false := by unfold slp; rw [h]; rfl
    rw [e]
    refine Ev.neg (by decide) (Ev.step (f := fun _ => some false) (fun k => ?_) (Ev.now _))
    rw [spec_slGood.j0, if_pos rfl]
  | true =>
    have hin := slope_in h
    have hlen : l.length ≤ 6 := by omega
    refine Ev.pos rfl ?_
    rw [wrap64_in (a - 1) (by omega) (by omega)]
    refine Ev.bind (l1All_ev l 0 (a - 1) (by omega)) ?_
    cases h2 : (l.all fun x => decide (0 ≤ x ∧ x ≤ a - 1)) with
    | false =>
      have e : slp l a = false := by
        cases h3 : slp l a with
        | false => rfl
        | true =>
          exfalso
          have h4 := slp_in h3
          rw [List.all_eq_false] at h2
          obtain ⟨x, hx, hn⟩ := h2
          have := h4 x hx
          exact hn (decide_eq_true (by omega))
      rw [e]
      refine Ev.step (f := fun _ => some false) (fun k => ?_) (Ev.now _)
      rw [spec_slGood.j0, if_pos (by decide)]
    | true =>
      have e : slp l a = leR (srt l) (bnds (l.length : Int) a) := by
        unfold slp under
        rw [h, Bool.true_and, underR_leR]
        intro x hx
        have := of_decide_eq_true (List.all_eq_true.1 h2 x ((srt_mem l x).1 hx))
        omega
      rw [e]
      refine Ev.step (f := ?f) (fun k => ?h) ?g
      case h => rw [spec_slGood.j0, if_neg (by decide)]
      refine Ev.bind (slBounds_ev h) (Ev.bind (paSorted_ev l (by omega)) ?_)
      have hl0 := slGood_l0 (srt l) (bnds (l.length : Int) a) (by rw [srt_length, bnds_length]; omega) (by rw [srt_length]; omega) (srt l).length 0 (by omega)
      simpa using hl0

theorem isUnder_l0 (xs bs : List Int) (hl : xs.length = bs.length) (hs : xs.length ≤ 1099511627776) : ∀ (d n : Nat), n + d = xs.length →
    Ev (fun k => impl_isUnder.l0 k bs xs (xs.length : Int) (n : Int)) (underR (xs.drop n) (bs.drop n)) := by
  intro d
  induction d with
  | zero =>
    intro n hn
    refine Ev.step (f := fun _ => some true) (fun k => ?_) (Ev.const ?_)
    · rw [impl_isUnder.l0, if_neg (by omega)]
    · rw [List.drop_eq_nil_of_le (by omega), List.drop_eq_nil_of_le (by omega)]
      rfl
  | succ d ih =>
    intro n hn
    have h1 : n < xs.length := by omega
    have h2 : n < bs.length := by omega
    rw [List.drop_eq_getElem_cons h1, List.drop_eq_getElem_cons h2, underR]
    by_cases hx : 0 ≤ xs[n] ∧ xs[n] ≤ bs[n]
    · rw [decide_eq_true hx, Bool.true_and]
      refine Ev.step (fun k => ?_) (ih (n + 1) (by omega))
      rw [impl_isUnder.l0, if_pos (by omega), if_pos (by omega), if_pos (by omega), if_pos (by omega), rd_nat xs n h1, rd_nat bs n h2, between_eq, decide_eq_true hx, Option.bind_some, if_pos rfl, wrap_succ n (by omega)]
    · rw [decide_eq_false hx, Bool.false_and]
      refine Ev.step (f := fun _ => some false) (fun k => ?_) (Ev.now _)
      rw [impl_isUnder.l0, if_pos (by omega), if_pos (by omega), if_pos (by omega), if_pos (by omega), rd_nat xs n h1, rd_nat bs n h2, between_eq, decide_eq_false hx, Option.bind_some, if_neg (by decide)]
theorem isUnder_ev {l : List Int} {a : Int} (h : slope (l.length : Int) a = true) : Ev (fun k => impl_isUnder.f k l a) (under l a) := by
  have hin := slope_in h
  unfold impl_isUnder.f
  refine Ev.bind (bounds_ev h) (Ev.bindc (sorted_eq l (by omega)) ?_)
  have hl0 := isUnder_l0 (srt l) (bnds (l.length : Int) a) (by rw [srt_length, bnds_length]; omega) (by rw [srt_length]; omega) (srt l).length 0 (by omega)
  unfold under
  simpa using hl0
theorem isSlopeParking_ev (l : List Int) (a : Int) : Ev (fun k => impl_isSlopeParking.f k l a) (slp l a) := by
  unfold impl_isSlopeParking.f slp
  refine Ev.bind (isSlope_ev _ _) ?_
  cases h : slope (l.length : Int) a with
  | false => exact Ev.neg (by decide) (Ev.now _)
  | true => exact Ev.pos rfl (Ev.bind (isUnder_ev h) (Ev.now _))
end Go.Proofs.Ytibmphdbkhchdaa.Plain
