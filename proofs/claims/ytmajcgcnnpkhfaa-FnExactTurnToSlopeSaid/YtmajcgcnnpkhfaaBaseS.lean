/- Slopes: what the program's and the reference's functions of slopes, bounds, sorted lists and slope parking functions come to. Conditions: those that each theorem states. -/
import Derived.Test.YtmajcgcnnpkhfaaPAllx1
import Derived.Test.YtmajcgcnnpkhfaaPAllx2
import Derived.Test.YtmajcgcnnpkhfaaPAllx8
import Derived.Test.YtmajcgcnnpkhfaaBaseE
import Derived.Test.YtmajcgcnnpkhfaaHandE
namespace Go.Proofs.Ytmajcgcnnpkhfaa.Plain
open Go.RowKit Go.Proofs.YtmajcgcnnpkhfaaW.PrintWords Go.Proofs.YtmajcgcnnpkhfaaW.PrintLast Go.Proofs.Ytmajcgcnnpkhfaa.Hand Go.Proofs.Ytmajcgcnnpkhfaa.PAll
set_option linter.unusedVariables false

/-- Numbers are a slope. -/
def slope (n a : Int) : Bool := decide (1 ≤ n ∧ n ≤ 6) && (decide (1 ≤ a ∧ a ≤ 13) && decide (Int.gcd n a = 1))
theorem slope_in {n a : Int} (h : slope n a = true) : (1 ≤ n ∧ n ≤ 6) ∧ 1 ≤ a ∧ a ≤ 13 := by
  unfold slope at h
  simp only [Bool.and_eq_true, decide_eq_true_eq] at h
  exact ⟨h.1, h.2.1⟩
theorem slope_pairs (P : Int → Int → Prop) (hp : ∀ n : Fin 6, ∀ m : Fin 13, P ((n.1 : Int) + 1) ((m.1 : Int) + 1)) {a b : Int} (h : (1 ≤ a ∧ a ≤ 6) ∧ 1 ≤ b ∧ b ≤ 13) : P a b := by
  have e := hp ⟨(a - 1).toNat, by omega⟩ ⟨(b - 1).toNat, by omega⟩
  have ea : (((a - 1).toNat : Int)) + 1 = a := by omega
  have eb : (((b - 1).toNat : Int)) + 1 = b := by omega
  simp only [ea, eb] at e
  exact e
theorem slIs_fin : ∀ n : Fin 6, ∀ m : Fin 13, spec_slIs.f 60 ((n.1 : Int) + 1) ((m.1 : Int) + 1) = some (slope ((n.1 : Int) + 1) ((m.1 : Int) + 1)) := by decide +kernel
theorem isSlope_fin : ∀ n : Fin 6, ∀ m : Fin 13, impl_isSlope.f 60 ((n.1 : Int) + 1) ((m.1 : Int) + 1) = some (slope ((n.1 : Int) + 1) ((m.1 : Int) + 1)) := by decide +kernel
theorem slope_out {a b : Int} (h : ¬ ((1 ≤ a ∧ a ≤ 6) ∧ 1 ≤ b ∧ b ≤ 13)) : slope a b = false := by
  cases h2 : slope a b with
  | false => rfl
  | true => exact absurd (slope_in h2) h
theorem slIs_ev (a b : Int) : Ev (fun k => spec_slIs.f k a b) (slope a b) := by
  by_cases h : (1 ≤ a ∧ a ≤ 6) ∧ 1 ≤ b ∧ b ≤ 13
  · exact Ev.of (k := 60) (fun k => spec_slIs.mono a b k) (slope_pairs (fun a b => spec_slIs.f 60 a b = some (slope a b)) slIs_fin h)
  · rw [slope_out h]
    unfold spec_slIs.f
    refine Ev.bindc (l1In_eq a 1 6) ?_
    by_cases h1 : 1 ≤ a ∧ a ≤ 6
    · rw [decide_eq_true h1]
      refine Ev.pos rfl (Ev.bindc (l1In_eq b 1 13) ?_)
      rw [decide_eq_false (fun h2 => h ⟨h1, h2⟩)]
      refine Ev.step (f := fun _ => some false) (fun k => ?_) (Ev.now _)
      rw [spec_slIs.j0, if_pos (by decide)]
    · rw [decide_eq_false h1]
      refine Ev.neg (by decide) (Ev.step (f := fun _ => some false) (fun k => ?_) (Ev.now _))
      rw [spec_slIs.j0, if_pos (by decide)]
theorem isSlope_ev (a b : Int) : Ev (fun k => impl_isSlope.f k a b) (slope a b) := by
  by_cases h : (1 ≤ a ∧ a ≤ 6) ∧ 1 ≤ b ∧ b ≤ 13
  · exact Ev.of (k := 60) (fun k => impl_isSlope.mono a b k) (slope_pairs (fun a b => impl_isSlope.f 60 a b = some (slope a b)) isSlope_fin h)
  · rw [slope_out h]
    unfold impl_isSlope.f
    refine Ev.bindc (between_eq a 1 6) ?_
    by_cases h1 : 1 ≤ a ∧ a ≤ 6
    · rw [decide_eq_true h1]
      refine Ev.pos rfl (Ev.bindc (between_eq b 1 13) ?_)
      rw [decide_eq_false (fun h2 => h ⟨h1, h2⟩)]
      exact Ev.neg (by decide) (Ev.now _)
    · rw [decide_eq_false h1]
      exact Ev.neg (by decide) (Ev.now _)

/-- The bounds of a slope. -/
def bnds (n a : Int) : List Int := (List.range n.toNat).map fun i : Nat => ((i : Int) * a) / n
theorem bnds_length (n a : Int) : (bnds n a).length = n.toNat := by simp [bnds]
theorem slBounds_fin : ∀ n : Fin 6, ∀ m : Fin 13, spec_slBounds.f 60 ((n.1 : Int) + 1) ((m.1 : Int) + 1) = some (bnds ((n.1 : Int) + 1) ((m.1 : Int) + 1)) := by decide +kernel
theorem bounds_fin : ∀ n : Fin 6, ∀ m : Fin 13, impl_bounds.f 60 ((n.1 : Int) + 1) ((m.1 : Int) + 1) = some (bnds ((n.1 : Int) + 1) ((m.1 : Int) + 1)) := by decide +kernel
theorem bnds_fin : ∀ n : Fin 6, ∀ m : Fin 13, ∀ b ∈ bnds ((n.1 : Int) + 1) ((m.1 : Int) + 1), 0 ≤ b ∧ b < (m.1 : Int) + 1 := by decide +kernel
theorem slBounds_ev {a b : Int} (h : slope a b = true) : Ev (fun k => spec_slBounds.f k a b) (bnds a b) :=
  Ev.of (k := 60) (fun k => spec_slBounds.mono a b k) (slope_pairs (fun a b => spec_slBounds.f 60 a b = some (bnds a b)) slBounds_fin (slope_in h))
theorem bounds_ev {a b : Int} (h : slope a b = true) : Ev (fun k => impl_bounds.f k a b) (bnds a b) :=
  Ev.of (k := 60) (fun k => impl_bounds.mono a b k) (slope_pairs (fun a b => impl_bounds.f 60 a b = some (bnds a b)) bounds_fin (slope_in h))
theorem bnds_lt {a b : Int} (h : slope a b = true) : ∀ x ∈ bnds a b, 0 ≤ x ∧ x < b :=
  slope_pairs (fun a b => ∀ x ∈ bnds a b, 0 ≤ x ∧ x < b) bnds_fin (slope_in h)

/-! ### sorted lists -/
/-- The list in increasing order. -/
def srt (l : List Int) : List Int := l.mergeSort fun x y => decide (x ≤ y)
theorem srt_perm (l : List Int) : (srt l).Perm l := List.mergeSort_perm _ _
theorem srt_length (l : List Int) : (srt l).length = l.length := (srt_perm l).length_eq
theorem srt_mem (l : List Int) (x : Int) : x ∈ srt l ↔ x ∈ l := (srt_perm l).mem_iff
theorem srt_sorted (l : List Int) : (srt l).Pairwise (· ≤ ·) := by
  have h := List.pairwise_mergeSort (le := fun x y : Int => decide (x ≤ y)) (fun a b c h1 h2 => by simp at *; omega) (fun a b => by simp; omega) l
  exact h.imp (fun h => of_decide_eq_true h)
theorem srt_unique {l m : List Int} (hp : m.Perm l) (hs : m.Pairwise (· ≤ ·)) : m = srt l :=
  (hp.trans (srt_perm l).symm).eq_of_pairwise (fun a b _ _ h1 h2 => by omega) hs (srt_sorted l)
theorem srt_same {l : List Int} (hs : l.Pairwise (· ≤ ·)) : srt l = l := (srt_unique (List.Perm.refl l) hs).symm
theorem sorted_eq (l : List Int) (hs : l.length ≤ 1099511627776) : impl_sorted.f l = some (srt l) := by
  unfold impl_sorted.f
  rw [if_pos hs]
  rfl

theorem l1Own_eq (l : List Int) (hs : l.length ≤ 1099511627776) : spec_l1Own.f l = some l := by
  unfold spec_l1Own.f
  simp only [Option.bind_some, List.nil_append]
  rw [if_pos (by simp; omega)]

/-- A number put into a list behind those that are no greater, from place k on. -/
theorem put_sorted {out : List Int} {x : Int} {k : Nat} (hk : k ≤ out.length) (hs : out.Pairwise (· ≤ ·)) (h1 : ∀ y ∈ out.take k, y ≤ x) (h2 : ∀ h : k < out.length, x ≤ out[k]) :
    ((out.take k ++ [x]) ++ out.drop k).Pairwise (· ≤ ·) ∧ ((out.take k ++ [x]) ++ out.drop k).Perm (out ++ [x]) := by
  have hsplit : out.take k ++ out.drop k = out := List.take_append_drop k out
  have hp := hs
  rw [← hsplit, List.pairwise_append] at hp
  have h3 : ∀ y ∈ out.drop k, x ≤ y := by
    intro y hy
    rcases Nat.lt_or_ge k out.length with hlt | hge
    · have e := List.drop_eq_getElem_cons hlt
      rw [e] at hy
      have hpd := hp.2.1
      rw [e, List.pairwise_cons] at hpd
      rcases List.mem_cons.1 hy with rfl | hy
      · exact h2 hlt
      · exact Int.le_trans (h2 hlt) (hpd.1 y hy)
    · rw [List.drop_eq_nil_of_le hge] at hy
      cases hy
  constructor
  · rw [List.append_assoc, List.pairwise_append]
    refine ⟨hp.1, ?_, ?_⟩
    · rw [List.singleton_append, List.pairwise_cons]
      exact ⟨h3, hp.2.1⟩
    · intro y hy z hz
      rw [List.singleton_append] at hz
      rcases List.mem_cons.1 hz with rfl | hz
      · exact h1 y hy
      · exact hp.2.2 y hy z hz
  · rw [List.append_assoc]
    refine (List.Perm.append_left _ List.perm_append_comm).trans ?_
    rw [← List.append_assoc, hsplit]

theorem paSorted_l (l : List Int) (hs : l.length ≤ 1099511627776) : ∀ (d n : Nat) (out : List Int), n + d = l.length → out.length = n → out.Pairwise (· ≤ ·) → out.Perm (l.take n) →
    Ev (fun k => spec_paSorted.l0 k out l (l.length : Int) (n : Int)) (srt l) := by
  intro d
  induction d with
  | zero =>
    intro n out hn ho hp hq
    have e : out = srt l := srt_unique (by rwa [List.take_of_length_le (by omega)] at hq) hp
    refine Ev.step (f := fun _ => some (srt l)) (fun k => ?_) (Ev.now _)
    rw [spec_paSorted.l0, if_neg (by omega), e]
  | succ d ih =>
    intro n out hn ho hp hq
    have h1 : n < l.length := by omega
    have inner : ∀ (e j : Nat), j + e = out.length → (∀ y ∈ out.take j, y ≤ l[n]) → Ev (fun k => spec_paSorted.l1 k out l[n] (j : Int) l (l.length : Int) (n : Int)) (srt l) := by
      intro e
      induction e with
      | zero =>
        intro j hj hy
        have hput := put_sorted (k := j) (by omega) hp hy (fun h => absurd h (by omega))
        refine Ev.step (fun k => ?_) (ih (n + 1) ((out.take j ++ [l[n]]) ++ out.drop j) (by omega) (by simp; omega) hput.1 ?_)
        · rw [spec_paSorted.l1, if_neg (by omega), if_pos (by omega), if_pos (by omega), Int.toNat_natCast, l1Own_eq _ (by simp; omega)]
          simp only [Option.bind_some]
          rw [if_pos (by simp; omega), if_pos (by simp; omega), wrap_succ n (by omega)]
        · rw [List.take_succ_eq_append_getElem h1]
          exact hput.2.trans (hq.append_right _)
      | succ e ihe =>
        intro j hj hy
        have hj1 : j < out.length := by omega
        by_cases hle : out[j] ≤ l[n]
        · refine Ev.step (fun k => ?_) (ihe (j + 1) (by omega) ?_)
          · rw [spec_paSorted.l1, if_pos (by omega), if_pos (by omega), rd_nat out j hj1, if_pos hle, wrap_succ j (by omega)]
          · intro y hy2
            rw [List.take_succ_eq_append_getElem hj1, List.mem_append, List.mem_singleton] at hy2
            rcases hy2 with hy2 | rfl
            · exact hy y hy2
            · exact hle
        · have hput := put_sorted (k := j) (by omega) hp hy (fun h => by omega)
          refine Ev.step (fun k => ?_) (ih (n + 1) ((out.take j ++ [l[n]]) ++ out.drop j) (by omega) (by simp; omega) hput.1 ?_)
          · rw [spec_paSorted.l1, if_pos (by omega), if_pos (by omega), rd_nat out j hj1, if_neg hle, if_pos (by omega), Int.toNat_natCast, l1Own_eq _ (by simp; omega)]
            simp only [Option.bind_some]
            rw [if_pos (by simp; omega), if_pos (by simp; omega), wrap_succ n (by omega)]
          · rw [List.take_succ_eq_append_getElem h1]
            exact hput.2.trans (hq.append_right _)
    refine Ev.step (fun k => ?_) (inner out.length 0 (by omega) (by simp))
    rw [spec_paSorted.l0, if_pos (by omega), if_pos (by omega), if_pos (by omega), rd_nat l n h1]
    rfl
theorem paSorted_ev (l : List Int) (hs : l.length ≤ 1099511627776) : Ev (fun k => spec_paSorted.f k l) (srt l) := by
  unfold spec_paSorted.f
  exact paSorted_l l hs l.length 0 [] (by omega) rfl List.Pairwise.nil (by simp)

/-! ### slope parking functions -/
/-- Each number is between zero and its bound. -/
def underR : List Int → List Int → Bool
  | x :: xs, b :: bs => decide (0 ≤ x ∧ x ≤ b) && underR xs bs
  | _, _ => true
/-- Each number is at most its bound. -/
def leR : List Int → List Int → Bool
  | x :: xs, b :: bs => decide (x ≤ b) && leR xs bs
  | _, _ => true
theorem underR_leR : ∀ (xs bs : List Int), (∀ x ∈ xs, 0 ≤ x) → underR xs bs = leR xs bs
  | [], bs, _ => by simp [underR, leR]
  | x :: xs, [], _ => by simp [underR, leR]
  | x :: xs, b :: bs, h => by
    rw [underR, leR, underR_leR xs bs (fun y hy => h y (List.mem_cons_of_mem _ hy))]
    congr 1
    have := h x List.mem_cons_self
    simp [this]
theorem underR_in : ∀ (xs bs : List Int) (a : Int), xs.length = bs.length → (∀ b ∈ bs, b < a) → underR xs bs = true → ∀ x ∈ xs, 0 ≤ x ∧ x < a
  | [], _, _, _, _, _ => fun x hx => by cases hx
  | x :: xs, [], _, h, _, _ => by simp at h
  | x :: xs, b :: bs, a, hl, hb, h => by
    rw [underR, Bool.and_eq_true, decide_eq_true_eq] at h
    intro y hy
    rcases List.mem_cons.1 hy with rfl | hy
    · exact ⟨h.1.1, Int.lt_of_le_of_lt h.1.2 (hb b List.mem_cons_self)⟩
    · exact underR_in xs bs a (by simpa using hl) (fun c hc => hb c (List.mem_cons_of_mem _ hc)) h.2 y hy
/-- The list's numbers, in increasing order, are at most the bounds. -/
def under (l : List Int) (a : Int) : Bool := underR (srt l) (bnds (l.length : Int) a)
/-- A slope parking function. -/
def slp (l : List Int) (a : Int) : Bool := slope (l.length : Int) a && under l a
theorem slp_slope {l : List Int} {a : Int} (h : slp l a = true) : slope (l.length : Int) a = true := by
  unfold slp at h
  rw [Bool.and_eq_true] at h
  exact h.1
theorem slp_length {l : List Int} {a : Int} (h : slp l a = true) : l.length ≤ 6 := by
  have := slope_in (slp_slope h)
  omega
theorem under_in {l : List Int} {a : Int} (hs : slope (l.length : Int) a = true) (h : under l a = true) : ∀ x ∈ l, 0 ≤ x ∧ x < a := by
  intro x hx
  exact underR_in (srt l) _ a (by rw [srt_length, bnds_length]; omega) (fun b hb => (bnds_lt hs b hb).2) h x ((srt_mem l x).2 hx)
theorem slp_in {l : List Int} {a : Int} (h : slp l a = true) : ∀ x ∈ l, 0 ≤ x ∧ x < a := by
  have h2 := h
  unfold slp at h2
  rw [Bool.and_eq_true] at h2
  exact under_in h2.1 h2.2

theorem slGood_l0 (xs bs : List Int) (hl : xs.length = bs.length) (hs : xs.length ≤ 1099511627776) : ∀ (d n : Nat), n + d = xs.length →
    Ev (fun k => spec_slGood.l0 k bs xs (xs.length : Int) (n : Int)) (leR (xs.drop n) (bs.drop n)) := by
  intro d
  induction d with
  | zero =>
    intro n hn
    refine Ev.step (f := fun _ => some true) (fun k => ?_) (Ev.const ?_)
    · rw [spec_slGood.l0, if_neg (by omega)]
    · rw [List.drop_eq_nil_of_le (by omega), List.drop_eq_nil_of_le (by omega)]
      rfl
  | succ d ih =>
    intro n hn
    have h1 : n < xs.length := by omega
    have h2 : n < bs.length := by omega
    rw [List.drop_eq_getElem_cons h1, List.drop_eq_getElem_cons h2, leR]
    by_cases hx : xs[n] ≤ bs[n]
    · rw [decide_eq_true hx, Bool.true_and]
      refine Ev.step (fun k => ?_) (ih (n + 1) (by omega))
      rw [spec_slGood.l0, if_pos (by omega), if_pos (by omega), if_pos (by omega), if_pos (by omega), rd_nat xs n h1, rd_nat bs n h2, if_neg (by omega), wrap_succ n (by omega)]
    · rw [decide_eq_false hx, Bool.false_and]
      refine Ev.step (f := fun _ => some false) (fun k => ?_) (Ev.now _)
      rw [spec_slGood.l0, if_pos (by omega), if_pos (by omega), if_pos (by omega), if_pos (by omega), rd_nat xs n h1, rd_nat bs n h2, if_pos (by omega)]
theorem slGood_ev (l : List Int) (a : Int) : Ev (fun k => spec_slGood.f k l a) (slp l a) := by
  unfold spec_slGood.f
  refine Ev.bind (slIs_ev _ _) ?_
  cases h : slope (l.length : Int) a with
  | false =>
    have e : slp l a = false := by unfold slp; rw [h]; rfl
    rw [e]
    refine Ev.neg (by decide) (Ev.step (f := fun _ => some false) (fun k => ?_) (Ev.now _))
    rw [spec_slGood.j0, if_pos rfl]
  | true =>
    have hin := slope_in h
    have hlen : l.length ≤ 6 := by omega
    refine Ev.pos rfl ?_
    rw [wrap64_in (a - 1) (by omega) (by omega)]
    refine Ev.bind (l1All_ev l 0 (a - 1) (by omega)) ?_
    cases h2 : (l.all fun x => decide (0 ≤ x ∧ x ≤ a - 1)) with
    | false =>
      have e : slp l a = false := by
        cases h3 : slp l a with
        | false => rfl
        | true =>
          exfalso
          have h4 := slp_in h3
          rw [List.all_eq_false] at h2
          obtain ⟨x, hx, hn⟩ := h2
          have := h4 x hx
          exact hn (decide_eq_true (by omega))
      rw [e]
      refine Ev.step (f := fun _ => some false) (fun k => ?_) (Ev.now _)
      rw [spec_slGood.j0, if_pos (by decide)]
    | true =>
      have e : slp l a = leR (srt l) (bnds (l.length : Int) a) := by
        unfold slp under
        rw [h, Bool.true_and, underR_leR]
        intro x hx
        have := of_decide_eq_true (List.all_eq_true.1 h2 x ((srt_mem l x).1 hx))
        omega
      rw [e]
      refine Ev.step (f := ?f) (fun k => ?h) ?g
      case h => rw [spec_slGood.j0, if_neg (by decide)]
      refine Ev.bind (slBounds_ev h) (Ev.bind (paSorted_ev l (by omega)) ?_)
      have hl0 := slGood_l0 (srt l) (bnds (l.length : Int) a) (by rw [srt_length, bnds_length]; omega) (by rw [srt_length]; omega) (srt l).length 0 (by omega)
      simpa using hl0

theorem isUnder_l0 (xs bs : List Int) (hl : xs.length = bs.length) (hs : xs.length ≤ 1099511627776) : ∀ (d n : Nat), n + d = xs.length →
    Ev (fun k => impl_isUnder.l0 k bs xs (xs.length : Int) (n : Int)) (underR (xs.drop n) (bs.drop n)) := by
  intro d
  induction d with
  | zero =>
    intro n hn
    refine Ev.step (f := fun _ => some true) (fun k => ?_) (Ev.const ?_)
    · rw [impl_isUnder.l0, if_neg (by omega)]
    · rw [List.drop_eq_nil_of_le (by omega), List.drop_eq_nil_of_le (by omega)]
      rfl
  | succ d ih =>
    intro n hn
    have h1 : n < xs.length := by omega
    have h2 : n < bs.length := by omega
    rw [List.drop_eq_getElem_cons h1, List.drop_eq_getElem_cons h2, underR]
    by_cases hx : 0 ≤ xs[n] ∧ xs[n] ≤ bs[n]
    · rw [decide_eq_true hx, Bool.true_and]
      refine Ev.step (fun k => ?_) (ih (n + 1) (by omega))
      rw [impl_isUnder.l0, if_pos (by omega), if_pos (by omega), if_pos (by omega), if_pos (by omega), rd_nat xs n h1, rd_nat bs n h2, between_eq, decide_eq_true hx, Option.bind_some, if_pos rfl, wrap_succ n (by omega)]
    · rw [decide_eq_false hx, Bool.false_and]
      refine Ev.step (f := fun _ => some false) (fun k => ?_) (Ev.now _)
      rw [impl_isUnder.l0, if_pos (by omega), if_pos (by omega), if_pos (by omega), if_pos (by omega), rd_nat xs n h1, rd_nat bs n h2, between_eq, decide_eq_false hx, Option.bind_some, if_neg (by decide)]
theorem isUnder_ev {l : List Int} {a : Int} (h : slope (l.length : Int) a = true) : Ev (fun k => impl_isUnder.f k l a) (under l a) := by
  have hin := slope_in h
  unfold impl_isUnder.f
  refine Ev.bind (bounds_ev h) (Ev.bindc (sorted_eq l (by omega)) ?_)
  have hl0 := isUnder_l0 (srt l) (bnds (l.length : Int) a) (by rw [srt_length, bnds_length]; omega) (by rw [srt_length]; omega) (srt l).length 0 (by omega)
  unfold under
  simpa using hl0
theorem isSlopeParking_ev (l : List Int) (a : Int) : Ev (fun k => impl_isSlopeParking.f k l a) (slp l a) := by
  unfold impl_isSlopeParking.f slp
  refine Ev.bind (isSlope_ev _ _) ?_
  cases h : slope (l.length : Int) a with
  | false => exact Ev.neg (by decide) (Ev.now _)
  | true => exact Ev.pos rfl (Ev.bind (isUnder_ev h) (Ev.now _))
end Go.Proofs.Ytmajcgcnnpkhfaa.Plain
