/- The planes between two points, counted: what the program's PlanesBetween and the reference's come to. Condition: both lists are points. -/
import Derived.Test.YtgfedgnpffockaaPAllx2
import Derived.Test.YtgfedgnpffockaaPAllx3
import Derived.Test.YtgfedgnpffockaaBasePp
import Derived.Test.YtgfedgnpffockaaBaseLp
namespace Go.Proofs.Ytgfedgnpffockaa.Plain
open Go.RowKit Go.Proofs.YtgfedgnpffockaaW.PrintWords Go.Proofs.YtgfedgnpffockaaW.PrintLast Go.Proofs.Ytgfedgnpffockaa.Hand Go.Proofs.Ytgfedgnpffockaa.PAll
set_option linter.unusedVariables false
def sm (g : Nat → Nat) : Nat → Nat
  | 0 => 0
  | n + 1 => sm g n + g n
theorem sm_congr {g h : Nat → Nat} : ∀ n, (∀ i, i < n → g i = h i) → sm g n = sm h n
  | 0, _ => rfl
  | n + 1, e => by rw [sm, sm, sm_congr n (fun i hi => e i (by omega)), e n (by omega)]
theorem sm_add (g h : Nat → Nat) : ∀ n, sm (fun i => g i + h i) n = sm g n + sm h n
  | 0 => rfl
  | n + 1 => by rw [sm, sm, sm, sm_add g h n]; omega
theorem sm_le (g : Nat → Nat) (b : Nat) : ∀ n, (∀ i, i < n → g i ≤ b) → sm g n ≤ b * n
  | 0, _ => Nat.zero_le _
  | n + 1, h => by
    have h1 := sm_le g b n (fun i hi => h i (by omega))
    have h2 := h n (by omega)
    rw [sm, Nat.mul_succ]
    omega
theorem sm_zero (g : Nat → Nat) : ∀ n, sm g n = 0 ↔ ∀ i, i < n → g i = 0
  | 0 => by simp [sm]
  | n + 1 => by
    rw [sm, Nat.add_eq_zero_iff, sm_zero g n]
    constructor
    · rintro ⟨h1, h2⟩ i hi
      rcases Nat.lt_or_eq_of_le (Nat.le_of_lt_succ hi) with e | e
      · exact h1 i e
      · rw [e]; exact h2
    · exact fun h => ⟨fun i hi => h i (by omega), h n (by omega)⟩
/-- Over all pairs: the less index inside, or outside. -/
theorem sm_swap (c : Nat → Nat → Nat) : ∀ N, sm (fun i => sm (fun j => if i < j then c i j else 0) N) N = sm (fun j => sm (fun i => c i j) j) N
  | 0 => rfl
  | N + 1 => by
    show sm (fun i => sm (fun j => if i < j then c i j else 0) (N + 1)) N + sm (fun j => if N < j then c N j else 0) (N + 1) = sm (fun j => sm (fun i => c i j) j) N + sm (fun i => c i N) N
    rw [← sm_swap c N]
    have e1 : sm (fun j => if N < j then c N j else 0) (N + 1) = 0 := (sm_zero _ _).2 (fun i hi => if_neg (by omega))
    have e2 : sm (fun i => sm (fun j => if i < j then c i j else 0) (N + 1)) N = sm (fun i => sm (fun j => if i < j then c i j else 0) N + c i N) N :=
      sm_congr N (fun i hi => by rw [sm, if_pos hi])
    rw [e1, e2, sm_add, Nat.add_zero]
theorem sm_sym (e : Nat → Nat → Nat) (hz : ∀ i, e i i = 0) : ∀ N, sm (fun i => sm (fun j => e i j) N) N = sm (fun j => sm (fun i => e i j + e j i) j) N
  | 0 => rfl
  | N + 1 => by
    show sm (fun i => sm (fun j => e i j) (N + 1)) N + sm (fun j => e N j) (N + 1) = sm (fun j => sm (fun i => e i j + e j i) j) N + sm (fun i => e i N + e N i) N
    rw [← sm_sym e hz N, sm_add]
    have e1 : sm (fun i => sm (fun j => e i j) (N + 1)) N = sm (fun i => sm (fun j => e i j) N + e i N) N := sm_congr N (fun i hi => by rw [sm])
    have e2 : sm (fun j => e N j) (N + 1) = sm (fun j => e N j) N := by rw [sm, hz, Nat.add_zero]
    have e3 : sm (fun j => e N j) N = sm (e N) N := rfl
    rw [e1, e2, sm_add]
    omega
/-! ### the count -/
def sd (x : List Int) (i j : Nat) (u : Int) : Bool := decide (rd x (i : Int) - rd x (j : Int) > u)
def cd (x y : List Int) (i j : Nat) (u : Int) : Nat := if (sd x i j u != sd y i j u) = true then 1 else 0
def cI (x y : List Int) (i j : Nat) : Nat := cd x y i j 0 + cd x y i j 100
theorem cd_le (x y : List Int) (i j : Nat) (u : Int) : cd x y i j u ≤ 1 := by unfold cd; split <;> omega
theorem cI_le (x y : List Int) (i j : Nat) : cI x y i j ≤ 2 := by
  have := cd_le x y i j 0
  have := cd_le x y i j 100
  unfold cI; omega
theorem cd_comm (x y : List Int) (i j : Nat) (u : Int) : cd y x i j u = cd x y i j u := by
  unfold cd
  rw [show (sd y i j u != sd x i j u) = (sd x i j u != sd y i j u) by cases sd x i j u <;> cases sd y i j u <;> rfl]
theorem cI_zero (x y : List Int) (i j : Nat) : cI x y i j = 0 ↔ sd x i j 0 = sd y i j 0 ∧ sd x i j 100 = sd y i j 100 := by
  unfold cI cd
  cases sd x i j 0 <;> cases sd y i j 0 <;> cases sd x i j 100 <;> cases sd y i j 100 <;> simp
def plT (x y : List Int) (N : Nat) : Nat := sm (fun j => sm (fun i => cI x y i j) j) N
theorem plT_comm (x y : List Int) (N : Nat) : plT y x N = plT x y N := by
  unfold plT
  refine sm_congr N fun j _ => sm_congr j fun i _ => ?_
  unfold cI
  rw [cd_comm x y i j 0, cd_comm x y i j 100]
theorem plT_zero (x y : List Int) (N : Nat) : plT x y N = 0 ↔ ∀ i j : Nat, i < j → j < N → sd x i j 0 = sd y i j 0 ∧ sd x i j 100 = sd y i j 100 := by
  unfold plT
  rw [sm_zero]
  constructor
  · intro h i j hij hj
    exact (cI_zero x y i j).1 ((sm_zero _ _).1 (h j hj) i hij)
  · intro h j hj
    exact (sm_zero _ _).2 fun i hi => (cI_zero x y i j).2 (h i j hi hj)
theorem two_terms (u : Int) (t : Nat) (h : (t = 0 ∧ u = 0) ∨ (t = 1 ∧ u = 100)) : rd ([0, 100] : List Int) (t : Int) = u := by
  rcases h with ⟨rfl, rfl⟩ | ⟨rfl, rfl⟩ <;> rfl
theorem cI_row (x y : List Int) (j : Nat) (hj : j ≤ 8) (i : Nat) (hi : i ≤ j) : sm (fun i => cI x y i j) i ≤ 16 := by
  have := sm_le (fun i => cI x y i j) 2 i (fun i _ => cI_le x y i j)
  omega
theorem cI_all (x y : List Int) (N : Nat) (hN : N ≤ 8) (j : Nat) (hj : j ≤ N) : sm (fun j => sm (fun i => cI x y i j) j) j ≤ 200 := by
  have := sm_le (fun j => sm (fun i => cI x y i j) j) 16 j (fun j' h => cI_row x y j' (by omega) j' (Nat.le_refl _))
  omega
theorem pl_step (x y : List Int) (hx : Pt x) (hy : Pt y) (hxy : x.length = y.length) (m i j t : Nat) (u : Int) (hm : m ≤ 100000) (hij : i < j) (hj : j < x.length) (ht : (t = 0 ∧ u = 0) ∨ (t = 1 ∧ u = 100)) (r : Int × Bool)
    (h : Ev (fun k => impl_PlanesBetween.l2 k x y ((m + cd x y i j u : Nat) : Int) (j : Int) (i : Int) (x.length : Int) (j : Int) (j : Int) (i : Int) [0, 100] (([0, 100] : List Int).length : Int) ((t + 1 : Nat) : Int)) r) :
    Ev (fun k => impl_PlanesBetween.l2 k x y (m : Int) (j : Int) (i : Int) (x.length : Int) (j : Int) (j : Int) (i : Int) [0, 100] (([0, 100] : List Int).length : Int) (t : Int)) r := by
  have hl : ([0, 100] : List Int).length = 2 := rfl
  have h1 := hx.rd i (by omega)
  have h2 := hx.rd j hj
  have h3 := hy.rd i (by omega)
  have h4 := hy.rd j (by omega)
  have w1 : wrap64 (rd x (i : Int) - rd x (j : Int)) = rd x (i : Int) - rd x (j : Int) := wrap64_in _ (by omega) (by omega)
  have w2 : wrap64 (rd y (i : Int) - rd y (j : Int)) = rd y (i : Int) - rd y (j : Int) := wrap64_in _ (by omega) (by omega)
  have ht2 : t < 2 := by omega
  refine Ev.step (f := ?f1) (fun k => ?h1) ?g1
  case g1 => exact h
  case h1 =>
    rw [impl_PlanesBetween.l2, if_pos (by omega), if_pos (by omega), if_pos (by omega), if_pos (by omega), if_pos (by omega), if_pos (by omega), if_pos (by omega), if_pos (by omega), if_pos (by omega), w1, w2, two_terms u t ht, wrap_succ t (by omega), wrap_succ m (by omega)]
    unfold cd sd
    split
    · rfl
    · rfl
theorem pl_l1 (x y : List Int) (hx : Pt x) (hy : Pt y) (hxy : x.length = y.length) (j : Nat) (hj : j < x.length) (M : Nat) (hM : M ≤ 1000) (r : Int × Bool)
    (hr : Ev (fun k => impl_PlanesBetween.l0 k x y ((M + sm (fun i => cI x y i j) j : Nat) : Int) (x.length : Int) ((j + 1 : Nat) : Int)) r) : ∀ (d i : Nat), i + d = j →
    Ev (fun k => impl_PlanesBetween.l1 k x y ((M + sm (fun i => cI x y i j) i : Nat) : Int) (j : Int) (x.length : Int) (j : Int) (j : Int) (i : Int)) r := by
  have h8 := hx.len
  intro d
  induction d with
  | zero =>
    intro i hi
    obtain rfl : i = j := by omega
    refine Ev.step (f := ?f1) (fun k => ?h1) ?g1
    case g1 => exact hr
    case h1 => rw [impl_PlanesBetween.l1, if_neg (by omega), wrap_succ i (by omega)]
  | succ d ih =>
    intro i hi
    have hb := cI_row x y j (by omega) i (by omega)
    have h := ih (i + 1) (by omega)
    rw [sm] at h
    have hc := cI_le x y i j
    have e3 : Ev (fun k => impl_PlanesBetween.l2 k x y ((M + (sm (fun i => cI x y i j) i + cI x y i j) : Nat) : Int) (j : Int) (i : Int) (x.length : Int) (j : Int) (j : Int) (i : Int) [0, 100] (([0, 100] : List Int).length : Int) ((2 : Nat) : Int)) r := by
      refine Ev.step (f := ?f3) (fun k => ?h3) ?g3
      case g3 => exact h
      case h3 => rw [impl_PlanesBetween.l2, if_neg (by simp), wrap_succ i (by omega)]
    have e2 := pl_step x y hx hy hxy (M + sm (fun i => cI x y i j) i + cd x y i j 0) i j 1 100 (by have := cd_le x y i j 0; omega) (by omega) hj (.inr ⟨rfl, rfl⟩) r (by
      rw [show M + sm (fun i => cI x y i j) i + cd x y i j 0 + cd x y i j 100 = M + (sm (fun i => cI x y i j) i + cI x y i j) by unfold cI; omega]
      exact e3)
    have e1 := pl_step x y hx hy hxy (M + sm (fun i => cI x y i j) i) i j 0 0 (by omega) (by omega) hj (.inl ⟨rfl, rfl⟩) r e2
    refine Ev.step (f := ?f2) (fun k => ?h2) ?g2
    case g2 => exact e1
    case h2 =>
      rw [impl_PlanesBetween.l1, if_pos (by omega), Option.bind_some]
      rfl
theorem pl_l0 (x y : List Int) (hx : Pt x) (hy : Pt y) (hxy : x.length = y.length) : ∀ (d j : Nat), j + d = x.length →
    Ev (fun k => impl_PlanesBetween.l0 k x y ((sm (fun j => sm (fun i => cI x y i j) j) j : Nat) : Int) (x.length : Int) (j : Int)) ((plT x y x.length : Int), true) := by
  have h8 := hx.len
  intro d
  induction d with
  | zero =>
    intro j hj
    obtain rfl : j = x.length := by omega
    refine Ev.step (f := fun _ => some ((plT x y x.length : Int), true)) (fun k => ?_) (Ev.now _)
    rw [impl_PlanesBetween.l0, if_neg (by omega)]
    rfl
  | succ d ih =>
    intro j hj
    have hb := cI_all x y x.length h8 j (by omega)
    have h := ih (j + 1) (by omega)
    rw [sm] at h
    have h1 := pl_l1 x y hx hy hxy j (by omega) (sm (fun j => sm (fun i => cI x y i j) j) j) (by omega) _ h j 0 (by omega)
    refine Ev.step (f := ?f1) (fun k => ?h1) ?g1
    case g1 => exact h1
    case h1 =>
      rw [impl_PlanesBetween.l0, if_pos (by omega)]
      rfl
def plR (x y : List Int) : Int × Bool := if (ptB x && ptB y && decide (x.length = y.length)) = true then ((plT x y x.length : Int), true) else (0, false)
theorem PlanesBetween_ev (x y : List Int) : Ev (fun k => impl_PlanesBetween.f k x y) (plR x y) := by
  unfold impl_PlanesBetween.f plR
  refine Ev.bind (isPoint_ev x) ?_
  have bad : Ev (fun k => impl_PlanesBetween.j0 k x y true) (0, false) := by
    refine Ev.step (f := fun _ => some (0, false)) (fun k => ?_) (Ev.now _)
    rw [impl_PlanesBetween.j0, if_pos rfl]
  cases h : ptB x with
  | false => exact Ev.neg (by decide) bad
  | true =>
    refine Ev.pos rfl (Ev.bind (isPoint_ev y) ?_)
    cases h2 : ptB y with
    | false => exact Ev.neg (by decide) bad
    | true =>
      refine Ev.pos rfl ?_
      by_cases hl : x.length = y.length
      · have hb : ((x.length : Int) != (y.length : Int)) = false := by rw [hl]; simp
        rw [hb, decide_eq_true hl]
        have hx := (ptB_iff x).1 h
        have hy := (ptB_iff y).1 h2
        have h0 := pl_l0 x y hx hy hl x.length 0 (by omega)
        refine Ev.step (f := ?f1) (fun k => ?h1) ?g1
        case g1 => exact h0
        case h1 =>
          rw [impl_PlanesBetween.j0, if_neg (by decide)]
          rfl
      · have hb : ((x.length : Int) != (y.length : Int)) = true := bne_iff_ne.2 (by omega)
        rw [hb, decide_eq_false hl]
        exact bad
theorem spl_step (x y : List Int) (hx : Pt x) (hy : Pt y) (hxy : x.length = y.length) (m i j t : Nat) (u : Int) (hm : m ≤ 100000) (hij : i < j) (hj : j < x.length) (ht : (t = 0 ∧ u = 0) ∨ (t = 1 ∧ u = 100)) (r : Int × Bool)
    (h : Ev (fun k => spec_PlanesBetween.l2 k x y ((m + cd x y i j u : Nat) : Int) (i : Int) (j : Int) (x.length : Int) (i : Int) [0, 100] (([0, 100] : List Int).length : Int) ((t + 1 : Nat) : Int)) r) :
    Ev (fun k => spec_PlanesBetween.l2 k x y (m : Int) (i : Int) (j : Int) (x.length : Int) (i : Int) [0, 100] (([0, 100] : List Int).length : Int) (t : Int)) r := by
  have hl : ([0, 100] : List Int).length = 2 := rfl
  have h1 := hx.rd i (by omega)
  have h2 := hx.rd j hj
  have h3 := hy.rd i (by omega)
  have h4 := hy.rd j (by omega)
  have w1 : wrap64 (rd x (i : Int) - rd x (j : Int)) = rd x (i : Int) - rd x (j : Int) := wrap64_in _ (by omega) (by omega)
  have w2 : wrap64 (rd y (i : Int) - rd y (j : Int)) = rd y (i : Int) - rd y (j : Int) := wrap64_in _ (by omega) (by omega)
  have ht2 : t < 2 := by omega
  refine Ev.step (f := ?f1) (fun k => ?h1) ?g1
  case g1 => exact h
  case h1 =>
    rw [spec_PlanesBetween.l2, if_pos (by omega), if_pos (by omega), if_pos (by omega), if_pos (by omega), if_pos (by omega), if_pos (by omega), if_pos (by omega), if_pos (by omega), if_pos (by omega), w1, w2, two_terms u t ht, wrap_succ t (by omega), wrap_succ m (by omega)]
    unfold cd sd
    split
    · rfl
    · rfl
def cJ (x y : List Int) (i j : Nat) : Nat := if i < j then cI x y i j else 0
theorem cJ_row (x y : List Int) (i j : Nat) (hj : j ≤ 8) : sm (fun j => cJ x y i j) j ≤ 16 := by
  have := sm_le (fun j => cJ x y i j) 2 j (fun j _ => by have := cI_le x y i j; show cJ x y i j ≤ 2; unfold cJ; split <;> omega)
  omega
theorem spl_l1 (x y : List Int) (hx : Pt x) (hy : Pt y) (hxy : x.length = y.length) (i : Nat) (hi : i < x.length) (M : Nat) (hM : M ≤ 1000) (r : Int × Bool)
    (hr : Ev (fun k => spec_PlanesBetween.l0 k x y ((M + sm (fun j => cJ x y i j) x.length : Nat) : Int) (x.length : Int) ((i + 1 : Nat) : Int)) r) : ∀ (d j : Nat), j + d = x.length → i < j →
    Ev (fun k => spec_PlanesBetween.l1 k x y ((M + sm (fun j => cJ x y i j) j : Nat) : Int) (i : Int) (j : Int) (x.length : Int) (i : Int)) r := by
  have h8 := hx.len
  intro d
  induction d with
  | zero =>
    intro j hj hij
    obtain rfl : j = x.length := by omega
    refine Ev.step (f := ?f1) (fun k => ?h1) ?g1
    case g1 => exact hr
    case h1 => rw [spec_PlanesBetween.l1, if_neg (by omega), wrap_succ i (by omega)]
  | succ d ih =>
    intro j hj hij
    have hb := cJ_row x y i j (by omega)
    have h := ih (j + 1) (by omega) (by omega)
    have ec : cJ x y i j = cI x y i j := if_pos hij
    rw [sm, ec] at h
    have hc := cI_le x y i j
    have e3 : Ev (fun k => spec_PlanesBetween.l2 k x y ((M + (sm (fun j => cJ x y i j) j + cI x y i j) : Nat) : Int) (i : Int) (j : Int) (x.length : Int) (i : Int) [0, 100] (([0, 100] : List Int).length : Int) ((2 : Nat) : Int)) r := by
      refine Ev.step (f := ?f3) (fun k => ?h3) ?g3
      case g3 => exact h
      case h3 => rw [spec_PlanesBetween.l2, if_neg (by simp), wrap_succ j (by omega)]
    have e2 := spl_step x y hx hy hxy (M + sm (fun j => cJ x y i j) j + cd x y i j 0) i j 1 100 (by have := cd_le x y i j 0; omega) hij (by omega) (.inr ⟨rfl, rfl⟩) r (by
      rw [show M + sm (fun j => cJ x y i j) j + cd x y i j 0 + cd x y i j 100 = M + (sm (fun j => cJ x y i j) j + cI x y i j) by unfold cI; omega]
      exact e3)
    have e1 := spl_step x y hx hy hxy (M + sm (fun j => cJ x y i j) j) i j 0 0 (by omega) hij (by omega) (.inl ⟨rfl, rfl⟩) r e2
    refine Ev.step (f := ?f2) (fun k => ?h2) ?g2
    case g2 => exact e1
    case h2 =>
      rw [spec_PlanesBetween.l1, if_pos (by omega), Option.bind_some]
      rfl
theorem spl_l0 (x y : List Int) (hx : Pt x) (hy : Pt y) (hxy : x.length = y.length) : ∀ (d i : Nat), i + d = x.length →
    Ev (fun k => spec_PlanesBetween.l0 k x y ((sm (fun i => sm (fun j => cJ x y i j) x.length) i : Nat) : Int) (x.length : Int) (i : Int)) ((plT x y x.length : Int), true) := by
  have h8 := hx.len
  have et : sm (fun i => sm (fun j => cJ x y i j) x.length) x.length = plT x y x.length := sm_swap (fun i j => cI x y i j) x.length
  intro d
  induction d with
  | zero =>
    intro i hi
    obtain rfl : i = x.length := by omega
    refine Ev.step (f := fun _ => some ((plT x y x.length : Int), true)) (fun k => ?_) (Ev.now _)
    rw [spec_PlanesBetween.l0, if_neg (by omega), et]
  | succ d ih =>
    intro i hi
    have hb := sm_le (fun i => sm (fun j => cJ x y i j) x.length) 16 i (fun i' _ => cJ_row x y i' x.length h8)
    have h := ih (i + 1) (by omega)
    rw [sm] at h
    have h1 := spl_l1 x y hx hy hxy i (by omega) (sm (fun i => sm (fun j => cJ x y i j) x.length) i) (by omega) _ h (x.length - (i + 1)) (i + 1) (by omega) (by omega)
    have ez : sm (fun j => cJ x y i j) (i + 1) = 0 := (sm_zero _ _).2 (fun j hj => if_neg (by omega))
    rw [ez, Nat.add_zero] at h1
    refine Ev.step (f := ?f1) (fun k => ?h1) ?g1
    case g1 => exact h1
    case h1 => rw [spec_PlanesBetween.l0, if_pos (by omega), wrap_succ i (by omega)]
theorem spec_PlanesBetween_ev (x y : List Int) (hs : x.length ≤ 1099511627776) (hs2 : y.length ≤ 1099511627776) : Ev (fun k => spec_PlanesBetween.f k x y) (plR x y) := by
  unfold spec_PlanesBetween.f plR
  refine Ev.bind (rePoint_ev x hs) ?_
  have bad : Ev (fun k => spec_PlanesBetween.j0 k x y true) (0, false) := by
    refine Ev.step (f := fun _ => some (0, false)) (fun k => ?_) (Ev.now _)
    rw [spec_PlanesBetween.j0, if_pos rfl]
  cases h : ptB x with
  | false => exact Ev.neg (by decide) bad
  | true =>
    refine Ev.pos rfl (Ev.bind (rePoint_ev y hs2) ?_)
    cases h2 : ptB y with
    | false => exact Ev.neg (by decide) bad
    | true =>
      refine Ev.pos rfl ?_
      by_cases hl : x.length = y.length
      · have hb : ((x.length : Int) != (y.length : Int)) = false := by rw [hl]; simp
        rw [hb, decide_eq_true hl]
        have hx := (ptB_iff x).1 h
        have hy := (ptB_iff y).1 h2
        have h0 := spl_l0 x y hx hy hl x.length 0 (by omega)
        refine Ev.step (f := ?f1) (fun k => ?h1) ?g1
        case g1 => exact h0
        case h1 =>
          rw [spec_PlanesBetween.j0, if_neg (by decide)]
          rfl
      · have hb : ((x.length : Int) != (y.length : Int)) = true := bne_iff_ne.2 (by omega)
        rw [hb, decide_eq_false hl]
        exact bad
/-! ### the planes and the labels -/
theorem lpT_sm (x : List Int) (i : Nat) : ∀ m, lpT x i m = sm (fun j => if lpC x (i : Int) (j : Int) = true then 1 else 0) m
  | 0 => rfl
  | m + 1 => by rw [lpT, sm, lpT_sm x i m]
/-- From a point whose numbers fall by less than 100 in all to z: as many planes as the numbers of z's label together. -/
theorem planes_label (z s : List Int) (hz : Pt z) (hs : ∀ i j : Nat, i < j → j < z.length → sd s i j 0 = true ∧ sd s i j 100 = false) : plT z s z.length = sm (fun i => lpT z i z.length) z.length := by
  have e1 : sm (fun i => lpT z i z.length) z.length = sm (fun i => sm (fun j => if lpC z (i : Int) (j : Int) = true then 1 else 0) z.length) z.length := sm_congr _ fun i _ => lpT_sm z i z.length
  rw [e1, sm_sym (fun i j => if lpC z (i : Int) (j : Int) = true then 1 else 0) (fun i => if_neg (fun h => by have := of_decide_eq_true h; omega))]
  unfold plT
  refine sm_congr _ fun j hj => sm_congr _ fun i hi => ?_
  have hij := hs i j hi hj
  have hne := hz.ne i j hi hj
  unfold cI cd
  rw [hij.1, hij.2]
  have a1 : (if (sd z i j 0 != true) = true then 1 else 0) = (if lpC z (i : Int) (j : Int) = true then 1 else 0) := by
    by_cases c : rd z (j : Int) > rd z (i : Int)
    · have e : lpC z (i : Int) (j : Int) = true := decide_eq_true (.inr ⟨by omega, c⟩)
      have e2 : sd z i j 0 = false := decide_eq_false (by omega)
      rw [e, e2]
      rfl
    · have e : lpC z (i : Int) (j : Int) = false := decide_eq_false (fun h => by omega)
      have e2 : sd z i j 0 = true := decide_eq_true (by omega)
      rw [e, e2]
      rfl
  have a2 : (if (sd z i j 100 != false) = true then 1 else 0) = (if lpC z (j : Int) (i : Int) = true then 1 else 0) := by
    by_cases c : rd z (i : Int) > rd z (j : Int) + 100
    · have e : lpC z (j : Int) (i : Int) = true := decide_eq_true (.inl ⟨by omega, c⟩)
      have e2 : sd z i j 100 = true := decide_eq_true (by omega)
      rw [e, e2]
      rfl
    · have e : lpC z (j : Int) (i : Int) = false := decide_eq_false (fun h => by omega)
      have e2 : sd z i j 100 = false := decide_eq_false (by omega)
      rw [e, e2]
      rfl
  rw [a1, a2]
end Go.Proofs.Ytgfedgnpffockaa.Plain
