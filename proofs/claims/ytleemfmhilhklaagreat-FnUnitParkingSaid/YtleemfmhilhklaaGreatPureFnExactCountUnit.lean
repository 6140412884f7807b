/- The pure statement of the law FnExactCountUnit: the program's CountUnit and the reference's one answer alike at every two numbers; no condition. -/
import Derived.Test.YtleemfmhilhklaaGreatPAllx1
import Derived.Test.YtleemfmhilhklaaGreatPAllx4
import Derived.Test.YtleemfmhilhklaaGreatPAllx5
import Derived.Test.YtleemfmhilhklaaGreatPAllx6
import Derived.Test.YtleemfmhilhklaaGreatPAllx7
import Derived.Test.YtleemfmhilhklaaGreatBaseQ
import Derived.Test.YtleemfmhilhklaaGreatBaseU
import Derived.Test.YtleemfmhilhklaaGreatBaseJ
namespace Go.Proofs.YtleemfmhilhklaaGreat.Pure
open Go.RowKit Go.Proofs.YtleemfmhilhklaaGreatW.PrintWords Go.Proofs.YtleemfmhilhklaaGreatW.PrintLast Go.Proofs.YtleemfmhilhklaaGreat.Hand Go.Proofs.YtleemfmhilhklaaGreat.PAll Go.Proofs.YtleemfmhilhklaaGreat.Plain
set_option linter.unusedVariables false
namespace CountUnit
theorem own_eq (l : List Int) (hs : l.length ≤ 1099511627776) : spec_l1Own.f l = some l := by
  unfold spec_l1Own.f
  simp only [Option.bind_some, List.nil_append]
  rw [if_pos (by simp; omega)]
theorem clone_eq (l : List Int) (hs : l.length ≤ 1099511627776) : slices_Clone_int_int.f l = some l := by
  unfold slices_Clone_int_int.f
  rw [if_pos (by omega)]
/-! the program's table -/
theorem completions_l2 (n : Nat) (l : List Int) (left : Nat) (hleft : left ≤ 6) (own w : Int) (hf : 0 ≤ own ∧ own ≤ 1000) (v : Nat) (kk : Nat) (hk : kk ≤ left) (wl : List Int) (r : Int) : ∀ (d m : Nat) (nxt : List Int), m + d = left - kk + 1 → nxt.length = left + 1 →
    Ev (fun k => impl_completions.l1 k l (left : Int) own (inn left own ((v : Int) + 1) w kk d m nxt) (n : Int) (v : Int) wl (wl.length : Int) ((kk + 1 : Nat) : Int) (v : Int)) r →
    Ev (fun k => impl_completions.l2 k l (left : Int) own nxt (kk : Int) w (m : Int) (n : Int) (v : Int) wl (wl.length : Int) (kk : Int) (v : Int)) r := by
  intro d
  induction d with
  | zero =>
    intro m nxt hm hn hg
    refine Ev.step (fun k => ?_) hg
    rw [impl_completions.l2, wrap64_in ((kk : Int) + (m : Int)) (by omega) (by omega), if_neg (by omega), wrap_succ kk (by omega)]
    rfl
  | succ d ih =>
    intro m nxt hm hn hg
    have e1 : wrap64 ((kk : Int) + (m : Int)) = ((kk + m : Nat) : Int) := by rw [wrap64_in _ (by omega) (by omega)]; omega
    have e2 : wrap64 ((wrap64 (own + (kk : Int))) + (m : Int)) = own + (kk : Int) + (m : Int) := by rw [wrap64_in (own + (kk : Int)) (by omega) (by omega), wrap64_in _ (by omega) (by omega)]
    have e3 : wrap64 ((left : Int) - (kk : Int)) = ((left - kk : Nat) : Int) := by rw [wrap64_in _ (by omega) (by omega)]; omega
    rw [inn] at hg
    by_cases hc : own + (kk : Int) + (m : Int) ≥ (v : Int) + 1
    · rw [if_pos hc] at hg
      refine Ev.step (f := ?f1) (fun k => ?h1) ?g1
      case h1 => rw [impl_completions.l2, e1, e2, e3, if_pos (by omega), if_pos (by omega), if_pos (by omega), if_pos (by omega), Int.toNat_natCast, wrap_succ m (by omega)]
      exact Ev.bind (choose_ev (left - kk) m (by omega) (by omega)) (ih (m + 1) _ (by omega) (by simpa using hn) hg)
    · rw [if_neg hc] at hg
      refine Ev.step (fun k => ?_) (ih (m + 1) _ (by omega) hn hg)
      rw [impl_completions.l2, e1, e2, if_pos (by omega), if_neg (by omega), wrap_succ m (by omega)]
theorem completions_l1 (n : Nat) (l : List Int) (left : Nat) (hleft : left ≤ 6) (own : Int) (hf : 0 ≤ own ∧ own ≤ 1000) (v : Nat) (hv1 : (v : Int) < 1000) (wl : List Int) (hw : wl.length = left + 1) (r : Int) : ∀ (d kk : Nat) (nxt : List Int), kk + d = left + 1 → nxt.length = left + 1 →
    Ev (fun k => impl_completions.l0 k l (left : Int) (outr left own ((v : Int) + 1) wl d kk nxt) (n : Int) ((v + 1 : Nat) : Int)) r →
    Ev (fun k => impl_completions.l1 k l (left : Int) own nxt (n : Int) (v : Int) wl (wl.length : Int) (kk : Int) (v : Int)) r := by
  intro d
  induction d with
  | zero =>
    intro kk nxt hm hn hg
    refine Ev.step (fun k => ?_) hg
    rw [impl_completions.l1, if_neg (by omega), wrap_succ v (by omega)]
    rfl
  | succ d ih =>
    intro kk nxt hm hn hg
    rw [outr] at hg
    refine Ev.step (f := ?f1) (fun k => ?h1) ?g1
    case h1 => rw [impl_completions.l1, if_pos (by omega), if_pos (by omega), if_pos (by omega)]
    exact completions_l2 n l left hleft own (rd wl (kk : Int)) hf v kk (by omega) wl r (left - kk + 1) 0 nxt (by omega) hn (ih (kk + 1) _ (by omega) (by rw [inn_length]; exact hn) hg)
theorem completions_l0 (n : Nat) (hn : n ≤ 6) (l : List Int) (left : Nat) (hleft : left ≤ 6) (hl : l.length ≤ 6) : ∀ (d v : Nat) (wl : List Int), v + d = n → wl.length = left + 1 →
    Ev (fun k => impl_completions.l0 k l (left : Int) wl (n : Int) (v : Int)) (rd (dp left (fun v => upTo l (v : Int)) (fun v => (v : Int) + 1) d v wl) (left : Int)) := by
  intro d
  induction d with
  | zero =>
    intro v wl hd hw
    refine Ev.step (f := fun _ => some (rd wl (left : Int))) (fun k => ?_) (Ev.now _)
    rw [impl_completions.l0, if_neg (by omega), if_pos (by omega), if_pos (by omega)]
  | succ d ih =>
    intro v wl hd hw
    have hu := upTo_in l (v : Int)
    have e2 : wrap64 ((left : Int) + 1) = ((left + 1 : Nat) : Int) := wrap_succ left (by omega)
    rw [dp]
    refine Ev.step (f := ?f1) (fun k => ?h1) ?g1
    case h1 => rw [impl_completions.l0, if_pos (by omega), countIf_compl.f, Option.bind_some, e2, if_pos (by omega), if_pos (by omega), Int.toNat_natCast]
    exact completions_l1 n l left hleft (upTo l (v : Int)) (by omega) v (by omega) wl hw _ (left + 1) 0 (List.replicate (left + 1) 0) (by omega) (by simp) (ih (v + 1) _ (by omega) (by rw [outr_length]; simp))
theorem completions_ev (l : List Int) (n : Nat) (hn : n ≤ 6) (hl : l.length ≤ n) : Ev (fun k => impl_completions.f k l (n : Int)) (pways l n) := by
  obtain ⟨left, hleft⟩ : ∃ left : Nat, left = n - l.length := ⟨_, rfl⟩
  have e1 : wrap64 ((n : Int) - (l.length : Int)) = (left : Int) := by rw [wrap64_in _ (by omega) (by omega)]; omega
  have e2 : wrap64 ((left : Int) + 1) = ((left + 1 : Nat) : Int) := wrap_succ left (by omega)
  unfold impl_completions.f
  rw [e1, e2]
  refine Ev.pos (by omega) (Ev.pos (by omega) (Ev.bindc rfl (Ev.pos (by simp) ?_)))
  have h0 := completions_l0 n hn l left (by omega) (by omega) n 0 (1 :: List.replicate left 0) (by omega) (by simp)
  unfold pways
  rw [← hleft]
  exact h0
/-! the list with a rank -/
theorem at_next {n : Nat} (hn : n ≤ 5) {d : Nat} (p : List Int) (hp : p.length + (d + 1) = n) (hl : LowN p n) (s : List Int)
    (go : ∀ (x r : Nat), x < n → (enum n d (p ++ [(x : Int)]))[r]? = some s → Ev (fun k => impl_parkingAt.l0 k (n : Int) (r : Int) (p ++ [(x : Int)])) s) :
    ∀ (e x r : Nat), x + e = n → r ≤ 1000000 → (catF (fun x => enum n d (p ++ [(x : Int)])) x e)[r]? = some s → Ev (fun k => impl_parkingAt.l1 k (n : Int) (r : Int) p (x : Int)) s := by
  intro e
  induction e with
  | zero => intro x r hx hr h; simp [catF] at h
  | succ e ih =>
    intro x r hx hr h
    have hc := completions_ev (p ++ [(x : Int)]) n (by omega) (by simp; omega)
    have hw := pways_eq n hn (p ++ [(x : Int)]) d (by simp; omega) (hl.snoc (by omega))
    rw [catF] at h
    refine Ev.step (f := ?f1) (fun k => ?h1) ?g1
    case h1 => rw [impl_parkingAt.l1, clone_eq p (by omega), Option.bind_some, if_pos (by omega)]
    refine Ev.bind hc ?_
    by_cases hlt : r < (enum n d (p ++ [(x : Int)])).length
    · rw [List.getElem?_append_left hlt] at h
      exact Ev.pos (by omega) (Ev.pos (by omega) (go x r (by omega) h))
    · rw [List.getElem?_append_right (by omega)] at h
      refine Ev.neg (by omega) ?_
      rw [wrap_succ x (by omega), wrap64_in _ (by omega) (by omega), hw, show (r : Int) - ((enum n d (p ++ [(x : Int)])).length : Int) = ((r - (enum n d (p ++ [(x : Int)])).length : Nat) : Int) by omega]
      exact ih (x + 1) _ (by omega) (by omega) h
theorem at_ev {n : Nat} (hn : n ≤ 5) (s : List Int) : ∀ (d : Nat) (p : List Int) (r : Nat), p.length + d = n → LowN p n → (enum n d p)[r]? = some s → Ev (fun k => impl_parkingAt.l0 k (n : Int) (r : Int) p) s := by
  intro d
  induction d with
  | zero =>
    intro p r hp hl h
    rw [enum] at h
    split at h
    · have e : s = p := by
        cases r with
        | zero => simpa using h.symm
        | succ r => simp at h
      subst e
      refine Ev.step (f := fun _ => some s) (fun k => ?_) (Ev.now _)
      rw [impl_parkingAt.l0, if_neg (by omega)]
    · simp at h
  | succ d ih =>
    intro p r hp hl h
    have hlt : r < (enum n (d + 1) p).length := (List.getElem?_eq_some_iff.1 h).1
    have hle := enum_le n hn (d + 1) p hp hl
    rw [enum] at h
    have h2 := at_next hn p hp hl s (fun x r hx hr => ih (p ++ [(x : Int)]) r (by simp; omega) (hl.snoc hx) hr) n 0 r (by omega) (by omega) h
    refine Ev.step (fun k => ?_) h2
    rw [impl_parkingAt.l0, if_pos (by omega)]
    rfl
theorem count_fin : ∀ n : Fin 6, impl_countParking.f 60 (n.1 : Int) = some (DD (ownN []) needN n.1 n.1 n.1 : Int) := by decide +kernel
theorem count_ev (n : Nat) (hn : n ≤ 5) : Ev (fun k => impl_countParking.f k (n : Int)) ((enum n n []).length : Int) := by
  rw [enum_length n (by omega) n [] (by simp) (fun x hx => by cases hx)]
  exact Ev.of (k := 60) (fun k => impl_countParking.mono _ k) (count_fin ⟨n, by omega⟩)
theorem allParking_ev (n : Nat) (hn : n ≤ 5) : Ev (fun k => impl_allParking.f k (n : Int)) (enum n n []) := by
  have hle := enum_le n hn n [] (by simp) (fun x hx => by cases hx)
  have loop : ∀ (d i : Nat), i + d = (enum n n []).length → Ev (fun k => impl_allParking.l0 k (n : Int) ((enum n n []).take i) ((enum n n []).length : Int) (i : Int)) (enum n n []) := by
    intro d
    induction d with
    | zero =>
      intro i hi
      refine Ev.step (f := fun _ => some (enum n n [])) (fun k => ?_) (Ev.now _)
      rw [impl_allParking.l0, if_neg (by omega), List.take_of_length_le (by omega)]
    | succ d ih =>
      intro i hi
      have h1 : i < (enum n n []).length := by omega
      have h2 := at_ev hn (enum n n [])[i] n [] i (by simp) (fun x hx => by cases hx) (List.getElem?_eq_getElem h1)
      have h3 := ih (i + 1) (by omega)
      rw [List.take_succ_eq_append_getElem h1] at h3
      refine Ev.step (f := ?f1) (fun k => ?h1) ?g1
      case h1 => rw [impl_allParking.l0, if_pos (by omega), wrap_succ i (by omega)]
      refine Ev.bind (a := (enum n n [])[i]) ?_ (Ev.pos (by simp; omega) h3)
      unfold impl_parkingAt.f
      exact h2
  unfold impl_allParking.f
  refine Ev.bind (count_ev n hn) ?_
  have h := loop (enum n n []).length 0 (by omega)
  rwa [List.take_zero] at h
/-! the reference's lists -/
theorem cnAll_ev (n : Nat) (hn : n ≤ 5) : ∀ (d : Nat) (p : List Int), p.length + d = n → LowN p n → Ev (fun k => spec_cnAll.f k p (n : Int)) (enum n d p) := by
  intro d
  induction d with
  | zero =>
    intro p hp hl
    rw [enum]
    refine Ev.step (f := ?f1) (fun k => ?h1) ?g1
    case h1 => rw [spec_cnAll.f, if_pos (by omega)]
    refine Ev.bind (paParking_ev p) ?_
    cases h : parking p with
    | false => exact Ev.const rfl
    | true =>
      refine Ev.const ?_
      simp only [if_true, own_eq p (show p.length ≤ 1099511627776 by omega)]
      rfl
  | succ d ih =>
    intro p hp hl
    rw [enum]
    have loop : ∀ (e x : Nat) (acc : List (List Int)), x + e = n → acc.length ≤ 7776 * x → Ev (fun k => spec_cnAll.l0 k p (n : Int) acc (x : Int)) (acc ++ catF (fun x => enum n d (p ++ [(x : Int)])) x e) := by
      intro e
      induction e with
      | zero =>
        intro x acc hx ha
        refine Ev.step (f := fun _ => some acc) (fun k => ?_) (Ev.const (by rw [catF, List.append_nil]))
        rw [spec_cnAll.l0, if_neg (by omega)]
      | succ e ihe =>
        intro x acc hx ha
        have h1 := ih (p ++ [(x : Int)]) (by simp; omega) (hl.snoc (by omega))
        have hle := enum_le n hn d (p ++ [(x : Int)]) (by simp; omega) (hl.snoc (by omega))
        rw [catF, ← List.append_assoc]
        refine Ev.step (f := ?f2) (fun k => ?h2) ?g2
        case h2 => rw [spec_cnAll.l0, if_pos (by omega), own_eq p (by omega), Option.bind_some, if_pos (by omega), wrap_succ x (by omega)]
        exact Ev.bind h1 (Ev.pos (by omega) (ihe (x + 1) _ (by omega) (by rw [List.length_append]; omega)))
    refine Ev.step (fun k => ?_) (loop n 0 [] (by omega) (by simp))
    rw [spec_cnAll.f, if_neg (by omega)]
    rfl
/-! counting the unit ones -/
def uc (m : Int) : List (List Int) → Int
  | [] => 0
  | q :: qs => (if unit q m = true then 1 else 0) + uc m qs
theorem uc_in (m : Int) : ∀ L : List (List Int), 0 ≤ uc m L ∧ uc m L ≤ (L.length : Int)
  | [] => by simp [uc]
  | q :: qs => by
    have := uc_in m qs
    rw [uc, List.length_cons]
    split <;> omega
theorem rd2_nat (L : List (List Int)) (i : Nat) (h : i < L.length) : rd_L3 L (i : Int) = L[i] := by
  unfold rd_L3
  rw [Int.toNat_natCast, List.getD_eq_getElem?_getD, List.getElem?_eq_getElem h]
  rfl
theorem spec_l0 (m : Int) (L : List (List Int)) (hL : L.length ≤ 1000000) (hp : ∀ q ∈ L, parking q = true) : ∀ (d i : Nat) (acc : Int), i + d = L.length → 0 ≤ acc ∧ acc ≤ (i : Int) →
    Ev (fun k => spec_CountUnit.l0 k m acc L (L.length : Int) (i : Int)) (acc + uc m (L.drop i), true) := by
  intro d
  induction d with
  | zero =>
    intro i acc hi ha
    refine Ev.step (f := fun _ => some (acc, true)) (fun k => ?_) (Ev.const ?_)
    · rw [spec_CountUnit.l0, if_neg (by omega)]
    · rw [List.drop_eq_nil_of_le (by omega), uc, Int.add_zero]
  | succ d ih =>
    intro i acc hi ha
    have h1 : i < L.length := by omega
    rw [List.drop_eq_getElem_cons h1, uc]
    refine Ev.step (f := ?f1) (fun k => ?h1) ?g1
    case h1 => rw [spec_CountUnit.l0, if_pos (by omega), if_pos (by omega), if_pos (by omega), rd2_nat L i h1, wrap_succ i (by omega), wrap64_in (acc + 1) (by omega) (by omega)]
    refine Ev.bind (vaUnit_ev (hp _ (List.getElem_mem h1)) m) ?_
    by_cases hu : unit L[i] m = true
    · rw [if_pos hu, ← Int.add_assoc]
      exact Ev.pos hu (ih (i + 1) (acc + 1) (by omega) (by omega))
    · rw [if_neg hu, Int.zero_add]
      exact Ev.neg hu (ih (i + 1) acc (by omega) (by omega))
theorem impl_l0 (m : Int) (hm : 0 ≤ m) (L : List (List Int)) (hL : L.length ≤ 1000000) (hp : ∀ q ∈ L, parking q = true) : ∀ (d i : Nat) (acc : Int), i + d = L.length → 0 ≤ acc ∧ acc ≤ (i : Int) →
    Ev (fun k => impl_CountUnit.l0 k m acc L (L.length : Int) (i : Int)) (acc + uc m (L.drop i), true) := by
  intro d
  induction d with
  | zero =>
    intro i acc hi ha
    refine Ev.step (f := fun _ => some (acc, true)) (fun k => ?_) (Ev.const ?_)
    · rw [impl_CountUnit.l0, if_neg (by omega)]
    · rw [List.drop_eq_nil_of_le (by omega), uc, Int.add_zero]
  | succ d ih =>
    intro i acc hi ha
    have h1 : i < L.length := by omega
    rw [List.drop_eq_getElem_cons h1, uc]
    refine Ev.step (f := ?f1) (fun k => ?h1) ?g1
    case h1 => rw [impl_CountUnit.l0, if_pos (by omega), if_pos (by omega), if_pos (by omega), rd2_nat L i h1, wrap_succ i (by omega), wrap64_in (acc + 1) (by omega) (by omega)]
    refine Ev.bind (isUnit_ev (hp _ (List.getElem_mem h1)) m hm) ?_
    by_cases hu : unit L[i] m = true
    · rw [if_pos hu, ← Int.add_assoc]
      exact Ev.pos hu (ih (i + 1) (acc + 1) (by omega) (by omega))
    · rw [if_neg hu, Int.zero_add]
      exact Ev.neg hu (ih (i + 1) acc (by omega) (by omega))
def res (n m : Int) : Int × Bool := if (0 ≤ n ∧ n ≤ 5) ∧ 0 ≤ m ∧ m ≤ 8 then (uc m (enum n.toNat n.toNat []), true) else (0, false)
theorem spec_ev (n m : Int) : Ev (fun k => spec_CountUnit.f k n m) (res n m) := by
  unfold spec_CountUnit.f res
  refine Ev.bindc (l1In_eq n 0 5) ?_
  by_cases h1 : 0 ≤ n ∧ n ≤ 5
  · rw [decide_eq_true h1]
    refine Ev.pos rfl (Ev.bindc (a := decide (0 ≤ m ∧ m ≤ 8)) (by unfold spec_cnCars.f; rw [l1In_eq]; rfl) ?_)
    by_cases h2 : 0 ≤ m ∧ m ≤ 8
    · obtain ⟨a, rfl⟩ := Int.eq_ofNat_of_zero_le h1.1
      rw [decide_eq_true h2, if_pos ⟨h1, h2⟩, Int.toNat_natCast]
      have hle := enum_le a (by omega) a [] (by simp) (fun x hx => by cases hx)
      refine Ev.step (f := ?f1) (fun k => ?h1) ?g1
      case h1 => rw [spec_CountUnit.j0, if_neg (by decide)]
      refine Ev.bind (cnAll_ev a (by omega) a [] (by simp) (fun x hx => by cases hx)) ?_
      have h := spec_l0 m (enum a a []) (by omega) (enum_mem a a []) (enum a a []).length 0 0 (by omega) (by omega)
      rwa [List.drop_zero, Int.zero_add] at h
    · rw [decide_eq_false h2, if_neg (fun h => h2 h.2)]
      refine Ev.step (f := fun _ => some (0, false)) (fun k => ?_) (Ev.now _)
      rw [spec_CountUnit.j0, if_pos (by decide)]
  · rw [decide_eq_false h1, if_neg (fun h => h1 h.1)]
    refine Ev.neg (by decide) (Ev.step (f := fun _ => some (0, false)) (fun k => ?_) (Ev.now _))
    rw [spec_CountUnit.j0, if_pos rfl]
theorem impl_ev (n m : Int) : Ev (fun k => impl_CountUnit.f k n m) (res n m) := by
  unfold impl_CountUnit.f res
  refine Ev.bindc (between_eq n 0 5) ?_
  by_cases h1 : 0 ≤ n ∧ n ≤ 5
  · rw [decide_eq_true h1]
    refine Ev.pos rfl (Ev.bindc (a := decide (0 ≤ m ∧ m ≤ 8)) (by unfold impl_isCars.f; rw [between_eq]; rfl) ?_)
    by_cases h2 : 0 ≤ m ∧ m ≤ 8
    · obtain ⟨a, rfl⟩ := Int.eq_ofNat_of_zero_le h1.1
      rw [decide_eq_true h2, if_pos ⟨h1, h2⟩, Int.toNat_natCast]
      have hle := enum_le a (by omega) a [] (by simp) (fun x hx => by cases hx)
      refine Ev.step (f := ?f1) (fun k => ?h1) ?g1
      case h1 => rw [impl_CountUnit.j0, if_neg (by decide)]
      refine Ev.bind (allParking_ev a (by omega)) ?_
      have h := impl_l0 m h2.1 (enum a a []) (by omega) (enum_mem a a []) (enum a a []).length 0 0 (by omega) (by omega)
      rwa [List.drop_zero, Int.zero_add] at h
    · rw [decide_eq_false h2, if_neg (fun h => h2 h.2)]
      refine Ev.step (f := fun _ => some (0, false)) (fun k => ?_) (Ev.now _)
      rw [impl_CountUnit.j0, if_pos (by decide)]
  · rw [decide_eq_false h1, if_neg (fun h => h1 h.1)]
    refine Ev.neg (by decide) (Ev.step (f := fun _ => some (0, false)) (fun k => ?_) (Ev.now _))
    rw [impl_CountUnit.j0, if_pos rfl]
end CountUnit
end Go.Proofs.YtleemfmhilhklaaGreat.Pure
