/- The pure facts of the law FnExactAllPrime: both sides keep, of all parking functions in their order, those that are prime. No condition. (The parts on choose and on the listing were laid in by a program of gen/ out of BaseJ and of the text for CountUnit: a claim has room for 60 texts.) -/
import Derived.Test.YtcfolhafjeefaaaPAllx1
import Derived.Test.YtcfolhafjeefaaaPAllx3
import Derived.Test.YtcfolhafjeefaaaPAllx4
import Derived.Test.YtcfolhafjeefaaaPAllx5
import Derived.Test.YtcfolhafjeefaaaPAllx6
import Derived.Test.YtcfolhafjeefaaaBaseQ
import Derived.Test.YtcfolhafjeefaaaBaseI
import Derived.Test.YtcfolhafjeefaaaBaseC
namespace Go.Proofs.Ytcfolhafjeefaaa.Plain
open Go.RowKit Go.Proofs.YtcfolhafjeefaaaW.PrintWords Go.Proofs.YtcfolhafjeefaaaW.PrintLast Go.Proofs.Ytcfolhafjeefaaa.Hand Go.Proofs.Ytcfolhafjeefaaa.PAll
set_option linter.unusedVariables false
theorem choose_fin : ∀ n : Fin 7, ∀ k : Fin 7, k.1 ≤ n.1 → impl_choose.f 60 (n.1 : Int) (k.1 : Int) = some (bin n.1 k.1 : Int) := by decide +kernel
theorem choose_ev (n k : Nat) (hn : n ≤ 6) (hk : k ≤ n) : Ev (fun q => impl_choose.f q (n : Int) (k : Int)) (bin n k : Int) :=
  Ev.of (k := 60) (fun q => impl_choose.mono _ _ q) (choose_fin ⟨n, by omega⟩ ⟨k, by omega⟩ hk)
end Go.Proofs.Ytcfolhafjeefaaa.Plain
namespace Go.Proofs.Ytcfolhafjeefaaa.Pure
open Go.RowKit Go.Proofs.YtcfolhafjeefaaaW.PrintWords Go.Proofs.YtcfolhafjeefaaaW.PrintLast Go.Proofs.Ytcfolhafjeefaaa.Hand Go.Proofs.Ytcfolhafjeefaaa.PAll Go.Proofs.Ytcfolhafjeefaaa.Plain
set_option linter.unusedVariables false
namespace CountUnit
theorem own_eq (l : List Int) (hs : l.length ≤ 1099511627776) : spec_l1Own.f l = some l := by
  unfold spec_l1Own.f
  simp only [Option.bind_some, List.nil_append]
  rw [if_pos (by simp; omega)]
theorem clone_eq (l : List Int) (hs : l.length ≤ 1099511627776) : slices_Clone_int_int.f l = some l := by
  unfold slices_Clone_int_int.f
  rw [if_pos (by omega)]
/-! the program's table -/
theorem completions_l2 (n : Nat) (l : List Int) (left : Nat) (hleft : left ≤ 6) (own w : Int) (hf : 0 ≤ own ∧ own ≤ 1000) (v : Nat) (kk : Nat) (hk : kk ≤ left) (wl : List Int) (r : Int) : ∀ (d m : Nat) (nxt : List Int), m + d = left - kk + 1 → nxt.length = left + 1 →
    Ev (fun k => impl_completions.l1 k l (left : Int) own (inn left own ((v : Int) + 1) w kk d m nxt) (n : Int) (v : Int) wl (wl.length : Int) ((kk + 1 : Nat) : Int) (v : Int)) r →
    Ev (fun k => impl_completions.l2 k l (left : Int) own nxt (kk : Int) w (m : Int) (n : Int) (v : Int) wl (wl.length : Int) (kk : Int) (v : Int)) r := by
  intro d
  induction d with
  | zero =>
    intro m nxt hm hn hg
    refine Ev.step (fun k => ?_) hg
    rw [impl_completions.l2, wrap64_in ((kk : Int) + (m : Int)) (by omega) (by omega), if_neg (by omega), wrap_succ kk (by omega)]
    rfl
  | succ d ih =>
    intro m nxt hm hn hg
    have e1 : wrap64 ((kk : Int) + (m : Int)) = ((kk + m : Nat) : Int) := by rw [wrap64_in _ (by omega) (by omega)]; omega
    have e2 : wrap64 ((wrap64 (own + (kk : Int))) + (m : Int)) = own + (kk : Int) + (m : Int) := by rw [wrap64_in (own + (kk : Int)) (by omega) (by omega), wrap64_in _ (by omega) (by omega)]
    have e3 : wrap64 ((left : Int) - (kk : Int)) = ((left - kk : Nat) : Int) := by rw [wrap64_in _ (by omega) (by omega)]; omega
    rw [inn] at hg
    by_cases hc : own + (kk : Int) + (m : Int) ≥ (v : Int) + 1
    · rw [if_pos hc] at hg
      refine Ev.step (f := ?f1) (fun k => ?h1) ?g1
      case h1 => rw [impl_completions.l2, e1, e2, e3, if_pos (by omega), if_pos (by omega), if_pos (by omega), if_pos (by omega), Int.toNat_natCast, wrap_succ m (by omega)]
      exact Ev.bind (choose_ev (left - kk) m (by omega) (by omega)) (ih (m + 1) _ (by omega) (by simpa using hn) hg)
    · rw [if_neg hc] at hg
      refine Ev.step (fun k => ?_) (ih (m + 1) _ (by omega) hn hg)
      rw [impl_completions.l2, e1, e2, if_pos (by omega), if_neg (by omega), wrap_succ m (by omega)]
theorem completions_l1 (n : Nat) (l : List Int) (left : Nat) (hleft : left ≤ 6) (own : Int) (hf : 0 ≤ own ∧ own ≤ 1000) (v : Nat) (hv1 : (v : Int) < 1000) (wl : List Int) (hw : wl.length = left + 1) (r : Int) : ∀ (d kk : Nat) (nxt : List Int), kk + d = left + 1 → nxt.length = left + 1 →
    Ev (fun k => impl_completions.l0 k l (left : Int) (outr left own ((v : Int) + 1) wl d kk nxt) (n : Int) ((v + 1 : Nat) : Int)) r →
    Ev (fun k => impl_completions.l1 k l (left : Int) own nxt (n : Int) (v : Int) wl (wl.length : Int) (kk : Int) (v : Int)) r := by
  intro d
  induction d with
  | zero =>
    intro kk nxt hm hn hg
    refine Ev.step (fun k => ?_) hg
    rw [impl_completions.l1, if_neg (by omega), wrap_succ v (by omega)]
    rfl
  | succ d ih =>
    intro kk nxt hm hn hg
    rw [outr] at hg
    refine Ev.step (f := ?f1) (fun k => ?h1) ?g1
    case h1 => rw [impl_completions.l1, if_pos (by omega), if_pos (by omega), if_pos (by omega)]
    exact completions_l2 n l left hleft own (rd wl (kk : Int)) hf v kk (by omega) wl r (left - kk + 1) 0 nxt (by omega) hn (ih (kk + 1) _ (by omega) (by rw [inn_length]; exact hn) hg)
theorem completions_l0 (n : Nat) (hn : n ≤ 6) (l : List Int) (left : Nat) (hleft : left ≤ 6) (hl : l.length ≤ 6) : ∀ (d v : Nat) (wl : List Int), v + d = n → wl.length = left + 1 →
    Ev (fun k => impl_completions.l0 k l (left : Int) wl (n : Int) (v : Int)) (rd (dp left (fun v => upTo l (v : Int)) (fun v => (v : Int) + 1) d v wl) (left : Int)) := by
  intro d
  induction d with
  | zero =>
    intro v wl hd hw
    refine Ev.step (f := fun _ => some (rd wl (left : Int))) (fun k => ?_) (Ev.now _)
    rw [impl_completions.l0, if_neg (by omega), if_pos (by omega), if_pos (by omega)]
  | succ d ih =>
    intro v wl hd hw
    have hu := upTo_in l (v : Int)
    have e2 : wrap64 ((left : Int) + 1) = ((left + 1 : Nat) : Int) := wrap_succ left (by omega)
    rw [dp]
    refine Ev.step (f := ?f1) (fun k => ?h1) ?g1
    case h1 => rw [impl_completions.l0, if_pos (by omega), countIf_compl.f, Option.bind_some, e2, if_pos (by omega), if_pos (by omega), Int.toNat_natCast]
    exact completions_l1 n l left hleft (upTo l (v : Int)) (by omega) v (by omega) wl hw _ (left + 1) 0 (List.replicate (left + 1) 0) (by omega) (by simp) (ih (v + 1) _ (by omega) (by rw [outr_length]; simp))
theorem completions_ev (l : List Int) (n : Nat) (hn : n ≤ 6) (hl : l.length ≤ n) : Ev (fun k => impl_completions.f k l (n : Int)) (pways l n) := by
  obtain ⟨left, hleft⟩ : ∃ left : Nat, left = n - l.length := ⟨_, rfl⟩
  have e1 : wrap64 ((n : Int) - (l.length : Int)) = (left : Int) := by rw [wrap64_in _ (by omega) (by omega)]; omega
  have e2 : wrap64 ((left : Int) + 1) = ((left + 1 : Nat) : Int) := wrap_succ left (by omega)
  unfold impl_completions.f
  rw [e1, e2]
  refine Ev.pos (by omega) (Ev.pos (by omega) (Ev.bindc rfl (Ev.pos (by simp) ?_)))
  have h0 := completions_l0 n hn l left (by omega) (by omega) n 0 (1 :: List.replicate left 0) (by omega) (by simp)
  unfold pways
  rw [← hleft]
  exact h0
/-! the list with a rank -/
theorem at_next {n : Nat} (hn : n ≤ 5) {d : Nat} (p : List Int) (hp : p.length + (d + 1) = n) (hl : LowN p n) (s : List Int)
    (go : ∀ (x r : Nat), x < n → (enum n d (p ++ [(x : Int)]))[r]? = some s → Ev (fun k => impl_parkingAt.l0 k (n : Int) (r : Int) (p ++ [(x : Int)])) s) :
    ∀ (e x r : Nat), x + e = n → r ≤ 1000000 → (catF (fun x => enum n d (p ++ [(x : Int)])) x e)[r]? = some s → Ev (fun k => impl_parkingAt.l1 k (n : Int) (r : Int) p (x : Int)) s := by
  intro e
  induction e with
  | zero => intro x r hx hr h; simp [catF] at h
  | succ e ih =>
    intro x r hx hr h
    have hc := completions_ev (p ++ [(x : Int)]) n (by omega) (by simp; omega)
    have hw := pways_eq n hn (p ++ [(x : Int)]) d (by simp; omega) (hl.snoc (by omega))
    rw [catF] at h
    refine Ev.step (f := ?f1) (fun k => ?h1) ?g1
    case h1 => rw [impl_parkingAt.l1, clone_eq p (by omega), Option.bind_some, if_pos (by omega)]
    refine Ev.bind hc ?_
    by_cases hlt : r < (enum n d (p ++ [(x : Int)])).length
    · rw [List.getElem?_append_left hlt] at h
      exact Ev.pos (by omega) (Ev.pos (by omega) (go x r (by omega) h))
    · rw [List.getElem?_append_right (by omega)] at h
      refine Ev.neg (by omega) ?_
      rw [wrap_succ x (by omega), wrap64_in _ (by omega) (by omega), hw, show (r : Int) - ((enum n d (p ++ [(x : Int)])).length : Int) = ((r - (enum n d (p ++ [(x : Int)])).length : Nat) : Int) by omega]
      exact ih (x + 1) _ (by omega) (by omega) h
theorem at_ev {n : Nat} (hn : n ≤ 5) (s : List Int) : ∀ (d : Nat) (p : List Int) (r : Nat), p.length + d = n → LowN p n → (enum n d p)[r]? = some s → Ev (fun k => impl_parkingAt.l0 k (n : Int) (r : Int) p) s := by
  intro d
  induction d with
  | zero =>
    intro p r hp hl h
    rw [enum] at h
    split at h
    · have e : s = p := by
        cases r with
        | zero => simpa using h.symm
        | succ r => simp at h
      subst e
      refine Ev.step (f := fun _ => some s) (fun k => ?_) (Ev.now _)
      rw [impl_parkingAt.l0, if_neg (by omega)]
    · simp at h
  | succ d ih =>
    intro p r hp hl h
    have hlt : r < (enum n (d + 1) p).length := (List.getElem?_eq_some_iff.1 h).1
    have hle := enum_le n hn (d + 1) p hp hl
    rw [enum] at h
    have h2 := at_next hn p hp hl s (fun x r hx hr => ih (p ++ [(x : Int)]) r (by simp; omega) (hl.snoc hx) hr) n 0 r (by omega) (by omega) h
    refine Ev.step (fun k => ?_) h2
    rw [impl_parkingAt.l0, if_pos (by omega)]
    rfl
theorem count_fin : ∀ n : Fin 6, impl_countParking.f 60 (n.1 : Int) = some (DD (ownN []) needN n.1 n.1 n.1 : Int) := by decide +kernel
theorem count_ev (n : Nat) (hn : n ≤ 5) : Ev (fun k => impl_countParking.f k (n : Int)) ((enum n n []).length : Int) := by
  rw [enum_length n (by omega) n [] (by simp) (fun x hx => by cases hx)]
  exact Ev.of (k := 60) (fun k => impl_countParking.mono _ k) (count_fin ⟨n, by omega⟩)
theorem allParking_ev (n : Nat) (hn : n ≤ 5) : Ev (fun k => impl_allParking.f k (n : Int)) (enum n n []) := by
  have hle := enum_le n hn n [] (by simp) (fun x hx => by cases hx)
  have loop : ∀ (d i : Nat), i + d = (enum n n []).length → Ev (fun k => impl_allParking.l0 k (n : Int) ((enum n n []).take i) ((enum n n []).length : Int) (i : Int)) (enum n n []) := by
    intro d
    induction d with
    | zero =>
      intro i hi
      refine Ev.step (f := fun _ => some (enum n n [])) (fun k => ?_) (Ev.now _)
      rw [impl_allParking.l0, if_neg (by omega), List.take_of_length_le (by omega)]
    | succ d ih =>
      intro i hi
      have h1 : i < (enum n n []).length := by omega
      have h2 := at_ev hn (enum n n [])[i] n [] i (by simp) (fun x hx => by cases hx) (List.getElem?_eq_getElem h1)
      have h3 := ih (i + 1) (by omega)
      rw [List.take_succ_eq_append_getElem h1] at h3
      refine Ev.step (f := ?f1) (fun k => ?h1) ?g1
      case h1 => rw [impl_allParking.l0, if_pos (by omega), wrap_succ i (by omega)]
      refine Ev.bind (a := (enum n n [])[i]) ?_ (Ev.pos (by simp; omega) h3)
      unfold impl_parkingAt.f
      exact h2
  unfold impl_allParking.f
  refine Ev.bind (count_ev n hn) ?_
  have h := loop (enum n n []).length 0 (by omega)
  rwa [List.take_zero] at h
/-! the reference's lists -/
theorem cnAll_ev (n : Nat) (hn : n ≤ 5) : ∀ (d : Nat) (p : List Int), p.length + d = n → LowN p n → Ev (fun k => spec_cnAll.f k p (n : Int)) (enum n d p) := by
  intro d
  induction d with
  | zero =>
    intro p hp hl
    rw [enum]
    refine Ev.step (f := ?f1) (fun k => ?h1) ?g1
    case h1 => rw [spec_cnAll.f, if_pos (by omega)]
    refine Ev.bind (paParking_ev p) ?_
    cases h : parking p with
    | false => exact Ev.const rfl
    | true =>
      refine Ev.const ?_
      simp only [if_true, own_eq p (show p.length ≤ 1099511627776 by omega)]
      rfl
  | succ d ih =>
    intro p hp hl
    rw [enum]
    have loop : ∀ (e x : Nat) (acc : List (List Int)), x + e = n → acc.length ≤ 7776 * x → Ev (fun k => spec_cnAll.l0 k p (n : Int) acc (x : Int)) (acc ++ catF (fun x => enum n d (p ++ [(x : Int)])) x e) := by
      intro e
      induction e with
      | zero =>
        intro x acc hx ha
        refine Ev.step (f := fun _ => some acc) (fun k => ?_) (Ev.const (by rw [catF, List.append_nil]))
        rw [spec_cnAll.l0, if_neg (by omega)]
      | succ e ihe =>
        intro x acc hx ha
        have h1 := ih (p ++ [(x : Int)]) (by simp; omega) (hl.snoc (by omega))
        have hle := enum_le n hn d (p ++ [(x : Int)]) (by simp; omega) (hl.snoc (by omega))
        rw [catF, ← List.append_assoc]
        refine Ev.step (f := ?f2) (fun k => ?h2) ?g2
        case h2 => rw [spec_cnAll.l0, if_pos (by omega), own_eq p (by omega), Option.bind_some, if_pos (by omega), wrap_succ x (by omega)]
        exact Ev.bind h1 (Ev.pos (by omega) (ihe (x + 1) _ (by omega) (by rw [List.length_append]; omega)))
    refine Ev.step (fun k => ?_) (loop n 0 [] (by omega) (by simp))
    rw [spec_cnAll.f, if_neg (by omega)]
    rfl
/-! counting the unit ones -/
theorem rd2_nat (L : List (List Int)) (i : Nat) (h : i < L.length) : rd_L3 L (i : Int) = L[i] := by
  unfold rd_L3
  rw [Int.toNat_natCast, List.getD_eq_getElem?_getD, List.getElem?_eq_getElem h]
  rfl
end CountUnit
namespace AllPrime
open CountUnit
def prime (l : List Int) : Bool := decide (0 < l.length) && ((cutsL l).length : Int) == 0
theorem vaPrime_ev (l : List Int) (hs : l.length ≤ 1099511627776) : Ev (fun k => spec_vaPrime.f k l) (prime l) := by
  unfold spec_vaPrime.f prime
  by_cases h : 0 < l.length
  · rw [decide_eq_true h, Bool.true_and]
    exact Ev.pos (by omega) (Ev.bind (paCuts_ev l hs) (Ev.now _))
  · rw [decide_eq_false h, Bool.false_and]
    exact Ev.neg (by omega) (Ev.now _)
theorem isPrime_ev (l : List Int) (hs : l.length ≤ 1099511627776) : Ev (fun k => impl_isPrime.f k l) (prime l) := by
  unfold impl_isPrime.f prime
  by_cases h : 0 < l.length
  · rw [decide_eq_true h, Bool.true_and]
    exact Ev.pos (by omega) (Ev.bind (cuts_ev l hs) (Ev.now _))
  · rw [decide_eq_false h, Bool.false_and]
    exact Ev.neg (by omega) (Ev.now _)
/-- From some round on every row of a list is told. -/
theorem all_ev : ∀ L : List (List Int), (∀ l ∈ L, l.length ≤ 8) → ∃ K, ∀ k, K ≤ k → ∀ l ∈ L, impl_isPrime.f k l = some (prime l)
  | [], _ => ⟨0, fun _ _ l hl => by cases hl⟩
  | q :: qs, h => by
    obtain ⟨K1, h1⟩ := all_ev qs fun l hl => h l (List.mem_cons_of_mem _ hl)
    obtain ⟨K2, h2⟩ := isPrime_ev q (by have := h q List.mem_cons_self; omega)
    refine ⟨max K1 K2, fun k hk l hl => ?_⟩
    rcases List.mem_cons.1 hl with rfl | hl
    · exact h2 k (by omega)
    · exact h1 k (by omega) l hl
theorem spec_l0 (L : List (List Int)) (hL : L.length ≤ 1000000) (hp : ∀ q ∈ L, q.length ≤ 8) : ∀ (d i : Nat) (out : List (List Int)), i + d = L.length → out.length ≤ i →
    Ev (fun k => spec_AllPrime.l0 k out L (L.length : Int) (i : Int)) (out ++ (L.drop i).filter prime, true) := by
  intro d
  induction d with
  | zero =>
    intro i out hi ho
    refine Ev.step (f := fun _ => some (out, true)) (fun k => ?_) (Ev.const ?_)
    · rw [spec_AllPrime.l0, if_neg (by omega)]
    · rw [List.drop_eq_nil_of_le (by omega), List.filter_nil, List.append_nil]
  | succ d ih =>
    intro i out hi ho
    have h1 : i < L.length := by omega
    rw [List.drop_eq_getElem_cons h1, List.filter_cons]
    refine Ev.step (f := ?f1) (fun k => ?h1) ?g1
    case h1 => rw [spec_AllPrime.l0, if_pos (by omega), if_pos (by omega), if_pos (by omega), rd2_nat L i h1, wrap_succ i (by omega)]
    refine Ev.bind (vaPrime_ev L[i] (by have := hp _ (List.getElem_mem h1); omega)) ?_
    cases hu : prime L[i] with
    | true =>
      rw [if_pos rfl]
      refine Ev.pos rfl (Ev.pos (by omega) ?_)
      have h := ih (i + 1) (out ++ [L[i]]) (by omega) (by rw [List.length_append, List.length_singleton]; omega)
      rwa [List.append_assoc, List.singleton_append] at h
    | false =>
      rw [if_neg (by decide)]
      exact Ev.neg (by decide) (ih (i + 1) out (by omega) (by omega))
theorem pos_fin : ∀ n : Fin 6, 1 ≤ n.1 → 0 < DD (ownN []) needN n.1 n.1 n.1 := by decide +kernel
theorem both2 (n : Int) : ∃ ws ok, (ws.length ≤ 1000000 ∧ (∀ x ∈ ws, x.length ≤ 1000) ∧ Ev (fun k => spec_AllPrime.f k n) (ws, ok) ∧ Ev (fun k => impl_AllPrime.f k n) (ws, ok)) ∧ (ok = true → ∃ a : Nat, n = (a : Int) ∧ 1 ≤ a ∧ a ≤ 5 ∧ ws = (enum a a []).filter prime) := by
  by_cases h1 : 1 ≤ n ∧ n ≤ 5
  · obtain ⟨a, rfl⟩ := Int.eq_ofNat_of_zero_le (show 0 ≤ n by omega)
    have hle := enum_le a (by omega) a [] (by simp) (fun x hx => by cases hx)
    have hlen := enum_length a (by omega) a [] (by simp) (fun x hx => by cases hx)
    have hpos := pos_fin ⟨a, by omega⟩ (by show 1 ≤ a; omega)
    have h8 : ∀ q ∈ enum a a [], q.length ≤ 8 := fun q hq => parking_cars (enum_mem a a [] q hq)
    refine ⟨(enum a a []).filter prime, true, ⟨?_, fun x hx => ?_, ?_, ?_⟩, fun _ => ⟨a, rfl, by omega, by omega, rfl⟩⟩
    · have := List.length_filter_le prime (enum a a [])
      omega
    · have := h8 x (List.mem_filter.1 hx).1
      omega
    · unfold spec_AllPrime.f
      refine Ev.bindc (l1In_eq _ 1 5) ?_
      rw [decide_eq_true h1]
      refine Ev.pos rfl (Ev.bind (cnAll_ev a (by omega) a [] (by simp) (fun x hx => by cases hx)) ?_)
      have h := spec_l0 (enum a a []) (by omega) h8 (enum a a []).length 0 [] (by omega) (by simp)
      rwa [List.drop_zero, List.nil_append] at h
    · unfold impl_AllPrime.f
      refine Ev.bindc (between_eq _ 1 5) ?_
      rw [decide_eq_true h1]
      refine Ev.pos rfl (Ev.bind (allParking_ev a (by omega)) ?_)
      obtain ⟨K, hK⟩ := all_ev (enum a a []) h8
      refine ⟨K, fun k hk => ?_⟩
      have hk' := hK k hk
      show (if 0 < (enum a a []).length ∧ ∀ l ∈ enum a a [], impl_isPrime.f k l ≠ none then some ((enum a a []).filter (impl_AllPrime.pr k), true) else none) = _
      rw [if_pos ⟨by rw [hlen]; exact hpos, fun l hl => by rw [hk' l hl]; exact Option.some_ne_none _⟩]
      have e : (enum a a []).filter (impl_AllPrime.pr k) = (enum a a []).filter prime := List.filter_congr fun l hl => by unfold impl_AllPrime.pr; rw [hk' l hl]; rfl
      rw [e]
  · refine ⟨[], false, ⟨by simp, by simp, ?_, ?_⟩, fun h => by cases h⟩
    · unfold spec_AllPrime.f
      refine Ev.bindc (l1In_eq _ 1 5) ?_
      rw [decide_eq_false h1]
      exact Ev.neg (by decide) (Ev.now _)
    · unfold impl_AllPrime.f
      refine Ev.bindc (between_eq _ 1 5) ?_
      rw [decide_eq_false h1]
      exact Ev.neg (by decide) (Ev.now _)
theorem both (n : Int) : ∃ ws ok, ws.length ≤ 1000000 ∧ (∀ x ∈ ws, x.length ≤ 1000) ∧ Ev (fun k => spec_AllPrime.f k n) (ws, ok) ∧ Ev (fun k => impl_AllPrime.f k n) (ws, ok) := by
  obtain ⟨ws, ok, h, _⟩ := both2 n
  exact ⟨ws, ok, h⟩
end AllPrime
theorem FnExactAllPrime (n : Int) : ∃ ws ok, ws.length ≤ 1000000 ∧ (∀ x ∈ ws, x.length ≤ 1000) ∧ (∃ k, spec_AllPrime.f k n = some (ws, ok)) ∧ (∃ k, impl_AllPrime.f k n = some (ws, ok)) := by
  obtain ⟨ws, ok, h1, h2, h3, h4⟩ := AllPrime.both n
  exact ⟨ws, ok, h1, h2, Ev.rounds h3, Ev.rounds h4⟩
end Go.Proofs.Ytcfolhafjeefaaa.Pure
