/- The pure statement of the law FnExactIsDesk: the program's IsDesk and the reference's one answer alike at every desk; no condition beside the row's own. -/
import Derived.Test.YtcmpeimpddngbaaPAllx1
import Derived.Test.YtcmpeimpddngbaaPAllx2
import Derived.Test.YtcmpeimpddngbaaPAllx3
import Derived.Test.YtcmpeimpddngbaaBaseP
import Derived.Test.YtcmpeimpddngbaaBaseH
namespace Go.Proofs.Ytcmpeimpddngbaa.Pure
open Go.RowKit Go.Proofs.YtcmpeimpddngbaaW.PrintWords Go.Proofs.YtcmpeimpddngbaaW.PrintLast Go.Proofs.Ytcmpeimpddngbaa.Hand Go.Proofs.Ytcmpeimpddngbaa.PAll Go.Proofs.Ytcmpeimpddngbaa.Plain
set_option linter.unusedVariables false
namespace IsDesk
/-! Where a number stands -/
theorem index_l0 (l : List Int) (x : Int) (hs : l.length ≤ 1099511627776) : ∀ (d n : Nat), n + d = l.length →
    ∃ r : Int, (decide (r ≥ 0) = decide (x ∈ l.drop n)) ∧ Ev (fun k => slices_Index_int_int.l0 k l x (l.length : Int) (n : Int)) r := by
  intro d
  induction d with
  | zero =>
    intro n hn
    refine ⟨-1, ?_, Ev.step (f := fun _ => some (-1)) (fun k => ?_) (Ev.now _)⟩
    · rw [List.drop_eq_nil_of_le (by omega)]
      simp
    · rw [slices_Index_int_int.l0, if_neg (by omega)]
  | succ d ih =>
    intro n hn
    have h1 : n < l.length := by omega
    rw [List.drop_eq_getElem_cons h1]
    by_cases hx : x = l[n]
    · refine ⟨(n : Int), ?_, Ev.step (f := fun _ => some (n : Int)) (fun k => ?_) (Ev.now _)⟩
      · rw [decide_eq_true (by omega), decide_eq_true (by rw [hx]; exact List.mem_cons_self)]
      · rw [slices_Index_int_int.l0, if_pos (by omega), if_pos (by omega), if_pos (by omega), rd_nat l n h1, if_pos hx]
    · obtain ⟨r, hr, he⟩ := ih (n + 1) (by omega)
      refine ⟨r, ?_, Ev.step (f := fun k => slices_Index_int_int.l0 k l x (l.length : Int) ((n + 1 : Nat) : Int)) (fun k => ?_) he⟩
      · rw [hr, mem_skip _ (fun e => hx e.symm)]
      · rw [slices_Index_int_int.l0, if_pos (by omega), if_pos (by omega), if_pos (by omega), rd_nat l n h1, if_neg hx, wrap_succ n (by omega)]
theorem contains_ev (l : List Int) (x : Int) (hs : l.length ≤ 1099511627776) : Ev (fun k => slices_Contains_int_int.f k l x) (decide (x ∈ l)) := by
  obtain ⟨r, hr, he⟩ := index_l0 l x hs l.length 0 (by omega)
  rw [List.drop_zero] at hr
  unfold slices_Contains_int_int.f slices_Index_int_int.f
  rw [← hr]
  exact Ev.bind he (Ev.now _)
/-! Costs and cells -/
theorem tmod_nat (a b : Nat) : Int.tmod (a : Int) (b : Int) = ((a % b : Nat) : Int) := (Int.ofNat_tmod a b).symm
theorem pos_eq {N i K c m : Nat} (hi : i < N) (hc : c = (i + N - K % N) % N) (hm : m < c) : (i + N - (c - m)) % N = (K + m) % N := by
  have hh : K % N < N := Nat.mod_lt _ (by omega)
  rw [← Nat.mod_add_mod K N m]
  generalize K % N = h at hh hc ⊢
  by_cases hle : h ≤ i
  · have e : c = i - h := by rw [hc, show i + N - h = (i - h) + N by omega, Nat.add_mod_right, Nat.mod_eq_of_lt (by omega)]
    rw [show i + N - (c - m) = (h + m) + N by omega, Nat.add_mod_right]
  · have e : c = i + N - h := by rw [hc, Nat.mod_eq_of_lt (by omega)]
    rw [show i + N - (c - m) = h + m by omega]
def cost (N i K : Nat) : Nat := (i + N - K % N) % N
theorem cost_lt {N i K : Nat} (hN : 0 < N) : cost N i K < N := Nat.mod_lt _ hN
theorem cost_eq {N i K : Nat} (hN : 0 < N) (h12 : N ≤ 12) (hi : i < N) : Int.tmod (wrap64 ((wrap64 ((i : Int) - (Int.tmod (K : Int) (N : Int)))) + (N : Int))) (N : Int) = (cost N i K : Int) := by
  have hh : K % N < N := Nat.mod_lt _ hN
  rw [tmod_nat, wrap64_in ((i : Int) - ((K % N : Nat) : Int)) (by omega) (by omega), wrap64_in _ (by omega) (by omega)]
  rw [show (i : Int) - ((K % N : Nat) : Int) + (N : Int) = ((i + N - K % N : Nat) : Int) by omega, tmod_nat]
  rfl
def inner (l : List Int) (K : Nat) : Nat → Nat → Bool
  | 0, _ => true
  | d + 1, m => if rd l (((K + m) % l.length : Nat) : Int) = -1 then false else inner l K d (m + 1)
def outer (l : List Int) : Nat → Nat → Bool
  | 0, _ => true
  | d + 1, i => if rd l (i : Int) = -1 then outer l d (i + 1) else if rd l (i : Int) ∈ l.take i then false else if inner l (rd l (i : Int)).toNat (cost l.length i (rd l (i : Int)).toNat) 0 = true then outer l d (i + 1) else false
structure Fit (l : List Int) : Prop where
  two : 2 ≤ l.length
  len : l.length ≤ 12
  inn : ∀ n : Nat, n < l.length → -1 ≤ rd l (n : Int) ∧ rd l (n : Int) ≤ 999
theorem spec_l1 {l : List Int} (hf : Fit l) (i : Nat) (hi : i < l.length) (K : Nat) (r : Bool) (hg : Ev (fun k => spec_prGood.l0 k (l.length : Int) l (l.length : Int) ((i + 1 : Nat) : Int) l) r) : ∀ (d m : Nat), m + d = cost l.length i K →
    Ev (fun k => spec_prGood.l1 k (l.length : Int) (i : Int) (d : Int) l (l.length : Int) (i : Int) l) (if inner l K d m = true then r else false) := by
  have h2 := hf.two
  have h12 := hf.len
  have hcl := cost_lt (i := i) (K := K) (show 0 < l.length by omega)
  intro d
  induction d with
  | zero =>
    intro m hm
    rw [inner, if_pos rfl]
    refine Ev.step (fun k => ?_) hg
    rw [spec_prGood.l1, if_neg (by omega), wrap_succ i (by omega)]
  | succ d ih =>
    intro m hm
    have hp : (i + l.length - (cost l.length i K - m)) % l.length = (K + m) % l.length := pos_eq hi rfl (by omega)
    have hq : (K + m) % l.length < l.length := Nat.mod_lt _ (by omega)
    have e : Int.tmod (wrap64 ((wrap64 ((i : Int) - ((d + 1 : Nat) : Int))) + (l.length : Int))) (l.length : Int) = (((K + m) % l.length : Nat) : Int) := by
      rw [wrap64_in ((i : Int) - ((d + 1 : Nat) : Int)) (by omega) (by omega), wrap64_in _ (by omega) (by omega), ← hp, show (i : Int) - ((d + 1 : Nat) : Int) + (l.length : Int) = ((i + l.length - (cost l.length i K - m) : Nat) : Int) by omega, tmod_nat]
    have e2 : wrap64 (((d + 1 : Nat) : Int) - 1) = (d : Int) := by rw [wrap64_in _ (by omega) (by omega)]; omega
    rw [inner]
    by_cases hc : rd l (((K + m) % l.length : Nat) : Int) = -1
    · rw [if_pos hc, if_neg (by decide)]
      refine Ev.step (f := fun _ => some false) (fun k => ?_) (Ev.now _)
      rw [spec_prGood.l1, e, if_pos (by omega), if_neg (by omega), if_pos (by omega), if_pos (by omega), if_pos hc]
    · rw [if_neg hc]
      refine Ev.step (fun k => ?_) (ih (m + 1) (by omega))
      rw [spec_prGood.l1, e, e2, if_pos (by omega), if_neg (by omega), if_pos (by omega), if_pos (by omega), if_neg hc]
theorem impl_l1 {l : List Int} (hf : Fit l) (i : Nat) (hi : i < l.length) (K : Nat) (hK : K ≤ 999) (r : Bool) (hg : Ev (fun k => impl_isTable.l0 k l (l.length : Int) ((i + 1 : Nat) : Int) l) r) : ∀ (d m : Nat), m + d = cost l.length i K →
    Ev (fun k => impl_isTable.l1 k (K : Int) l (l.length : Int) (i : Int) (cost l.length i K : Int) (m : Int) l) (if inner l K d m = true then r else false) := by
  have h2 := hf.two
  have h12 := hf.len
  have hcl := cost_lt (i := i) (K := K) (show 0 < l.length by omega)
  intro d
  induction d with
  | zero =>
    intro m hm
    rw [inner, if_pos rfl]
    refine Ev.step (fun k => ?_) hg
    rw [impl_isTable.l1, if_neg (by omega), wrap_succ i (by omega)]
  | succ d ih =>
    intro m hm
    have hq : (K + m) % l.length < l.length := Nat.mod_lt _ (by omega)
    have hin := hf.inn _ hq
    have e : Int.tmod (wrap64 ((K : Int) + (m : Int))) (l.length : Int) = (((K + m) % l.length : Nat) : Int) := by
      rw [wrap64_in _ (by omega) (by omega), show (K : Int) + (m : Int) = ((K + m : Nat) : Int) by omega, tmod_nat]
    rw [inner]
    by_cases hc : rd l (((K + m) % l.length : Nat) : Int) = -1
    · rw [if_pos hc, if_neg (by decide)]
      refine Ev.step (f := fun _ => some false) (fun k => ?_) (Ev.now _)
      rw [impl_isTable.l1, e, if_pos (by omega), if_neg (by omega), if_pos (by omega), if_pos (by omega), if_pos (by omega)]
    · rw [if_neg hc]
      refine Ev.step (fun k => ?_) (ih (m + 1) (by omega))
      rw [impl_isTable.l1, e, if_pos (by omega), if_neg (by omega), if_pos (by omega), if_pos (by omega), if_neg (by omega), wrap_succ m (by omega)]
theorem spec_l0 {l : List Int} (hf : Fit l) : ∀ (d i : Nat), i + d = l.length → Ev (fun k => spec_prGood.l0 k (l.length : Int) l (l.length : Int) (i : Int) l) (outer l d i) := by
  have h2 := hf.two
  have h12 := hf.len
  intro d
  induction d with
  | zero =>
    intro i hi
    refine Ev.step (f := fun _ => some true) (fun k => ?_) (Ev.now _)
    rw [spec_prGood.l0, if_neg (by omega)]
  | succ d ih =>
    intro i hi
    have h1 : i < l.length := by omega
    have hin := hf.inn i h1
    rw [outer]
    by_cases hc : rd l (i : Int) = -1
    · rw [if_pos hc]
      refine Ev.step (fun k => ?_) (ih (i + 1) (by omega))
      rw [spec_prGood.l0, if_pos (by omega), if_pos (by omega), if_pos (by omega), if_pos hc, wrap_succ i (by omega)]
    · rw [if_neg hc]
      obtain ⟨K, hK⟩ := Int.eq_ofNat_of_zero_le (show 0 ≤ rd l (i : Int) by omega)
      refine Ev.step (f := ?f1) (fun k => ?h1) ?g1
      case h1 => rw [spec_prGood.l0, if_pos (by omega), if_pos (by omega), if_pos (by omega), if_neg hc, if_pos (by omega), Int.toNat_natCast]
      refine Ev.bind (l1Has_ev (l.take i) (rd l (i : Int)) (by rw [List.length_take]; omega)) ?_
      by_cases hm : rd l (i : Int) ∈ l.take i
      · rw [if_pos hm, decide_eq_true hm]
        exact Ev.pos rfl (Ev.now _)
      · rw [if_neg hm, decide_eq_false hm, hK, Int.toNat_natCast]
        refine Ev.neg (by decide) (Ev.bindc (a := (cost l.length i K : Int)) ?_ (spec_l1 hf i h1 K (outer l d (i + 1)) (ih (i + 1) (by omega)) (cost l.length i K) 0 (by omega)))
        unfold spec_prCost.f
        rw [if_neg (by omega), cost_eq (by omega) h12 h1]
theorem impl_l0 {l : List Int} (hf : Fit l) : ∀ (d i : Nat), i + d = l.length → Ev (fun k => impl_isTable.l0 k l (l.length : Int) (i : Int) l) (outer l d i) := by
  have h2 := hf.two
  have h12 := hf.len
  intro d
  induction d with
  | zero =>
    intro i hi
    refine Ev.step (f := fun _ => some true) (fun k => ?_) (Ev.now _)
    rw [impl_isTable.l0, if_neg (by omega)]
  | succ d ih =>
    intro i hi
    have h1 : i < l.length := by omega
    have hin := hf.inn i h1
    rw [outer]
    by_cases hc : rd l (i : Int) = -1
    · rw [if_pos hc]
      refine Ev.step (fun k => ?_) (ih (i + 1) (by omega))
      rw [impl_isTable.l0, if_pos (by omega), if_pos (by omega), if_pos (by omega), if_pos (by omega), wrap_succ i (by omega)]
    · rw [if_neg hc]
      obtain ⟨K, hK⟩ := Int.eq_ofNat_of_zero_le (show 0 ≤ rd l (i : Int) by omega)
      refine Ev.step (f := ?f1) (fun k => ?h1) ?g1
      case h1 => rw [impl_isTable.l0, if_pos (by omega), if_pos (by omega), if_pos (by omega), if_neg (show ¬ rd l (i : Int) < 0 by omega), if_pos (by omega), Int.toNat_natCast]
      refine Ev.bind (contains_ev (l.take i) (rd l (i : Int)) (by rw [List.length_take]; omega)) ?_
      by_cases hm : rd l (i : Int) ∈ l.take i
      · rw [if_pos hm, decide_eq_true hm]
        exact Ev.pos rfl (Ev.now _)
      · rw [if_neg hm, decide_eq_false hm, hK, Int.toNat_natCast]
        refine Ev.neg (by decide) (Ev.bindc (a := (cost l.length i K : Int)) ?_ (impl_l1 hf i h1 K (by omega) (outer l d (i + 1)) (ih (i + 1) (by omega)) (cost l.length i K) 0 (by omega)))
        unfold impl_Table_cost.f
        rw [if_pos (by omega), if_pos (by omega), if_neg (by omega), hK, cost_eq (by omega) h12 h1]
def table (l : List Int) : Bool := decide (2 ≤ (l.length : Int) ∧ (l.length : Int) ≤ 12) && (l.all fun x => decide (-1 ≤ x ∧ x ≤ 999)) && decide ((-1 : Int) ∈ l) && outer l l.length 0
theorem fit {l : List Int} (h1 : 2 ≤ (l.length : Int) ∧ (l.length : Int) ≤ 12) (h2 : (l.all fun x => decide (-1 ≤ x ∧ x ≤ 999)) = true) : Fit l :=
  ⟨by omega, by omega, fun n hn => by rw [rd_nat l n hn]; exact of_decide_eq_true (List.all_eq_true.1 h2 _ (List.getElem_mem hn))⟩
theorem prGood_ev (l : List Int) (hs : l.length ≤ 1099511627776) : Ev (fun k => spec_prGood.f k l) (table l) := by
  unfold spec_prGood.f table
  refine Ev.bindc (l1In_eq _ 2 12) ?_
  by_cases h1 : 2 ≤ (l.length : Int) ∧ (l.length : Int) ≤ 12
  · rw [decide_eq_true h1, Bool.true_and]
    refine Ev.pos rfl (Ev.bind (l1All_ev l (-1) 999 hs) ?_)
    cases h2 : l.all fun x => decide (-1 ≤ x ∧ x ≤ 999) with
    | true =>
      rw [Bool.true_and]
      refine Ev.pos rfl (Ev.bind (l1Has_ev l (-1) hs) ?_)
      by_cases h3 : (-1 : Int) ∈ l
      · rw [decide_eq_true h3, Bool.true_and]
        refine Ev.step (fun k => ?_) (spec_l0 (fit h1 h2) l.length 0 (by omega))
        rw [spec_prGood.j0, if_neg (by decide)]
        rfl
      · rw [decide_eq_false h3, Bool.false_and]
        refine Ev.step (f := fun _ => some false) (fun k => ?_) (Ev.now _)
        rw [spec_prGood.j0, if_pos (by decide)]
    | false =>
      rw [Bool.false_and, Bool.false_and]
      refine Ev.neg (by decide) (Ev.step (f := fun _ => some false) (fun k => ?_) (Ev.now _))
      rw [spec_prGood.j0, if_pos rfl]
  · rw [decide_eq_false h1, Bool.false_and, Bool.false_and, Bool.false_and]
    refine Ev.neg (by decide) (Ev.step (f := fun _ => some false) (fun k => ?_) (Ev.now _))
    rw [spec_prGood.j0, if_pos rfl]
theorem areBetween_eq (l : List Int) (lo hi : Int) : impl_areBetween.f l lo hi = some (l.all fun x => decide (lo ≤ x ∧ x ≤ hi)) := rfl
theorem isTable_ev (l : List Int) (hs : l.length ≤ 1099511627776) : Ev (fun k => impl_isTable.f k l) (table l) := by
  unfold impl_isTable.f table
  refine Ev.bindc (a := decide (2 ≤ (l.length : Int) ∧ (l.length : Int) ≤ 12)) (by unfold impl_isSize.f; rw [between_eq]; rfl) ?_
  by_cases h1 : 2 ≤ (l.length : Int) ∧ (l.length : Int) ≤ 12
  · rw [decide_eq_true h1, Bool.true_and]
    refine Ev.pos rfl (Ev.bindc (areBetween_eq l (-1) 999) ?_)
    cases h2 : l.all fun x => decide (-1 ≤ x ∧ x ≤ 999) with
    | true =>
      rw [Bool.true_and]
      refine Ev.pos rfl (Ev.bind (contains_ev l (-1) hs) ?_)
      by_cases h3 : (-1 : Int) ∈ l
      · rw [decide_eq_true h3, Bool.true_and]
        refine Ev.step (fun k => ?_) (impl_l0 (fit h1 h2) l.length 0 (by omega))
        rw [impl_isTable.j0, if_neg (by decide)]
        rfl
      · rw [decide_eq_false h3, Bool.false_and]
        refine Ev.step (f := fun _ => some false) (fun k => ?_) (Ev.now _)
        rw [impl_isTable.j0, if_pos (by decide)]
    | false =>
      rw [Bool.false_and, Bool.false_and]
      refine Ev.neg (by decide) (Ev.step (f := fun _ => some false) (fun k => ?_) (Ev.now _))
      rw [impl_isTable.j0, if_pos rfl]
  · rw [decide_eq_false h1, Bool.false_and, Bool.false_and, Bool.false_and]
    refine Ev.neg (by decide) (Ev.step (f := fun _ => some false) (fun k => ?_) (Ev.now _))
    rw [impl_isTable.j0, if_pos rfl]
def desk (l t : List Int) : Bool := parking l && table t
theorem spec_ev (l t : List Int) (hs : t.length ≤ 1099511627776) : Ev (fun k => spec_IsDesk.f k l t) (desk l t) := by
  unfold spec_IsDesk.f spec_coGood.f desk
  refine Ev.bind (a := parking l && table t) ?_ (Ev.now _)
  refine Ev.bind (paParking_ev l) ?_
  cases h : parking l with
  | true => rw [Bool.true_and]; exact Ev.pos rfl (Ev.bind (prGood_ev t hs) (Ev.now _))
  | false => rw [Bool.false_and]; exact Ev.neg (by decide) (Ev.now _)
theorem impl_ev (l t : List Int) (hs : t.length ≤ 1099511627776) : Ev (fun k => impl_IsDesk.f k l t) (desk l t) := by
  unfold impl_IsDesk.f desk
  refine Ev.bind (isParking_ev l) ?_
  cases h : parking l with
  | true => rw [Bool.true_and]; exact Ev.pos rfl (Ev.bind (isTable_ev t hs) (Ev.now _))
  | false => rw [Bool.false_and]; exact Ev.neg (by decide) (Ev.now _)
/-! The desk, copied and compared -/
theorem toDesk_ev (l t : List Int) (h1 : l.length ≤ 1099511627776) (h2 : t.length ≤ 1099511627776) : Ev (fun k => laws_toDesk.f k l t) (l, t) := by
  unfold laws_toDesk.f laws_toTable.f
  exact Ev.bind (toIntS_ev l h1) (Ev.bind (Ev.bind (toIntS_ev t h2) (Ev.now _)) (Ev.now _))
theorem eqDesk_same (l t : List Int) (h1 : l.length ≤ 1099511627776) (h2 : t.length ≤ 1099511627776) : Ev (fun k => laws_eqDesk.f k l t l t) true := by
  unfold laws_eqDesk.f laws_eqTable.f
  exact Ev.bind (eqIntS_same l h1) (Ev.pos rfl (Ev.bind (Ev.bind (eqIntS_same t h2) (Ev.pos rfl (Ev.now _))) (Ev.pos rfl (Ev.now _))))
theorem szDesk_eq (o f : List Int) (h1 : o.length ≤ maxLen) (h2 : f.length ≤ maxLen) : ∃ r, laws_szDesk.f o f 1048576 = some r ∧ (0 ≤ r → o.length + f.length ≤ 1048576) := by
  unfold maxLen at h1 h2
  unfold laws_szDesk.f laws_szTable.f laws_szIntS.f
  rw [wrap64_in _ (by omega) (by omega)]
  by_cases a : (1048576 : Int) - (o.length : Int) < 0
  · rw [if_pos a, Option.bind_some, if_pos (by decide)]
    exact ⟨_, rfl, fun h => by omega⟩
  · rw [if_neg a, Option.bind_some, if_neg a, wrap64_in _ (by omega) (by omega)]
    by_cases b : (1048576 : Int) - (o.length : Int) - (f.length : Int) < 0
    · rw [if_pos b, Option.bind_some, if_pos (by decide), Option.bind_some, if_pos (by decide)]
      exact ⟨_, rfl, fun h => by omega⟩
    · rw [if_neg b, Option.bind_some, if_neg b, Option.bind_some, if_neg b]
      exact ⟨_, rfl, fun h => by omega⟩
end IsDesk
theorem FnExactIsDesk : ∀ (o f : List Int), o.length ≤ maxLen → f.length ≤ maxLen → ∃ k, laws_FnExactIsDesk.f k o f = some true := by
  intro o f hm1 hm2
  refine Ev.rounds ?_
  unfold laws_FnExactIsDesk.f
  obtain ⟨z, hz, hzl⟩ := IsDesk.szDesk_eq o f hm1 hm2
  refine Ev.bindc hz ?_
  by_cases hb : z < 0
  · exact Ev.pos hb (Ev.now _)
  have hl := hzl (by omega)
  have h1 : o.length ≤ 1099511627776 := by omega
  have h2 : f.length ≤ 1099511627776 := by omega
  refine Ev.neg hb (Ev.bind (IsDesk.toDesk_ev o f h1 h2) (Ev.bind (IsDesk.spec_ev o f h2) (Ev.bind (IsDesk.toDesk_ev o f h1 h2) (Ev.bind (IsDesk.impl_ev o f h2) ?_))))
  rw [bne_self_eq_false]
  exact Ev.neg (by decide) (Ev.bind (IsDesk.toDesk_ev o f h1 h2) (Ev.bind (IsDesk.eqDesk_same o f h1 h2) (Ev.pos rfl (Ev.now _))))
end Go.Proofs.Ytcmpeimpddngbaa.Pure
