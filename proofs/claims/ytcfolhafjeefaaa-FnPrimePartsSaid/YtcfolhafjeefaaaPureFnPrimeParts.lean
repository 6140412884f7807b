/- The pure statement of the law FnPrimeParts: whatever is drawn, the law's tests hold. No condition beside the row's own. -/
import Derived.Test.YtcfolhafjeefaaaPAllx1
import Derived.Test.YtcfolhafjeefaaaPAllx3
import Derived.Test.YtcfolhafjeefaaaPAllx4
import Derived.Test.YtcfolhafjeefaaaPAllx6
import Derived.Test.YtcfolhafjeefaaaPAllx7
import Derived.Test.YtcfolhafjeefaaaBaseDr
import Derived.Test.YtcfolhafjeefaaaBaseJo
import Derived.Test.YtcfolhafjeefaaaBaseY
import Derived.Test.YtcfolhafjeefaaaPureFnExactIsPrime
import Derived.Test.YtcfolhafjeefaaaPureFnExactAllPrime
namespace Go.Proofs.Ytcfolhafjeefaaa.Pure
open Go.RowKit Go.Proofs.YtcfolhafjeefaaaW.PrintWords Go.Proofs.YtcfolhafjeefaaaW.PrintLast Go.Proofs.Ytcfolhafjeefaaa.Hand Go.Proofs.Ytcfolhafjeefaaa.PAll Go.Proofs.Ytcfolhafjeefaaa.Plain
set_option linter.unusedVariables false
namespace PrimeLaw
open PrimeParts
/-! ### The law's helpers -/
theorem jSame_l0 (l : List Int) (hs : l.length ≤ 1000000) : ∀ (d n : Nat), n + d = l.length → Ev (fun k => laws_jSame.l0 k l l (l.length : Int) (n : Int)) true := by
  intro d
  induction d with
  | zero =>
    intro n hn
    refine Ev.step (f := fun _ => some true) (fun k => ?_) (Ev.now _)
    rw [laws_jSame.l0, if_neg (by omega)]
  | succ d ih =>
    intro n hn
    refine Ev.step (fun k => ?_) (ih (n + 1) (by omega))
    rw [laws_jSame.l0, if_pos (by omega), if_pos (by omega), if_pos (by omega), if_pos (by omega), if_pos rfl, wrap_succ n (by omega)]
theorem jSame_ev (l : List Int) (hs : l.length ≤ 1000000) : Ev (fun k => laws_jSame.f k l l) true := by
  unfold laws_jSame.f
  exact Ev.pos rfl (jSame_l0 l hs l.length 0 (by omega))
theorem rd3_nat (L : List (List Int)) (i : Nat) (h : i < L.length) : rd_L3 L (i : Int) = L[i] := by
  unfold rd_L3
  rw [Int.toNat_natCast, List.getD_eq_getElem?_getD, List.getElem?_eq_getElem h]
  rfl
theorem jRows_l0 (L : List (List Int)) (hs : L.length ≤ 1000000) (hr : ∀ x ∈ L, x.length ≤ 1000000) : ∀ (d n : Nat), n + d = L.length → Ev (fun k => laws_jRows.l0 k L L (L.length : Int) (n : Int)) true := by
  intro d
  induction d with
  | zero =>
    intro n hn
    refine Ev.step (f := fun _ => some true) (fun k => ?_) (Ev.now _)
    rw [laws_jRows.l0, if_neg (by omega)]
  | succ d ih =>
    intro n hn
    have hlt : n < L.length := by omega
    refine Ev.step (f := ?f1) (fun k => ?h1) ?g1
    case h1 => rw [laws_jRows.l0, if_pos (by omega), if_pos (by omega), if_pos (by omega), if_pos (by omega), rd3_nat L n hlt, wrap_succ n (by omega)]
    exact Ev.bind (jSame_ev _ (hr _ (List.getElem_mem hlt))) (Ev.pos rfl (ih (n + 1) (by omega)))
theorem jRows_ev (L : List (List Int)) (hs : L.length ≤ 1000000) (hr : ∀ x ∈ L, x.length ≤ 1000000) : Ev (fun k => laws_jRows.f k L L) true := by
  unfold laws_jRows.f
  exact Ev.pos rfl (jRows_l0 L hs hr L.length 0 (by omega))
theorem sm_append (l m : List Int) : sm (l ++ m) = sm l + sm m := by
  induction l with
  | nil => simp [sm]
  | cons x xs ih => rw [List.cons_append, sm, sm, ih]; omega
theorem sm_bound (c : Int) : ∀ l : List Int, (∀ x ∈ l, -c ≤ x ∧ x ≤ c) → -(c * (l.length : Int)) ≤ sm l ∧ sm l ≤ c * (l.length : Int)
  | [], _ => by simp [sm]
  | x :: xs, h => by
    have h1 := sm_bound c xs (fun y hy => h y (List.mem_cons_of_mem _ hy))
    have h2 := h x List.mem_cons_self
    rw [sm, List.length_cons, Int.natCast_add, Int.mul_add]
    simp only [Int.natCast_one, Int.mul_one]
    omega
theorem take_next (l : List Int) (n : Nat) (h : n < l.length) : l.take (n + 1) = l.take n ++ [rd l (n : Int)] := by
  rw [List.take_succ_eq_append_getElem h, rd_nat l n h]
theorem acc_in (l : List Int) (h8 : l.length ≤ 100) (hb : ∀ x ∈ l, -1000 ≤ x ∧ x ≤ 1000) (n : Nat) : -100000 ≤ sm (l.take n) ∧ sm (l.take n) ≤ 100000 := by
  have h := sm_bound 1000 (l.take n) (fun x hx => hb x (List.mem_of_mem_take hx))
  have : (l.take n).length ≤ 100 := by rw [List.length_take]; omega
  omega
theorem jSum_l0 (l : List Int) (h8 : l.length ≤ 100) (hb : ∀ x ∈ l, -1000 ≤ x ∧ x ≤ 1000) : ∀ (d n : Nat), n + d = l.length → Ev (fun k => laws_jSum.l0 k (sm (l.take n)) l (l.length : Int) (n : Int)) (sm l) := by
  intro d
  induction d with
  | zero =>
    intro n hn
    obtain rfl : n = l.length := by omega
    rw [List.take_length]
    refine Ev.step (f := fun _ => some (sm l)) (fun k => ?_) (Ev.now _)
    rw [laws_jSum.l0, if_neg (by omega)]
  | succ d ih =>
    intro n hn
    have h := ih (n + 1) (by omega)
    have hr := acc_in l h8 hb (n + 1)
    rw [take_next l n (by omega), sm_append] at h hr
    simp only [sm, Int.add_zero] at h hr
    refine Ev.step (fun k => ?_) h
    rw [laws_jSum.l0, if_pos (by omega), if_pos (by omega), if_pos (by omega), wrap_succ n (by omega), wrap64_in _ (by omega) (by omega)]
theorem jSum_ev (l : List Int) (h8 : l.length ≤ 100) (hb : ∀ x ∈ l, -1000 ≤ x ∧ x ≤ 1000) : Ev (fun k => laws_jSum.f k l) (sm l) := jSum_l0 l h8 hb l.length 0 (by omega)
theorem total_l0 (l : List Int) (h8 : l.length ≤ 100) (hb : ∀ x ∈ l, -1000 ≤ x ∧ x ≤ 1000) : ∀ (d n : Nat), n + d = l.length → Ev (fun k => impl_total.l0 k (sm (l.take n)) l (l.length : Int) (n : Int)) (sm l) := by
  intro d
  induction d with
  | zero =>
    intro n hn
    obtain rfl : n = l.length := by omega
    rw [List.take_length]
    refine Ev.step (f := fun _ => some (sm l)) (fun k => ?_) (Ev.now _)
    rw [impl_total.l0, if_neg (by omega)]
  | succ d ih =>
    intro n hn
    have h := ih (n + 1) (by omega)
    have hr := acc_in l h8 hb (n + 1)
    rw [take_next l n (by omega), sm_append] at h hr
    simp only [sm, Int.add_zero] at h hr
    refine Ev.step (fun k => ?_) h
    rw [impl_total.l0, if_pos (by omega), if_pos (by omega), if_pos (by omega), wrap_succ n (by omega), wrap64_in _ (by omega) (by omega)]
theorem total_ev (l : List Int) (h8 : l.length ≤ 100) (hb : ∀ x ∈ l, -1000 ≤ x ∧ x ≤ 1000) : Ev (fun k => impl_total.f k l) (sm l) := total_l0 l h8 hb l.length 0 (by omega)
/-! ### The program's functions -/
theorem cutsOf_ev {l : List Int} (hp : parking l = true) : Ev (fun k => impl_CutsOf.f k l) (cutsL l, true) := by
  unfold impl_CutsOf.f
  have h8 := parking_cars hp
  have h := isParking_ev l
  rw [hp] at h
  exact Ev.bind h (Ev.pos rfl (Ev.bind (cuts_ev l (by omega)) (Ev.now _)))
def shift (b : List Int) (c : Int) : List Int := b.map fun x => x + c
theorem join_l0 (a b : List Int) (h8 : a.length + b.length ≤ 8) (hb : ∀ x ∈ b, 0 ≤ x ∧ x ≤ 100) : ∀ (d n : Nat), n + d = b.length → Ev (fun k => impl_JoinParking.l0 k a (a ++ shift (b.take n) (a.length : Int)) b (b.length : Int) (n : Int)) (a ++ shift b (a.length : Int), true) := by
  intro d
  induction d with
  | zero =>
    intro n hn
    obtain rfl : n = b.length := by omega
    rw [List.take_length]
    refine Ev.step (f := fun _ => some (a ++ shift b (a.length : Int), true)) (fun k => ?_) (Ev.now _)
    rw [impl_JoinParking.l0, if_neg (by omega)]
  | succ d ih =>
    intro n hn
    have hlt : n < b.length := by omega
    have h := ih (n + 1) (by omega)
    have hx := hb b[n] (List.getElem_mem hlt)
    have e : a ++ shift (b.take (n + 1)) (a.length : Int) = a ++ shift (b.take n) (a.length : Int) ++ [wrap64 (rd b (n : Int) + (a.length : Int))] := by
      rw [take_next b n hlt, rd_nat b n hlt, wrap64_in _ (by omega) (by omega)]
      unfold shift
      rw [List.map_append, List.append_assoc]
      rfl
    rw [e] at h
    refine Ev.step (fun k => ?_) h
    rw [impl_JoinParking.l0, if_pos (by omega), if_pos (by omega), if_pos (by omega), if_pos (by unfold shift; simp; omega), wrap_succ n (by omega)]
theorem join_ev {a b : List Int} (ha : parking a = true) (hb : parking b = true) (h8 : a.length + b.length ≤ 8) : Ev (fun k => impl_JoinParking.f k a b) (a ++ shift b (a.length : Int), true) := by
  unfold impl_JoinParking.f
  have h1 := isParking_ev a
  have h2 := isParking_ev b
  rw [ha] at h1
  rw [hb] at h2
  refine Ev.bind h1 (Ev.pos rfl (Ev.bind h2 (Ev.pos rfl ?_)))
  rw [wrap64_in _ (by omega) (by omega), decide_eq_false (by omega)]
  refine Ev.step (f := ?f1) (fun k => ?h1) ?g1
  case h1 => rw [impl_JoinParking.j0, if_neg (by decide)]
  have hc : slices_Clone_int_int.f a = some a := if_pos (by omega)
  refine Ev.bindc hc ?_
  have h := join_l0 a b h8 (fun x hx => by have := parking_in hb x hx; omega) b.length 0 (by omega)
  simpa [shift] using h
theorem sm_dst (s l : List Int) (hl : s.length = l.length) (hs : ∀ x ∈ s, 0 ≤ x ∧ x ≤ 100) (hx : ∀ x ∈ l, 0 ≤ x ∧ x ≤ 100) : ∀ n : Nat, n ≤ l.length → sm (dst s l n) = sm (s.take n) - sm (l.take n) := by
  intro n
  induction n with
  | zero => intro _; simp [dst, sm]
  | succ n ih =>
    intro hn
    have h1 := hs s[n] (List.getElem_mem (by omega))
    have h2 := hx l[n] (List.getElem_mem (by omega))
    rw [dst_succ, sm_append, ih (by omega), take_next s n (by omega), take_next l n (by omega), sm_append, sm_append, rd_nat s n (by omega), rd_nat l n (by omega), wrap64_in _ (by omega) (by omega)]
    simp only [sm, Int.add_zero]
    omega
theorem dst_in (s l : List Int) (hl : s.length = l.length) (hs : ∀ x ∈ s, 0 ≤ x ∧ x ≤ 100) (hx : ∀ x ∈ l, 0 ≤ x ∧ x ≤ 100) : ∀ z ∈ dst s l l.length, -1000 ≤ z ∧ z ≤ 1000 := by
  intro z hz
  unfold dst at hz
  obtain ⟨i, hi, rfl⟩ := List.mem_map.1 hz
  have hi := List.mem_range.1 hi
  have h1 := hs s[i] (List.getElem_mem (by omega))
  have h2 := hx l[i] (List.getElem_mem hi)
  rw [rd_nat s i (by omega), rd_nat l i hi, wrap64_in _ (by omega) (by omega)]
  omega
/-- The total distance of a parking function is told by its length and its sum. -/
theorem dist_ev {l : List Int} (hp : parking l = true) (h0 : 0 < l.length) : Ev (fun k => impl_TotalDistance.f k l (l.length : Int)) (sm (iota 0 l.length) - sm l, true) := by
  have h8 := parking_cars hp
  have hgood : good l (l.length : Int) = true := by
    unfold good
    rw [decide_eq_true (by omega), decide_eq_true (by omega), Bool.true_and, Bool.true_and, List.all_eq_true]
    intro x hx
    have := parking_in hp x hx
    exact decide_eq_true (by omega)
  have hlen : (sdrive (l.length : Int) [] l).length = l.length := by rw [sdrive_length]; simp
  have hsin : ∀ x ∈ sdrive (l.length : Int) [] l, 0 ≤ x ∧ x ≤ 100 := fun x hx => by
    have := (iota_mem _ _).1 ((s_perm hp).mem_iff.1 hx)
    omega
  have hlin : ∀ x ∈ l, 0 ≤ x ∧ x ≤ 100 := fun x hx => by have := parking_in hp x hx; omega
  unfold impl_TotalDistance.f
  refine Ev.bind (a := (dst (sdrive (l.length : Int) [] l) l l.length, true)) ?_ ?_
  · unfold impl_DistancesOf.f
    refine Ev.bind (a := (sdrive (l.length : Int) [] l, true)) ?_ ?_
    · unfold impl_DriveCars.f
      refine Ev.bindc (areFav_eq l (l.length : Int)) ?_
      rw [hgood]
      refine Ev.pos rfl ?_
      have hd := drive_ev l (l.length : Int) (by omega) (by omega) (by omega) (fun x hx => by have := parking_in hp x hx; omega)
      rw [if_neg (parking_all hp)] at hd
      exact Ev.bind hd (Ev.now _)
    · have h1 := distancesOf_l0 (sdrive (l.length : Int) [] l) l true hlen (by omega) l.length 0 (by omega)
      have e : dst (sdrive (l.length : Int) [] l) l 0 ++ (sdrive (l.length : Int) [] l).drop 0 = sdrive (l.length : Int) [] l := by simp [dst]
      rw [e] at h1
      exact h1
  · have ht := total_ev (dst (sdrive (l.length : Int) [] l) l l.length) (by rw [dst_length]; omega) (dst_in _ l hlen hsin hlin)
    have hs := sm_dst _ l hlen hsin hlin l.length (Nat.le_refl _)
    rw [List.take_of_length_le (by omega), List.take_length, sm_perm (s_perm hp)] at hs
    rw [hs] at ht
    exact Ev.bind ht (Ev.now _)
/-! ### The parts of a list, and their joins -/
theorem ends_last (l : List Int) : rd (ends l) (((cutsL l).length + 1 : Nat) : Int) = (l.length : Int) := by
  rw [← ends_tail l (cutsL l).length (by simp), rd_nat _ _ (by simp)]
  simp
theorem ends_step {l : List Int} (h0 : 0 < l.length) (i : Nat) (hi : i < (cutsL l).length + 1) : rd (ends l) (i : Int) < rd (ends l) ((i + 1 : Nat) : Int) := by
  have hl := ends_length l
  rw [rd_nat _ i (by omega), rd_nat _ (i + 1) (by omega)]
  exact List.pairwise_iff_getElem.1 (ends_sorted h0) i (i + 1) (by omega) (by omega) (by omega)
theorem ends_own {l : List Int} (hp : parking l = true) (i : Nat) (hi : i < (cutsL l).length + 2) : lt l (rd (ends l) (i : Int)) = rd (ends l) (i : Int) := by
  have hl := ends_length l
  rw [rd_nat _ i (by omega)]
  exact ends_cut hp _ (List.getElem_mem _)
theorem ends_none {l : List Int} (h0 : 0 < l.length) (i : Nat) (hi : i < (cutsL l).length + 1) (c : Int) (h1 : rd (ends l) (i : Int) < c) (h2 : c < rd (ends l) ((i + 1 : Nat) : Int)) : lt l c ≠ c := by
  intro hc
  have hl := ends_length l
  have ha := ends_in l i
  have hb := ends_in l (i + 1)
  have hm : c ∈ ends l := List.mem_cons_of_mem _ (List.mem_append_left _ ((mem_cuts l c).2 ⟨by omega, by omega, hc⟩))
  obtain ⟨m, hm1, hm2⟩ := List.getElem_of_mem hm
  rw [rd_nat _ i (by omega)] at h1
  rw [rd_nat _ (i + 1) (by omega)] at h2
  have hs := List.pairwise_iff_getElem.1 (ends_sorted h0)
  by_cases h : m ≤ i
  · by_cases e : m = i
    · subst e; omega
    · have := hs m i (by omega) (by omega) (by omega)
      omega
  · by_cases e : m = i + 1
    · subst e; omega
    · have := hs (i + 1) m (by omega) (by omega) (by omega)
      omega
theorem part_prime_res {l : List Int} (hp : parking l = true) (h0 : 0 < l.length) (i : Nat) (hi : i < (cutsL l).length + 1) :
    parking (PrimeParts.part l (rd (ends l) (i : Int)) (rd (ends l) ((i + 1 : Nat) : Int))) = true ∧ IsPrime.res (PrimeParts.part l (rd (ends l) (i : Int)) (rd (ends l) ((i + 1 : Nat) : Int))) = (true, true) := by
  have ha := ends_own hp i (by omega)
  have hb := ends_own hp (i + 1) (by omega)
  have hs := ends_step h0 i hi
  have hin := ends_in l i
  have hin2 := ends_in l (i + 1)
  have h1 := part_parking hp hin.1 (by omega) hin2.2 ha hb
  have h2 := part_prime (by omega) ha hb (fun c h3 h4 => ends_none h0 i hi c h3 h4)
  have h3 := part_len (by omega) ha hb
  refine ⟨h1, ?_⟩
  unfold IsPrime.res IsPrime.prime
  rw [if_pos h1, h2, decide_eq_true (by omega)]
  rfl
theorem joins_ok {l : List Int} (hp : parking l = true) (h0 : 0 < l.length) (i : Nat) (hi : i ≤ (cutsL l).length + 1) :
    (joins l (ends l) i).Perm (l.filter fun x => decide (x < rd (ends l) (i : Int))) ∧ parking (joins l (ends l) i) = true ∧ ((joins l (ends l) i).length : Int) = rd (ends l) (i : Int) := by
  have h1 := joins_perm (l := l) (es := ends l) (fun x hx => (parking_in hp x hx).1) rfl ((cutsL l).length + 1) (fun j hj => by have := ends_step h0 j hj; omega) i hi
  have hin := ends_in l i
  exact ⟨h1, filter_parking hp hin.1 hin.2 (ends_own hp i (by omega)) h1⟩
theorem joins_end {l : List Int} (hp : parking l = true) (h0 : 0 < l.length) : (joins l (ends l) ((cutsL l).length + 1)).Perm l := by
  have h := (joins_ok hp h0 _ (Nat.le_refl _)).1
  rw [ends_last, List.filter_eq_self.2 (fun x hx => decide_eq_true (parking_in hp x hx).2)] at h
  exact h
theorem law_l0 (x1 : List Int) (hj : Ev (fun k => laws_FnPrimeParts.j3 k x1) true) {l : List Int} (hp : parking l = true) (h0 : 0 < l.length) : ∀ (d i : Nat), i + d = (cutsL l).length + 1 →
    Ev (fun k => laws_FnPrimeParts.l0 k x1 l (joins l (ends l) i) (pp l (ends l) ((cutsL l).length + 1)) ((pp l (ends l) ((cutsL l).length + 1)).length : Int) (i : Int)) true := by
  have h8 := parking_cars hp
  have hcl := cutsL_length l
  have hlen := pp_length l (ends l) ((cutsL l).length + 1)
  intro d
  induction d with
  | zero =>
    intro i hi
    obtain rfl : i = (cutsL l).length + 1 := by omega
    have hj2 := joins_ok hp h0 _ (Nat.le_refl ((cutsL l).length + 1))
    have hpe := joins_end hp h0
    have hle := hpe.length_eq
    have hb : ∀ x ∈ l, -1000 ≤ x ∧ x ≤ 1000 := fun x hx => by have := parking_in hp x hx; omega
    have hd1 := dist_ev hp h0
    have hd2 := dist_ev hj2.2.1 (by omega)
    rw [hle, sm_perm hpe] at hd2
    have hs1 := jSum_ev l (by omega) hb
    have hs2 := jSum_ev (joins l (ends l) ((cutsL l).length + 1)) (by omega) (fun x hx => hb x (hpe.mem_iff.1 hx))
    rw [sm_perm hpe] at hs2
    refine Ev.step (f := ?f1) (fun k => ?h1) ?g1
    case h1 => rw [laws_FnPrimeParts.l0, if_neg (by omega), if_pos (by omega), if_pos (by omega)]
    exact Ev.bind hd1 (Ev.bind hd2 (Ev.pos rfl (Ev.pos rfl (Ev.pos rfl (Ev.bind hs1 (Ev.bind hs2 (Ev.pos rfl hj)))))))
  | succ d ih =>
    intro i hi
    have hlt : i < (pp l (ends l) ((cutsL l).length + 1)).length := by omega
    have hpart := part_prime_res hp h0 i (by omega)
    have hj1 := joins_ok hp h0 i (by omega)
    have hpl := part_len (l := l) (a := rd (ends l) (i : Int)) (b := rd (ends l) ((i + 1 : Nat) : Int)) (by have := ends_step h0 i (by omega); omega) (ends_own hp i (by omega)) (ends_own hp (i + 1) (by omega))
    have hin2 := ends_in l (i + 1)
    have he : (pp l (ends l) ((cutsL l).length + 1))[i] = PrimeParts.part l (rd (ends l) (i : Int)) (rd (ends l) ((i + 1 : Nat) : Int)) := by simp [pp]
    have hq := IsPrime.impl_ev (PrimeParts.part l (rd (ends l) (i : Int)) (rd (ends l) ((i + 1 : Nat) : Int))) (by have := part_length l (rd (ends l) (i : Int)) (rd (ends l) ((i + 1 : Nat) : Int)); omega)
    rw [hpart.2] at hq
    have hjo := join_ev hj1.2.1 hpart.1 (by omega)
    have e : joins l (ends l) i ++ shift (PrimeParts.part l (rd (ends l) (i : Int)) (rd (ends l) ((i + 1 : Nat) : Int))) ((joins l (ends l) i).length : Int) = joins l (ends l) (i + 1) := by
      rw [joins_succ, hj1.2.2]
      unfold shift
      rw [part_back]
    rw [e] at hjo
    refine Ev.step (f := ?f2) (fun k => ?h2) ?g2
    case h2 => rw [laws_FnPrimeParts.l0, if_pos (by omega), if_pos (by omega), if_pos (by omega), rd3_nat _ i hlt, he, wrap_succ i (by omega)]
    exact Ev.bind hq (Ev.bind hjo (Ev.pos rfl (Ev.pos rfl (Ev.pos rfl (ih (i + 1) (by omega))))))
/-! ### Counting -/
theorem up {α : Type} {g : Nat → Option α} (hm : ∀ k, LeO (g k) (g (k + 1))) {k0 : Nat} {r : α} (h : g k0 = some r) : Ev g r := by
  refine ⟨k0, fun k hk => ?_⟩
  obtain ⟨d, rfl⟩ : ∃ d, k = k0 + d := ⟨k - k0, by omega⟩
  clear hk
  induction d with
  | zero => exact h
  | succ d ih => exact hm (k0 + d) r (ih)
theorem count_fin : ∀ n : Fin 8, impl_CountPrime.f 60 ((n.1 : Int) + 1) = some (((n.1 ^ n.1 : Nat) : Int), true) ∧ spec_CountPrime.f 60 ((n.1 : Int) + 1) = some (((n.1 ^ n.1 : Nat) : Int), true) := by decide +kernel
theorem count_in (a : Nat) (h1 : 1 ≤ a) (h8 : a ≤ 8) : Ev (fun k => impl_CountPrime.f k (a : Int)) ((((a - 1) ^ (a - 1) : Nat) : Int), true) ∧ Ev (fun k => spec_CountPrime.f k (a : Int)) ((((a - 1) ^ (a - 1) : Nat) : Int), true) := by
  have h := count_fin ⟨a - 1, by omega⟩
  have e : (((a - 1 : Nat) : Int) + 1) = (a : Int) := by omega
  dsimp only at h
  rw [e] at h
  exact ⟨up (fun k => impl_CountPrime.mono _ k) h.1, up (fun k => spec_CountPrime.mono _ k) h.2⟩
theorem count_both (n : Int) : ∃ r, Ev (fun k => impl_CountPrime.f k n) r ∧ Ev (fun k => spec_CountPrime.f k n) r := by
  by_cases h : 1 ≤ n ∧ n ≤ 8
  · obtain ⟨a, rfl⟩ := Int.eq_ofNat_of_zero_le (show 0 ≤ n by omega)
    exact ⟨_, count_in a (by omega) (by omega)⟩
  · refine ⟨(0, false), ?_, ?_⟩
    · unfold impl_CountPrime.f
      refine Ev.bindc (between_eq _ 1 8) ?_
      rw [decide_eq_false h]
      exact Ev.neg (by decide) (Ev.now _)
    · unfold spec_CountPrime.f
      refine Ev.bindc (l1In_eq _ 1 8) ?_
      rw [decide_eq_false h]
      exact Ev.neg (by decide) (Ev.now _)
theorem all_count : ∀ n : Fin 5, ((enum (n.1 + 1) (n.1 + 1) []).filter AllPrime.prime).length = n.1 ^ n.1 := by decide +kernel
theorem tail_ev {x1 : List Int} (hb : Bytes x1) : Ev (fun k => (spec_DrawCountPrime.f x1).bind fun t463 => ((impl_CountPrime.f k t463).bind fun bt464 => ((spec_CountPrime.f k t463).bind fun bt466 => (if (bt464.2 == bt466.2) = true then (some (bt464.1 == bt466.1)) else (some false))))) true := by
  obtain ⟨x, a, s, e, _⟩ := number2_ok hb 0 0 (by decide)
  have hd : spec_DrawCountPrime.f x1 = some x := by
    unfold spec_DrawCountPrime.f spec_DrawCountParking.f
    rw [e]
    rfl
  obtain ⟨r, h1, h2⟩ := count_both x
  refine Ev.bindc hd (Ev.bind h1 (Ev.bind h2 ?_))
  rw [beq_self_eq_true, beq_self_eq_true]
  exact Ev.pos rfl (Ev.now _)
theorem j3_ev {x1 : List Int} (hb : Bytes x1) : Ev (fun k => laws_FnPrimeParts.j3 k x1) true := by
  obtain ⟨n, a, s, e, _⟩ := among_ok hb 0 0 [0, 1, 2, 3, 4, 4, 5, 6, (-1)] (by decide) (by decide) (by decide)
  have hd : spec_DrawAllPrime.f x1 = some n := by
    unfold spec_DrawAllPrime.f spec_DrawAllParking.f
    rw [e]
    rfl
  obtain ⟨ws, ok, ⟨h1, h2, h3, h4⟩, h5⟩ := AllPrime.both2 n
  refine Ev.step (f := ?f1) (fun k => ?h1) ?g1
  case h1 => rw [laws_FnPrimeParts.j3, hd, Option.bind_some]
  refine Ev.bind h4 (Ev.bind h3 ?_)
  rw [bne_self_eq_false]
  refine Ev.neg (by decide) (Ev.bind (jRows_ev ws h1 (fun x hx => by have := h2 x hx; omega)) ?_)
  cases ok with
  | false =>
    refine Ev.step (f := ?f2) (fun k => ?h2) ?g2
    case h2 => rw [laws_FnPrimeParts.j4, if_neg (by decide), if_neg (by simp)]
    exact tail_ev hb
  | true =>
    obtain ⟨m, rfl, hm1, hm5, hw⟩ := h5 rfl
    have hc := (count_in m hm1 (by omega)).1
    have hl : ws.length = (m - 1) ^ (m - 1) := by
      have h := all_count ⟨m - 1, by omega⟩
      dsimp only at h
      rw [show m - 1 + 1 = m by omega] at h
      rw [hw, h]
    rw [← hl] at hc
    refine Ev.step (f := ?f4) (fun k => ?h4) ?g4
    case h4 => rw [laws_FnPrimeParts.j4, if_neg (by decide), if_pos rfl]
    refine Ev.bind hc (Ev.pos rfl ?_)
    rw [bne_self_eq_false]
    refine Ev.step (f := ?f3) (fun k => ?h3) ?g3
    case h3 => rw [laws_FnPrimeParts.j5, if_neg (by decide)]
    exact tail_ev hb
/-! ### The whole -/
theorem j0_no {x1 x5 : List Int} (hb : Bytes x1) (x6 : List (List Int)) (x10 : Bool) : Ev (fun k => laws_FnPrimeParts.j0 k x1 x5 x6 false x10 false) true := by
  refine Ev.step (fun k => ?_) (j3_ev hb)
  rw [laws_FnPrimeParts.j0, if_neg (by decide), if_neg (by decide)]
theorem j0_nil {x1 : List Int} (hb : Bytes x1) : Ev (fun k => laws_FnPrimeParts.j0 k x1 [] [] true false false) true := by
  have hc : Ev (fun k => impl_CutsOf.f k []) (([] : List Int), true) := cutsOf_ev (l := []) (by decide)
  refine Ev.step (f := ?f1) (fun k => ?h1) ?g1
  case h1 => rw [laws_FnPrimeParts.j0, if_neg (by decide), if_pos rfl]
  refine Ev.bind hc (Ev.pos rfl (Ev.neg (by decide) (Ev.neg (by decide) ?_)))
  refine Ev.step (f := ?f2) (fun k => ?h2) ?g2
  case h2 => rw [laws_FnPrimeParts.j1, if_neg (by decide)]
  refine Ev.step (fun k => ?_) (j3_ev hb)
  rw [laws_FnPrimeParts.l0, if_neg (by decide), if_pos (by decide), if_neg (by decide)]
theorem j0_yes {x1 l : List Int} (hb : Bytes x1) (hp : parking l = true) (h0 : 0 < l.length) : Ev (fun k => laws_FnPrimeParts.j0 k x1 l (pp l (ends l) ((cutsL l).length + 1)) true (IsPrime.prime l) false) true := by
  have hcl := cutsL_length l
  have h8 := parking_cars hp
  have hlen := pp_length l (ends l) ((cutsL l).length + 1)
  have hpr : (IsPrime.prime l != (((cutsL l).length : Int) == 0)) = false := by
    unfold IsPrime.prime
    rw [decide_eq_true h0, Bool.true_and, bne_self_eq_false]
  refine Ev.step (f := ?f1) (fun k => ?h1) ?g1
  case h1 => rw [laws_FnPrimeParts.j0, if_neg (by decide), if_pos rfl]
  refine Ev.bind (cutsOf_ev hp) (Ev.pos rfl (Ev.pos (by omega) (Ev.neg (by rw [hpr]; decide) ?_)))
  dsimp only
  rw [hlen, wrap_succ _ (by omega), bne_self_eq_false]
  refine Ev.step (f := ?f2) (fun k => ?h2) ?g2
  case h2 => rw [laws_FnPrimeParts.j1, if_neg (by decide)]
  exact law_l0 x1 (j3_ev hb) hp h0 ((cutsL l).length + 1) 0 (by omega)
end PrimeLaw
open PrimeLaw in
theorem FnPrimeParts : laws_FnPrimeParts.Pure := by
  intro l0 l1 _ _ hw0 _ _ hw1
  refine Ev.rounds ?_
  have hb0 := bytes_of hw0
  have hb1 := bytes_of hw1
  unfold laws_FnPrimeParts.f laws_big.f
  by_cases hb : (l0.length : Int) > 1048576
  · rw [if_pos hb]
    exact Ev.bindc rfl (Ev.pos rfl (Ev.now _))
  rw [if_neg hb]
  refine Ev.bindc rfl ?_
  by_cases hb2 : decide ((l1.length : Int) > wrap64 (1048576 - (l0.length : Int))) = true
  · exact Ev.pos hb2 (Ev.now _)
  refine Ev.neg hb2 ?_
  obtain ⟨r, hr, hrl, _⟩ := park_ok hb0 8 (by decide)
  obtain ⟨l, hl⟩ : ∃ l, l = r.1 := ⟨_, rfl⟩
  have hlen : l.length ≤ 17 := by rw [hl]; omega
  have hd : Ev (fun k => spec_DrawPrimeParts.f k l0) l := by
    unfold spec_DrawPrimeParts.f spec_DrawIsPrime.f
    exact Ev.bind (a := l) (Ev.bind hr (by rw [← hl]; exact Ev.now _)) (Ev.now _)
  have hi1 := IsPrime.impl_ev l (by omega)
  have hi2 := IsPrime.spec_ev l (by omega)
  refine Ev.bind hd ?_
  cases hp : parking l with
  | false =>
    have hn := PrimeParts.no_ev l hp
    have hres : IsPrime.res l = (false, false) := by unfold IsPrime.res; rw [if_neg (by rw [hp]; decide)]
    rw [hres] at hi1 hi2
    refine Ev.bind hn.2 (Ev.bind hn.1 (Ev.bind hi1 (Ev.bind hi2 (Ev.neg (by decide) (Ev.bind (jRows_ev [] (by decide) (by simp)) (Ev.pos rfl (Ev.neg (by decide) (Ev.neg (by decide) ?_))))))))
    exact j0_no hb1 [] false
  | true =>
    by_cases h0 : 0 < l.length
    · have hs := PrimeParts.spec_ev l hp h0
      have hi := PrimeParts.impl_ev l hp h0
      have hres : IsPrime.res l = (IsPrime.prime l, true) := by unfold IsPrime.res; rw [if_pos hp]
      have hel : (PrimeParts.ends l).length - 1 = (cutsL l).length + 1 := by rw [PrimeParts.ends_length]; omega
      have hcl := cutsL_length l
      rw [hel] at hs hi
      rw [hres] at hi1 hi2
      refine Ev.bind hi (Ev.bind hs (Ev.bind hi1 (Ev.bind hi2 (Ev.neg (by simp) (Ev.bind (jRows_ev _ (by rw [PrimeParts.pp_length]; omega) (fun x hx => by have := PrimeParts.pp_mem l _ _ x hx; omega)) (Ev.pos rfl (Ev.neg (by simp) (Ev.neg (by simp) ?_))))))))
      exact j0_yes hb1 hp h0
    · have e : l = [] := List.eq_nil_of_length_eq_zero (by omega)
      subst e
      obtain ⟨⟨k1, h1⟩, ⟨k2, h2⟩⟩ := PrimeParts.nil_eq
      have hs : Ev (fun k => spec_PrimeParts.f k []) (([] : List (List Int)), true) := up (fun k => spec_PrimeParts.mono _ k) h1
      have hi : Ev (fun k => impl_PrimeParts.f k []) (([] : List (List Int)), true) := up (fun k => impl_PrimeParts.mono _ k) h2
      have hres : IsPrime.res [] = (false, true) := by decide
      rw [hres] at hi1 hi2
      refine Ev.bind hi (Ev.bind hs (Ev.bind hi1 (Ev.bind hi2 (Ev.neg (by decide) (Ev.bind (jRows_ev [] (by decide) (by simp)) (Ev.pos rfl (Ev.neg (by decide) (Ev.neg (by decide) ?_))))))))
      exact j0_nil hb1
end Go.Proofs.Ytcfolhafjeefaaa.Pure
