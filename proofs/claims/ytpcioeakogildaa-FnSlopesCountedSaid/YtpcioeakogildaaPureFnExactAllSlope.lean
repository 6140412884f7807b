/- The pure facts of the law FnExactAllSlope: the program's AllSlope and the reference's one answer alike at every two numbers; no condition. -/
import Derived.Test.YtpcioeakogildaaPAllx1
import Derived.Test.YtpcioeakogildaaPAllx2
import Derived.Test.YtpcioeakogildaaPAllx4
import Derived.Test.YtpcioeakogildaaPAllx5
import Derived.Test.YtpcioeakogildaaBaseQ0
import Derived.Test.YtpcioeakogildaaBaseK
import Derived.Test.YtpcioeakogildaaBaseD
import Derived.Test.YtpcioeakogildaaBaseS
namespace Go.Proofs.Ytpcioeakogildaa.Pure
open Go.RowKit Go.Proofs.YtpcioeakogildaaW.PrintWords Go.Proofs.YtpcioeakogildaaW.PrintLast Go.Proofs.Ytpcioeakogildaa.Hand Go.Proofs.Ytpcioeakogildaa.PAll Go.Proofs.Ytpcioeakogildaa.Plain
set_option linter.unusedVariables false
namespace AllSlope
/-! ### where the numbers are under the bounds -/
theorem cnt_all (p : Int → Bool) (l : List Int) (h : ∀ x ∈ l, p x = true) : cnt p l = (l.length : Int) := by
  unfold cnt
  rw [List.filter_eq_self.2 h]
theorem cnt_none (p : Int → Bool) (l : List Int) (h : ∀ x ∈ l, p x = false) : cnt p l = 0 := by
  unfold cnt
  rw [List.filter_eq_nil_iff.2 (fun x hx => by rw [h x hx]; decide)]
  rfl
theorem upTo_perm {l m : List Int} (h : l.Perm m) (v : Int) : upTo l v = upTo m v := by
  unfold upTo cnt
  rw [(h.filter _).length_eq]
theorem leR_cnt : ∀ (xs bs : List Int), xs.length = bs.length → leR xs bs = true → ∀ v, upTo bs v ≤ upTo xs v
  | [], [], _, _, v => Int.le_refl _
  | [], b :: bs, h, _, _ => by simp at h
  | x :: xs, [], h, _, _ => by simp at h
  | x :: xs, b :: bs, h, hl, v => by
    rw [leR, Bool.and_eq_true, decide_eq_true_eq] at hl
    have ih := leR_cnt xs bs (by simpa using h) hl.2 v
    unfold upTo at ih ⊢
    rw [cntD_cons, cntD_cons]
    by_cases hb : b ≤ v
    · rw [if_pos (decide_eq_true hb), if_pos (decide_eq_true (by omega))]
      omega
    · rw [if_neg (by rw [decide_eq_false hb]; decide)]
      split <;> omega
theorem leR_of : ∀ (xs bs : List Int), (∀ i (h1 : i < xs.length) (h2 : i < bs.length), xs[i] ≤ bs[i]) → leR xs bs = true
  | [], bs, _ => by simp [leR]
  | x :: xs, [], _ => by simp [leR]
  | x :: xs, b :: bs, h => by
    rw [leR, Bool.and_eq_true, decide_eq_true_eq]
    exact ⟨h 0 (by simp) (by simp), leR_of xs bs fun i h1 h2 => h (i + 1) (by simpa using h1) (by simpa using h2)⟩
theorem cnt_leR (xs bs : List Int) (hl : xs.length = bs.length) (hx : xs.Pairwise (· ≤ ·)) (hb : bs.Pairwise (· ≤ ·)) (A : Int) (hA : ∀ b ∈ bs, 0 ≤ b ∧ b < A) (h : ∀ v, 0 ≤ v → v < A → upTo bs v ≤ upTo xs v) : leR xs bs = true := by
  refine leR_of xs bs fun i h1 h2 => ?_
  by_cases hc : xs[i] ≤ bs[i]
  · exact hc
  · exfalso
    have hAi := hA bs[i] (List.getElem_mem h2)
    have hv := h bs[i] hAi.1 hAi.2
    have pb := List.pairwise_iff_getElem.1 hb
    have px := List.pairwise_iff_getElem.1 hx
    have eb := cntK_append (fun x => decide (x ≤ bs[i])) (bs.take (i + 1)) (bs.drop (i + 1))
    rw [List.take_append_drop, cnt_all _ (bs.take (i + 1)) (fun x hx2 => by
      obtain ⟨j, hj, rfl⟩ := List.getElem_of_mem hx2
      rw [List.length_take] at hj
      rw [List.getElem_take]
      refine decide_eq_true ?_
      rcases Nat.lt_or_ge j i with h3 | h3
      · exact pb j i (by omega) h2 h3
      · obtain rfl : j = i := by omega
        exact Int.le_refl _), List.length_take] at eb
    have ex := cntK_append (fun x => decide (x ≤ bs[i])) (xs.take i) (xs.drop i)
    rw [List.take_append_drop, cnt_none _ (xs.drop i) (fun x hx2 => by
      obtain ⟨j, hj, rfl⟩ := List.getElem_of_mem hx2
      rw [List.length_drop] at hj
      rw [List.getElem_drop]
      refine decide_eq_false ?_
      rcases Nat.eq_zero_or_pos j with rfl | h3
      · simp only [Nat.add_zero]; omega
      · have := px i (i + j) h1 (by omega) (by omega)
        omega)] at ex
    have h4 := cnt_le (fun x => decide (x ≤ bs[i])) (xs.take i)
    have h5 := cnt_nonneg (fun x => decide (x ≤ bs[i])) (bs.drop (i + 1))
    rw [List.length_take] at h4
    unfold upTo at hv
    omega
theorem bnds_sorted_fin : ∀ n : Fin 6, ∀ m : Fin 13, (bnds ((n.1 : Int) + 1) ((m.1 : Int) + 1)).Pairwise (· ≤ ·) := by decide +kernel
theorem bnds_sorted {a b : Int} (h : slope a b = true) : (bnds a b).Pairwise (· ≤ ·) :=
  slope_pairs (fun a b => (bnds a b).Pairwise (· ≤ ·)) bnds_sorted_fin (slope_in h)
/-- The numbers that have to be at most v. -/
def needS (n A : Nat) : Nat → Nat := fun v => (upTo (bnds (n : Int) (A : Int)) (v : Int)).toNat
theorem slp_iff {A : Nat} (p : List Int) (h : slope (p.length : Int) (A : Int) = true) (hp : LowN p A) : (∀ u, u < A → needS p.length A u ≤ ownN p u) ↔ slp p (A : Int) = true := by
  have hlen : (srt p).length = (bnds (p.length : Int) (A : Int)).length := by rw [srt_length, bnds_length]; omega
  have hu : underR (srt p) (bnds (p.length : Int) (A : Int)) = leR (srt p) (bnds (p.length : Int) (A : Int)) := underR_leR _ _ (fun x hx => (hp x ((srt_mem p x).1 hx)).1)
  unfold slp under
  rw [h, Bool.true_and, hu]
  constructor
  · intro h2
    refine cnt_leR _ _ hlen (srt_sorted p) (bnds_sorted h) A (bnds_lt h) fun v hv0 hv1 => ?_
    have h3 := h2 v.toNat (by omega)
    unfold needS ownN at h3
    rw [show ((v.toNat : Nat) : Int) = v by omega] at h3
    rw [upTo_perm (srt_perm p)]
    have h4 := upTo_in p v
    omega
  · intro h2 u hu
    have h3 := leR_cnt _ _ hlen h2 (u : Int)
    rw [upTo_perm (srt_perm p)] at h3
    unfold needS ownN
    omega
/-! ### all slope parking functions that go on a list, in order -/
def enumS (A : Nat) : Nat → List Int → List (List Int)
  | 0, p => if slp p (A : Int) = true then [p] else []
  | d + 1, p => catF (fun x => enumS A d (p ++ [(x : Int)])) 0 A
theorem enumS_mem (A : Nat) : ∀ d p q, q ∈ enumS A d p → slp q (A : Int) = true ∧ ∃ t, q = p ++ t ∧ t.length = d ∧ LowN t A := by
  intro d
  induction d with
  | zero =>
    intro p q h
    rw [enumS] at h
    split at h
    · rename_i h2
      rw [List.mem_singleton] at h
      subst h
      exact ⟨h2, [], by simp, rfl, fun x hx => by cases hx⟩
    · cases h
  | succ d ih =>
    intro p q h
    rw [enumS] at h
    obtain ⟨k, h1, h2, h3⟩ := catF_mem _ q A 0 h
    obtain ⟨h4, t, rfl, h5, h6⟩ := ih _ q h3
    refine ⟨h4, (k : Int) :: t, by simp, by simp [h5], fun x hx => ?_⟩
    rcases List.mem_cons.1 hx with rfl | hx
    · omega
    · exact h6 x hx
theorem enumS_length {n A : Nat} (h : slope (n : Int) (A : Int) = true) : ∀ d p, p.length + d = n → LowN p A → (enumS A d p).length = DD (ownN p) (needS n A) d A d := by
  intro d
  induction d with
  | zero =>
    intro p hp hl
    obtain rfl : p.length = n := by omega
    rw [enumS, DD_end]
    by_cases h2 : slp p (A : Int) = true
    · rw [if_pos h2, if_pos ((slp_iff p h hl).2 h2)]; rfl
    · rw [if_neg h2, if_neg (fun h3 => h2 ((slp_iff p h hl).1 h3))]; rfl
  | succ d ih =>
    intro p hp hl
    rw [enumS, catF_length, DD_next]
    refine sumTo_congr fun x hx => ?_
    rw [Nat.zero_add, ih (p ++ [(x : Int)]) (by simp; omega) (hl.snoc hx), ownN_more]
theorem enumS_le {n A : Nat} (h : slope (n : Int) (A : Int) = true) (d : Nat) (p : List Int) (hp : p.length + d = n) (hl : LowN p A) : (enumS A d p).length ≤ 7529536 := by
  have hin := slope_in h
  rw [enumS_length h d p hp hl]
  have h1 := DD_le (needS n A) d (ownN p) A d
  have h2 : (A + 1) ^ d ≤ 14 ^ 6 := Nat.le_trans (Nat.pow_le_pow_left (by omega) _) (Nat.pow_le_pow_right (by omega) (by omega))
  have h3 : (14 : Nat) ^ 6 = 7529536 := by decide
  omega
theorem sways_eq {n A : Nat} (h : slope (n : Int) (A : Int) = true) (p : List Int) (d : Nat) (hp : p.length + d = n) (hl : LowN p A) : sways p (n : Int) (A : Int) = ((enumS A d p).length : Int) := by
  have hin := slope_in h
  have e := dp_all (ownN p) (needS n A) (n - p.length) A (by omega) (by omega)
  rw [enumS_length h d p hp hl]
  unfold sways
  have e1 : (fun v : Nat => upTo p (v : Int)) = fun v => (ownN p v : Int) := by
    funext v
    have := upTo_in p (v : Int)
    unfold ownN
    omega
  have e2 : (fun v : Nat => upTo (bnds (n : Int) (A : Int)) (v : Int)) = fun v => (needS n A v : Int) := by
    funext v
    have := upTo_in (bnds (n : Int) (A : Int)) (v : Int)
    unfold needS
    omega
  simp only [Int.toNat_natCast]
  rw [e1, e2, e, show n - p.length = d by omega]
theorem clone_eq (l : List Int) (hs : l.length ≤ 1099511627776) : slices_Clone_int_int.f l = some l := by
  unfold slices_Clone_int_int.f
  rw [if_pos (by omega)]
theorem own_eq (l : List Int) (hs : l.length ≤ 1099511627776) : spec_l1Own.f l = some l := by
  unfold spec_l1Own.f
  simp only [Option.bind_some, List.nil_append]
  rw [if_pos (by simp; omega)]
/-! ### the list with a rank -/
theorem at_next {n A : Nat} (h : slope (n : Int) (A : Int) = true) {d : Nat} (p : List Int) (hp : p.length + (d + 1) = n) (hl : LowN p A) (s : List Int)
    (go : ∀ (x r : Nat), x < A → (enumS A d (p ++ [(x : Int)]))[r]? = some s → Ev (fun k => impl_slopeAt.l0 k (n : Int) (A : Int) (r : Int) (p ++ [(x : Int)])) s) :
    ∀ (e x r : Nat), x + e = A → r ≤ 10000000 → (catF (fun x => enumS A d (p ++ [(x : Int)])) x e)[r]? = some s → Ev (fun k => impl_slopeAt.l1 k (n : Int) (A : Int) (r : Int) p (x : Int)) s := by
  have hin := slope_in h
  intro e
  induction e with
  | zero => intro x r hx hr h; simp [catF] at h
  | succ e ih =>
    intro x r hx hr h3
    have hc := slopeCompletions_ev (p ++ [(x : Int)]) h (by simp; omega)
    have hw := sways_eq h (p ++ [(x : Int)]) d (by simp; omega) (hl.snoc (by omega))
    rw [catF] at h3
    refine Ev.step (f := ?f1) (fun k => ?h1) ?g1
    case h1 => rw [impl_slopeAt.l1, clone_eq p (by omega), Option.bind_some, if_pos (by omega)]
    refine Ev.bind hc ?_
    by_cases hlt : r < (enumS A d (p ++ [(x : Int)])).length
    · rw [List.getElem?_append_left hlt] at h3
      exact Ev.pos (by omega) (Ev.pos (by omega) (go x r (by omega) h3))
    · rw [List.getElem?_append_right (by omega)] at h3
      refine Ev.neg (by omega) ?_
      rw [wrap_succ x (by omega), wrap64_in _ (by omega) (by omega), hw, show (r : Int) - ((enumS A d (p ++ [(x : Int)])).length : Int) = ((r - (enumS A d (p ++ [(x : Int)])).length : Nat) : Int) by omega]
      exact ih (x + 1) _ (by omega) (by omega) h3
theorem at_ev {n A : Nat} (h : slope (n : Int) (A : Int) = true) (s : List Int) : ∀ (d : Nat) (p : List Int) (r : Nat), p.length + d = n → LowN p A → (enumS A d p)[r]? = some s → Ev (fun k => impl_slopeAt.l0 k (n : Int) (A : Int) (r : Int) p) s := by
  have hin := slope_in h
  intro d
  induction d with
  | zero =>
    intro p r hp hl h3
    rw [enumS] at h3
    split at h3
    · have e : s = p := by
        cases r with
        | zero => simpa using h3.symm
        | succ r => simp at h3
      subst e
      refine Ev.step (f := fun _ => some s) (fun k => ?_) (Ev.now _)
      rw [impl_slopeAt.l0, if_neg (by omega)]
    · simp at h3
  | succ d ih =>
    intro p r hp hl h3
    have hlt : r < (enumS A (d + 1) p).length := (List.getElem?_eq_some_iff.1 h3).1
    have hle := enumS_le h (d + 1) p hp hl
    rw [enumS] at h3
    have h2 := at_next h p hp hl s (fun x r hx hr => ih (p ++ [(x : Int)]) r (by simp; omega) (hl.snoc hx) hr) A 0 r (by omega) (by omega) h3
    refine Ev.step (fun k => ?_) h2
    rw [impl_slopeAt.l0, if_pos (by omega)]
    rfl
/-! ### the reference's lists -/
theorem fits_l0 {n : Nat} (hn : n ≤ 100) (a : Int) : ∀ (d : Nat) (p : List Int), p.length + d = n → Ev (fun k => spec_slFits.l0 k (n : Int) a p) (slp (p ++ List.replicate d 0) a) := by
  intro d
  induction d with
  | zero =>
    intro p hp
    rw [List.replicate_zero, List.append_nil]
    refine Ev.step (f := ?f1) (fun k => ?h1) ?g1
    case h1 => rw [spec_slFits.l0, if_neg (by omega)]
    exact Ev.bind (slGood_ev p a) (Ev.now _)
  | succ d ih =>
    intro p hp
    have h := ih (p ++ [0]) (by simp; omega)
    rw [List.append_assoc, List.singleton_append, ← List.replicate_succ] at h
    refine Ev.step (fun k => ?_) h
    rw [spec_slFits.l0, if_pos (by omega), if_pos (by omega)]
theorem fits_ev {n : Nat} (hn : n ≤ 100) (a : Int) (d : Nat) (p : List Int) (hp : p.length + d = n) : Ev (fun k => spec_slFits.f k p (n : Int) a) (slp (p ++ List.replicate d 0) a) := by
  unfold spec_slFits.f
  exact Ev.bindc (own_eq p (by omega)) (fits_l0 hn a d p hp)
theorem fits_or {n A : Nat} (h : slope (n : Int) (A : Int) = true) (d : Nat) (p : List Int) (hp : p.length + d = n) (hl : LowN p A) (hf : slp (p ++ List.replicate d 0) (A : Int) = false) : enumS A d p = [] := by
  have hin := slope_in h
  refine List.eq_nil_iff_forall_not_mem.2 fun q hq => ?_
  obtain ⟨h1, t, rfl, h2, h3⟩ := enumS_mem A d p q hq
  have hlow1 : LowN (p ++ t) A := fun x hx => (List.mem_append.1 hx).elim (hl x) (h3 x)
  have hlow0 : LowN (p ++ List.replicate d 0) A := fun x hx => (List.mem_append.1 hx).elim (hl x) (fun hx => by rw [(List.mem_replicate.1 hx).2]; omega)
  have hlen1 : (p ++ t).length = n := by rw [List.length_append]; omega
  have hlen0 : (p ++ List.replicate d (0 : Int)).length = n := by rw [List.length_append, List.length_replicate]; omega
  have h4 := (slp_iff (p ++ t) (by rw [hlen1]; exact h) hlow1).2 h1
  have h5 := (slp_iff (p ++ List.replicate d 0) (by rw [hlen0]; exact h) hlow0).1 (by
    intro u hu
    have h6 := h4 u hu
    rw [hlen1] at h6
    rw [hlen0]
    refine Nat.le_trans h6 ?_
    unfold ownN upTo
    rw [cntK_append, cntK_append, cnt_all _ (List.replicate d 0) (fun x hx => by rw [(List.mem_replicate.1 hx).2]; exact decide_eq_true (by omega)), List.length_replicate]
    have h7 := cnt_le (fun x => decide (x ≤ (u : Int))) t
    omega)
  rw [h5] at hf
  cases hf
theorem slAll_ev {n A : Nat} (h : slope (n : Int) (A : Int) = true) : ∀ (d : Nat) (p : List Int), p.length + d = n → LowN p A → Ev (fun k => spec_slAll.f k p (n : Int) (A : Int) false) (enumS A d p) := by
  have hin := slope_in h
  intro d
  induction d with
  | zero =>
    intro p hp hl
    have hf := fits_ev (n := n) (by omega) (A : Int) 0 p hp
    rw [List.replicate_zero, List.append_nil] at hf
    rw [enumS]
    refine Ev.step (f := ?f1) (fun k => ?h1) ?g1
    case h1 => rw [spec_slAll.f]
    refine Ev.bind hf ?_
    cases h2 : slp p (A : Int) with
    | false => exact Ev.neg (by decide) (Ev.now _)
    | true =>
      rw [if_pos rfl]
      exact Ev.pos rfl (Ev.pos (by omega) (Ev.bindc (own_eq p (by omega)) (Ev.now _)))
  | succ d ih =>
    intro p hp hl
    have hf := fits_ev (n := n) (by omega) (A : Int) (d + 1) p hp
    refine Ev.step (f := ?f5) (fun k => ?h5) ?g5
    case h5 => rw [spec_slAll.f]
    refine Ev.bind hf ?_
    cases h2 : slp (p ++ List.replicate (d + 1) 0) (A : Int) with
    | false =>
      rw [fits_or h (d + 1) p hp hl h2]
      exact Ev.neg (by decide) (Ev.now _)
    | true =>
      refine Ev.pos rfl (Ev.neg (by omega) (Ev.neg (by decide) ?_))
      rw [enumS]
      have loop : ∀ (e x : Nat) (acc : List (List Int)), x + e = A → acc.length ≤ 7529536 * x → Ev (fun k => spec_slAll.l0 k p (n : Int) (A : Int) false acc (x : Int)) (acc ++ catF (fun x => enumS A d (p ++ [(x : Int)])) x e) := by
        intro e
        induction e with
        | zero =>
          intro x acc hx ha
          refine Ev.step (f := fun _ => some acc) (fun k => ?_) (Ev.const (by rw [catF, List.append_nil]))
          rw [spec_slAll.l0, if_neg (by omega)]
        | succ e ihe =>
          intro x acc hx ha
          have h1 := ih (p ++ [(x : Int)]) (by simp; omega) (hl.snoc (by omega))
          have hle := enumS_le h d (p ++ [(x : Int)]) (by simp; omega) (hl.snoc (by omega))
          rw [catF, ← List.append_assoc]
          refine Ev.step (f := ?f2) (fun k => ?h2) ?g2
          case h2 => rw [spec_slAll.l0, if_pos (by omega), own_eq p (by omega), Option.bind_some, if_pos (by omega), wrap_succ x (by omega)]
          exact Ev.bind h1 (Ev.pos (by omega) (ihe (x + 1) _ (by omega) (by rw [List.length_append]; omega)))
      refine Ev.step (f := ?f3) (fun k => ?h3) ?g3
      case h3 => rw [spec_slAll.j0, if_neg (by decide)]
      refine Ev.step (fun k => ?_) (loop A 0 [] (by omega) (by simp))
      rw [spec_slAll.j1]
      rfl
/-! ### how many -/
theorem power_fin : ∀ n : Fin 6, ∀ m : Fin 13, spec_slPower.f 60 ((m.1 : Int) + 1) (n.1 : Int) = some (((m.1 + 1 : Nat) : Int) ^ n.1) ∧ impl_power.f 60 ((m.1 : Int) + 1) (n.1 : Int) = some (((m.1 + 1 : Nat) : Int) ^ n.1) := by decide +kernel
theorem first_fin : ∀ n : Fin 6, ∀ m : Fin 13, ((m.1 + 1 : Nat) : Int) ^ n.1 = sways [] ((n.1 : Int) + 1) ((m.1 : Int) + 1) ∨ slope ((n.1 : Int) + 1) ((m.1 : Int) + 1) = false := by decide +kernel
theorem slPower_ev {n A : Nat} (h : slope (n : Int) (A : Int) = true) : Ev (fun k => spec_slPower.f k (A : Int) ((n : Int) - 1)) ((A : Int) ^ (n - 1)) := by
  have hin := slope_in h
  have e := (power_fin ⟨n - 1, by omega⟩ ⟨A - 1, by omega⟩).1
  simp only at e
  rw [show ((A - 1 + 1 : Nat) : Int) = (A : Int) by omega, show ((A - 1 : Nat) : Int) + 1 = (A : Int) by omega, show ((n - 1 : Nat) : Int) = (n : Int) - 1 by omega] at e
  exact Ev.of (k := 60) (fun k => spec_slPower.mono _ _ k) e
theorem power_ev {n A : Nat} (h : slope (n : Int) (A : Int) = true) : Ev (fun k => impl_power.f k (A : Int) ((n : Int) - 1)) ((A : Int) ^ (n - 1)) := by
  have hin := slope_in h
  have e := (power_fin ⟨n - 1, by omega⟩ ⟨A - 1, by omega⟩).2
  simp only at e
  rw [show ((A - 1 + 1 : Nat) : Int) = (A : Int) by omega, show ((A - 1 : Nat) : Int) + 1 = (A : Int) by omega, show ((n - 1 : Nat) : Int) = (n : Int) - 1 by omega] at e
  exact Ev.of (k := 60) (fun k => impl_power.mono _ _ k) e
theorem all_eq {n A : Nat} (h : slope (n : Int) (A : Int) = true) : (A : Int) ^ (n - 1) = ((enumS A n []).length : Int) := by
  have hin := slope_in h
  have e := first_fin ⟨n - 1, by omega⟩ ⟨A - 1, by omega⟩
  simp only at e
  rw [show ((A - 1 + 1 : Nat) : Int) = (A : Int) by omega, show ((A - 1 : Nat) : Int) + 1 = (A : Int) by omega, show ((n - 1 : Nat) : Int) + 1 = (n : Int) by omega, h] at e
  rw [← sways_eq h [] n (by simp) (fun x hx => by cases hx)]
  rcases e with e | e
  · exact e
  · cases e
theorem loop_ev {n A : Nat} (h : slope (n : Int) (A : Int) = true) : ∀ (d i : Nat), i + d = (enumS A n []).length → Ev (fun k => impl_AllSlope.l0 k (n : Int) (A : Int) ((enumS A n []).take i) ((enumS A n []).length : Int) (i : Int)) (enumS A n [], true) := by
  have hle := enumS_le h n [] (by simp) (fun x hx => by cases hx)
  intro d
  induction d with
  | zero =>
    intro i hi
    refine Ev.step (f := fun _ => some (enumS A n [], true)) (fun k => ?_) (Ev.now _)
    rw [impl_AllSlope.l0, if_neg (by omega), List.take_of_length_le (by omega)]
  | succ d ih =>
    intro i hi
    have h1 : i < (enumS A n []).length := by omega
    have h2 := at_ev h (enumS A n [])[i] n [] i (by simp) (fun x hx => by cases hx) (List.getElem?_eq_getElem h1)
    have h3 := ih (i + 1) (by omega)
    rw [List.take_succ_eq_append_getElem h1] at h3
    refine Ev.step (f := ?f1) (fun k => ?h1) ?g1
    case h1 => rw [impl_AllSlope.l0, if_pos (by omega), wrap_succ i (by omega)]
    refine Ev.bind (a := (enumS A n [])[i]) ?_ (Ev.pos (by simp; omega) h3)
    unfold impl_slopeAt.f
    exact h2
theorem both2 (a b : Int) : ∃ ws ok, (ws.length ≤ 1000000 ∧ (∀ x ∈ ws, x.length ≤ 1000) ∧ Ev (fun k => spec_AllSlope.f k a b) (ws, ok) ∧ Ev (fun k => impl_AllSlope.f k a b) (ws, ok)) ∧ (ok = true → ∃ n A : Nat, a = (n : Int) ∧ b = (A : Int) ∧ slope (n : Int) (A : Int) = true ∧ ws = enumS A n []) := by
  have h1 := slIs_ev a b
  have h2 := isSlope_ev a b
  unfold spec_AllSlope.f impl_AllSlope.f impl_CountSlope.f
  cases h : slope a b with
  | false =>
    rw [h] at h1 h2
    refine ⟨[], false, ⟨by simp, by simp, Ev.bind h1 (Ev.neg (by decide) (Ev.now _)), Ev.bind (Ev.bind h2 (Ev.neg (by decide) (Ev.now _))) (Ev.neg (by decide) (Ev.step (f := fun _ => some ([], false)) (fun k => ?_) (Ev.now _)))⟩, fun h => by cases h⟩
    rw [impl_AllSlope.j0, if_pos rfl]
  | true =>
    rw [h] at h1 h2
    have hin := slope_in h
    obtain ⟨n, rfl⟩ := Int.eq_ofNat_of_zero_le (show 0 ≤ a by omega)
    obtain ⟨A, rfl⟩ := Int.eq_ofNat_of_zero_le (show 0 ≤ b by omega)
    rw [wrap64_in ((n : Int) - 1) (by omega) (by omega)]
    have hs := slPower_ev h
    have hi := power_ev h
    rw [all_eq h] at hs hi
    by_cases h7 : ((enumS A n []).length : Int) > 700
    · refine ⟨[], false, ⟨by simp, by simp, Ev.bind h1 (Ev.pos rfl (Ev.bind hs (Ev.pos h7 (Ev.now _)))), Ev.bind (Ev.bind h2 (Ev.pos rfl (Ev.bind hi (Ev.now _)))) (Ev.pos rfl ?_)⟩, fun h => by cases h⟩
      rw [decide_eq_true h7]
      refine Ev.step (f := fun _ => some ([], false)) (fun k => ?_) (Ev.now _)
      rw [impl_AllSlope.j0, if_pos rfl]
    · refine ⟨enumS A n [], true, ⟨by omega, fun x hx => ?_, Ev.bind h1 (Ev.pos rfl (Ev.bind hs (Ev.neg h7 (Ev.bind (slAll_ev h n [] (by simp) (fun x hx => by cases hx)) (Ev.now _))))), Ev.bind (Ev.bind h2 (Ev.pos rfl (Ev.bind hi (Ev.now _)))) (Ev.pos rfl ?_)⟩, fun _ => ⟨n, A, rfl, rfl, h, rfl⟩⟩
      · obtain ⟨_, t, e, h5, _⟩ := enumS_mem A n [] x hx
        rw [e, List.nil_append]
        omega
      · rw [decide_eq_false h7]
        refine Ev.step (f := ?f1) (fun k => ?h1) ?g1
        case h1 => rw [impl_AllSlope.j0, if_neg (by decide)]
        have h3 := loop_ev h (enumS A n []).length 0 (by omega)
        rw [List.take_zero] at h3
        exact h3
theorem both (a b : Int) : ∃ ws ok, ws.length ≤ 1000000 ∧ (∀ x ∈ ws, x.length ≤ 1000) ∧ Ev (fun k => spec_AllSlope.f k a b) (ws, ok) ∧ Ev (fun k => impl_AllSlope.f k a b) (ws, ok) := by
  obtain ⟨ws, ok, h, _⟩ := both2 a b
  exact ⟨ws, ok, h⟩
end AllSlope
theorem FnExactAllSlope (a b : Int) : ∃ ws ok, ws.length ≤ 1000000 ∧ (∀ x ∈ ws, x.length ≤ 1000) ∧ (∃ k, spec_AllSlope.f k a b = some (ws, ok)) ∧ (∃ k, impl_AllSlope.f k a b = some (ws, ok)) := by
  obtain ⟨ws, ok, h1, h2, h3, h4⟩ := AllSlope.both a b
  exact ⟨ws, ok, h1, h2, Ev.rounds h3, Ev.rounds h4⟩
end Go.Proofs.Ytpcioeakogildaa.Pure
