/- What the printed helper functions of the laws come to: equal lists, marks, what is held, copies; and what the cars' functions of the program and of the reference come to. Conditions: lengths below 2^40. -/
import Derived.Test.YtcmpeimpddngbaaPAllx1
import Derived.Test.YtcmpeimpddngbaaPAllx2
import Derived.Test.YtcmpeimpddngbaaPAllx3
import Derived.Test.YtcmpeimpddngbaaPAllx6
import Derived.Test.YtcmpeimpddngbaaPAllx12
import Derived.Test.YtcmpeimpddngbaaPAllx15
import Derived.Test.YtcmpeimpddngbaaBaseA
namespace Go.Proofs.Ytcmpeimpddngbaa.Plain
open Go.RowKit Go.Proofs.YtcmpeimpddngbaaW.PrintWords Go.Proofs.YtcmpeimpddngbaaW.PrintLast Go.Proofs.Ytcmpeimpddngbaa.Hand Go.Proofs.Ytcmpeimpddngbaa.PAll
set_option linter.unusedVariables false

theorem eqIntS_l0 (a b : List Int) (hl : a.length = b.length) (hs : a.length ≤ 1099511627776) : ∀ (d n : Nat), n + d = a.length →
    Ev (fun k => laws_eqIntS.l0 k a b (n : Int)) (decide (a.drop n = b.drop n)) := by
  intro d
  induction d with
  | zero =>
    intro n hn
    refine Ev.step (f := fun _ => some true) (fun k => ?_) (Ev.const ?_)
    · rw [laws_eqIntS.l0, if_neg (by omega)]
    · rw [List.drop_eq_nil_of_le (by omega), List.drop_eq_nil_of_le (by omega)]
      simp
  | succ d ih =>
    intro n hn
    have h1 : n < a.length := by omega
    have h2 : n < b.length := by omega
    have e : (decide (a.drop n = b.drop n)) = (decide (a[n] = b[n]) && decide (a.drop (n + 1) = b.drop (n + 1))) := by
      rw [List.drop_eq_getElem_cons h1, List.drop_eq_getElem_cons h2]
      exact cons_eq _ _ _ _
    rw [e]
    by_cases hx : a[n] = b[n]
    · rw [decide_eq_true hx, Bool.true_and]
      refine Ev.step (f := fun k => laws_eqIntS.l0 k a b ((n + 1 : Nat) : Int)) (fun k => ?_) (ih (n + 1) (by omega))
      rw [laws_eqIntS.l0, if_pos (by omega), if_pos (by omega), if_pos (by omega), rd_nat a n h1, rd_nat b n h2, if_pos hx, wrap_succ n (by omega)]
    · rw [decide_eq_false hx, Bool.false_and]
      refine Ev.step (f := fun _ => some false) (fun k => ?_) (Ev.const rfl)
      rw [laws_eqIntS.l0, if_pos (by omega), if_pos (by omega), if_pos (by omega), rd_nat a n h1, rd_nat b n h2, if_neg hx]

theorem eqIntS_ev (a b : List Int) (hs : a.length ≤ 1099511627776) : Ev (fun k => laws_eqIntS.f k a b) (decide (a = b)) := by
  unfold laws_eqIntS.f
  by_cases hl : a.length = b.length
  · refine Ev.pos (by omega) ?_
    have h := eqIntS_l0 a b hl hs a.length 0 (by omega)
    rw [List.drop_zero, List.drop_zero] at h
    exact h
  · refine Ev.neg (by omega) (Ev.const ?_)
    rw [decide_eq_false (fun e => hl (by rw [e]))]
theorem eqIntS_same (a : List Int) (hs : a.length ≤ 1099511627776) : Ev (fun k => laws_eqIntS.f k a a) true := by
  have h := eqIntS_ev a a hs
  rwa [decide_eq_true rfl] at h

theorem markIntS_l0 (l : List Int) (s : Int) (h0 : 0 ≤ s) (h1 : s ≤ 1099511627776) (hs : l.length ≤ 1099511627776) : ∀ (d n : Nat), n + d = l.length →
    Ev (fun k => laws_markIntS.l0 k (iota s n ++ l.drop n) (s + (n : Int)) (n : Int)) (s + (l.length : Int), iota s l.length) := by
  intro d
  induction d with
  | zero =>
    intro n hn
    have e : n = l.length := by omega
    subst e
    refine Ev.step (f := fun _ => some (s + (l.length : Int), iota s l.length)) (fun k => ?_) (Ev.const rfl)
    rw [laws_markIntS.l0, List.drop_length, List.append_nil, if_neg (by rw [iota_length]; omega)]
  | succ d ih =>
    intro n hn
    have hn2 : n < l.length := by omega
    have e : (iota s n ++ l.drop n).set n (s + (n : Int)) = iota s (n + 1) ++ l.drop (n + 1) := by
      rw [List.drop_eq_getElem_cons hn2, iota_succ, List.set_append_right _ _ (by rw [iota_length]; omega), iota_length, Nat.sub_self, List.set_cons_zero, List.append_assoc]
      rfl
    refine Ev.step (f := fun k => laws_markIntS.l0 k (iota s (n + 1) ++ l.drop (n + 1)) (s + ((n + 1 : Nat) : Int)) ((n + 1 : Nat) : Int)) (fun k => ?_) (ih (n + 1) (by omega))
    rw [laws_markIntS.l0, if_pos (by rw [List.length_append, iota_length, List.length_drop]; omega), if_pos (by omega), Int.toNat_natCast, e, wrap_succ n (by omega), wrap64_in (s + (n : Int) + 1) (by omega) (by omega)]
    congr 1
    omega
theorem markIntS_ev (l : List Int) (s : Int) (h0 : 0 ≤ s) (h1 : s ≤ 1099511627776) (hs : l.length ≤ 1099511627776) :
    Ev (fun k => laws_markIntS.f k l s) (s + (l.length : Int), iota s l.length) := by
  unfold laws_markIntS.f
  have h := markIntS_l0 l s h0 h1 hs l.length 0 (by omega)
  simpa [iota] using h

theorem heldIntS_l0 (s : Int) (m : Nat) (h0 : 0 ≤ s) (h1 : s ≤ 1099511627776) (hs : m ≤ 1099511627776) : ∀ (d n : Nat), n + d = m →
    Ev (fun k => laws_heldIntS.l0 k (iota s m) (s + (n : Int)) (n : Int)) (s + (m : Int)) := by
  intro d
  induction d with
  | zero =>
    intro n hn
    have e : n = m := by omega
    subst e
    refine Ev.step (f := fun _ => some (s + (n : Int))) (fun k => ?_) (Ev.const rfl)
    rw [laws_heldIntS.l0, if_neg (by rw [iota_length]; omega)]
  | succ d ih =>
    intro n hn
    refine Ev.step (f := fun k => laws_heldIntS.l0 k (iota s m) (s + ((n + 1 : Nat) : Int)) ((n + 1 : Nat) : Int)) (fun k => ?_) (ih (n + 1) (by omega))
    rw [laws_heldIntS.l0, if_pos (by rw [iota_length]; omega), if_pos (by omega), rd_nat _ n (by rw [iota_length]; omega), iota_get, if_pos rfl, wrap_succ n (by omega), wrap64_in (s + (n : Int) + 1) (by omega) (by omega)]
    congr 1
    omega
theorem heldIntS_ev (s : Int) (m : Nat) (h0 : 0 ≤ s) (h1 : s ≤ 1099511627776) (hs : m ≤ 1099511627776) :
    Ev (fun k => laws_heldIntS.f k (iota s m) s) (s + (m : Int)) := by
  unfold laws_heldIntS.f
  have h := heldIntS_l0 s m h0 h1 hs m 0 (by omega)
  simpa using h

theorem toIntS_l0 (l : List Int) (hs : l.length ≤ 1099511627776) : ∀ (d n : Nat), n + d = l.length →
    Ev (fun k => laws_toIntS.l0 k l (l.take n ++ List.replicate (l.length - n) 0) (n : Int)) l := by
  intro d
  induction d with
  | zero =>
    intro n hn
    refine Ev.step (f := fun _ => some l) (fun k => ?_) (Ev.const rfl)
    rw [laws_toIntS.l0, if_neg (by omega), List.take_of_length_le (by omega), show l.length - n = 0 by omega, List.replicate_zero, List.append_nil]
  | succ d ih =>
    intro n hn
    have hn2 : n < l.length := by omega
    have e : (l.take n ++ List.replicate (l.length - n) (0 : Int)).set n l[n] = l.take (n + 1) ++ List.replicate (l.length - (n + 1)) 0 := by
      rw [List.set_append_right _ _ (by rw [List.length_take]; omega), List.length_take, Nat.min_eq_left (by omega), Nat.sub_self, show l.length - n = (l.length - (n + 1)) + 1 by omega, List.replicate_succ, List.set_cons_zero, List.take_succ_eq_append_getElem hn2, List.append_assoc]
      rfl
    refine Ev.step (f := fun k => laws_toIntS.l0 k l (l.take (n + 1) ++ List.replicate (l.length - (n + 1)) 0) ((n + 1 : Nat) : Int)) (fun k => ?_) (ih (n + 1) (by omega))
    rw [laws_toIntS.l0, if_pos (by omega), if_pos (by omega), if_pos (by rw [List.length_append, List.length_take, List.length_replicate]; omega), Int.toNat_natCast, rd_nat l n hn2, e, wrap_succ n (by omega)]
theorem toIntS_ev (l : List Int) (hs : l.length ≤ 1099511627776) : Ev (fun k => laws_toIntS.f k l) l := by
  unfold laws_toIntS.f
  refine Ev.pos (by omega) (Ev.pos (by omega) ?_)
  have h := toIntS_l0 l hs l.length 0 (by omega)
  simpa using h

theorem l1In_eq (a lo hi : Int) : spec_l1In.f a lo hi = some (decide (lo ≤ a ∧ a ≤ hi)) := by
  unfold spec_l1In.f
  by_cases h : lo ≤ a
  · rw [if_pos h]; simp [h]
  · rw [if_neg h]; simp [h]
theorem between_eq (a lo hi : Int) : impl_between.f a lo hi = some (decide (lo ≤ a ∧ a ≤ hi)) := by
  unfold impl_between.f
  by_cases h : lo ≤ a
  · rw [if_pos h]; simp [h]
  · rw [if_neg h]; simp [h]

theorem l1All_l0 (l : List Int) (lo hi : Int) (hs : l.length ≤ 1099511627776) : ∀ (d n : Nat), n + d = l.length →
    Ev (fun k => spec_l1All.l0 k lo hi l (l.length : Int) (n : Int)) ((l.drop n).all fun x => decide (lo ≤ x ∧ x ≤ hi)) := by
  intro d
  induction d with
  | zero =>
    intro n hn
    refine Ev.step (f := fun _ => some true) (fun k => ?_) (Ev.const ?_)
    · rw [spec_l1All.l0, if_neg (by omega)]
    · rw [List.drop_eq_nil_of_le (by omega)]
      rfl
  | succ d ih =>
    intro n hn
    have h1 : n < l.length := by omega
    rw [List.drop_eq_getElem_cons h1, List.all_cons]
    by_cases hx : lo ≤ l[n] ∧ l[n] ≤ hi
    · rw [decide_eq_true hx, Bool.true_and]
      refine Ev.step (f := fun k => spec_l1All.l0 k lo hi l (l.length : Int) ((n + 1 : Nat) : Int)) (fun k => ?_) (ih (n + 1) (by omega))
      rw [spec_l1All.l0, if_pos (by omega), if_pos (by omega), if_pos (by omega), rd_nat l n h1, l1In_eq, decide_eq_true hx, Option.bind_some, if_pos rfl, wrap_succ n (by omega)]
    · rw [decide_eq_false hx, Bool.false_and]
      refine Ev.step (f := fun _ => some false) (fun k => ?_) (Ev.const rfl)
      rw [spec_l1All.l0, if_pos (by omega), if_pos (by omega), if_pos (by omega), rd_nat l n h1, l1In_eq, decide_eq_false hx, Option.bind_some, if_neg (by decide)]
theorem l1All_ev (l : List Int) (lo hi : Int) (hs : l.length ≤ 1099511627776) : Ev (fun k => spec_l1All.f k l lo hi) (l.all fun x => decide (lo ≤ x ∧ x ≤ hi)) := by
  unfold spec_l1All.f
  have h := l1All_l0 l lo hi hs l.length 0 (by omega)
  rwa [List.drop_zero] at h

theorem l1Has_l0 (l : List Int) (x : Int) (hs : l.length ≤ 1099511627776) : ∀ (d n : Nat), n + d = l.length →
    Ev (fun k => spec_l1Has.l0 k x l (l.length : Int) (n : Int)) (decide (x ∈ l.drop n)) := by
  intro d
  induction d with
  | zero =>
    intro n hn
    refine Ev.step (f := fun _ => some false) (fun k => ?_) (Ev.const ?_)
    · rw [spec_l1Has.l0, if_neg (by omega)]
    · rw [List.drop_eq_nil_of_le (by omega)]
      rfl
  | succ d ih =>
    intro n hn
    have h1 : n < l.length := by omega
    rw [List.drop_eq_getElem_cons h1]
    by_cases hx : l[n] = x
    · rw [decide_eq_true (by rw [hx]; exact List.mem_cons_self)]
      refine Ev.step (f := fun _ => some true) (fun k => ?_) (Ev.const rfl)
      rw [spec_l1Has.l0, if_pos (by omega), if_pos (by omega), if_pos (by omega), rd_nat l n h1, if_pos hx]
    · rw [mem_skip _ hx]
      refine Ev.step (f := fun k => spec_l1Has.l0 k x l (l.length : Int) ((n + 1 : Nat) : Int)) (fun k => ?_) (ih (n + 1) (by omega))
      rw [spec_l1Has.l0, if_pos (by omega), if_pos (by omega), if_pos (by omega), rd_nat l n h1, if_neg hx, wrap_succ n (by omega)]
theorem l1Has_ev (l : List Int) (x : Int) (hs : l.length ≤ 1099511627776) : Ev (fun k => spec_l1Has.f k l x) (decide (x ∈ l)) := by
  unfold spec_l1Has.f
  have h := l1Has_l0 l x hs l.length 0 (by omega)
  rwa [List.drop_zero] at h

/-- Favourites for a street. -/
def good (l : List Int) (p : Int) : Bool := decide (1 ≤ p ∧ p ≤ 12) && (decide (l.length ≤ 8) && l.all fun x => decide (0 ≤ x ∧ x ≤ p - 1))
theorem paGood_ev (l : List Int) (p : Int) : Ev (fun k => spec_paGood.f k l p) (good l p) := by
  unfold spec_paGood.f
  refine Ev.bindc (a := decide (1 ≤ p ∧ p ≤ 12)) (by unfold spec_paStreet.f; rw [l1In_eq]; rfl) ?_
  unfold good
  by_cases h1 : 1 ≤ p ∧ p ≤ 12
  · rw [decide_eq_true h1, Bool.true_and]
    refine Ev.pos rfl ?_
    by_cases h2 : l.length ≤ 8
    · rw [decide_eq_true h2, Bool.true_and]
      refine Ev.pos (by omega) ?_
      rw [wrap64_in (p - 1) (by omega) (by omega)]
      exact Ev.bind (l1All_ev l 0 (p - 1) (by omega)) (Ev.now _)
    · rw [decide_eq_false h2, Bool.false_and]
      exact Ev.neg (by omega) (Ev.now _)
  · rw [decide_eq_false h1, Bool.false_and]
    exact Ev.neg (by decide) (Ev.now _)
theorem areFav_eq (l : List Int) (p : Int) : impl_AreFavourites.f l p = some (good l p) := by
  unfold impl_AreFavourites.f good
  rw [between_eq, Option.bind_some]
  by_cases h1 : 1 ≤ p ∧ p ≤ 12
  · rw [decide_eq_true h1, Bool.true_and, if_pos rfl]
    by_cases h2 : l.length ≤ 8
    · rw [decide_eq_true h2, Bool.true_and, if_pos (by omega), wrap64_in (p - 1) (by omega) (by omega)]
      rfl
    · rw [decide_eq_false h2, Bool.false_and, if_neg (by omega)]
  · rw [decide_eq_false h1, Bool.false_and, if_neg (by decide)]
theorem good_places {l : List Int} {p : Int} (h : good l p = true) : 1 ≤ p ∧ p ≤ 12 := by
  unfold good at h
  simp only [Bool.and_eq_true, decide_eq_true_eq] at h
  exact h.1
theorem good_cars {l : List Int} {p : Int} (h : good l p = true) : l.length ≤ 8 := by
  unfold good at h
  simp only [Bool.and_eq_true, decide_eq_true_eq] at h
  exact h.2.1
theorem good_in {l : List Int} {p : Int} (h : good l p = true) : ∀ x ∈ l, 0 ≤ x ∧ x < p := by
  unfold good at h
  simp only [Bool.and_eq_true, decide_eq_true_eq, List.all_eq_true] at h
  intro x hx
  have := h.2.2 x hx
  omega

/-- The reference's drive. -/
theorem paDrive_l (p : Int) (l0 : List Int) (hp0 : 0 ≤ p) (hp : p ≤ 1000) (hs : l0.length ≤ 1000) : ∀ (xs out : List Int) (n : Nat), l0.drop n = xs → out.length = n → n ≤ l0.length → (∀ x ∈ l0, 0 ≤ x ∧ x ≤ 1000) →
    Ev (fun k => spec_paDrive.l0 k p out l0 (l0.length : Int) (n : Int)) (sdrive p out xs) := by
  intro xs
  induction xs with
  | nil =>
    intro out n hd ho hn hx
    have e : n = l0.length := by
      have := congrArg List.length hd
      rw [List.length_drop] at this
      simp at this
      omega
    refine Ev.step (f := fun _ => some out) (fun k => ?_) (Ev.const rfl)
    rw [spec_paDrive.l0, if_neg (by omega)]
  | cons x xs ih =>
    intro out n hd ho hn hx
    have h1 : n < l0.length := by
      have := congrArg List.length hd
      rw [List.length_drop] at this
      simp at this
      omega
    have h2 := List.drop_eq_getElem_cons h1
    rw [hd] at h2
    injection h2 with hxe hxs
    have hx0 := hx l0[n] (List.getElem_mem h1)
    rw [sdrive]
    have next : ∀ y : Int, y = nf p out (p - x).toNat x → Ev (fun k => spec_paDrive.l0 k p (out ++ [told p y]) l0 (l0.length : Int) ((n + 1 : Nat) : Int)) (sdrive p (out ++ [told p (nf p out (p - x).toNat x)]) xs) := by
      intro y hy
      rw [hy]
      exact ih _ (n + 1) hxs.symm (by simp [ho]) (by omega) hx
    have inner : ∀ (d : Nat) (y : Int), (p - y).toNat = d → 0 ≤ y → y ≤ 1000 → nf p out d y = nf p out (p - x).toNat x →
        Ev (fun k => spec_paDrive.l1 k p out y l0 (l0.length : Int) (n : Int)) (sdrive p (out ++ [told p (nf p out (p - x).toNat x)]) xs) := by
      intro d
      induction d with
      | zero =>
        intro y hyd hy0 hy1 he
        refine Ev.step (f := fun k => spec_paDrive.l0 k p (out ++ [told p y]) l0 (l0.length : Int) ((n + 1 : Nat) : Int)) (fun k => ?_) (next y he)
        rw [spec_paDrive.l1, if_neg (by omega), if_pos (by omega), if_pos (by omega), wrap_succ n (by omega)]
        unfold told
        rw [if_pos (by omega)]
      | succ d ihd =>
        intro y hyd hy0 hy1 he
        rw [nf] at he
        refine Ev.step (f := ?f) (fun k => ?h) ?g
        case h => rw [spec_paDrive.l1, if_pos (by omega)]
        refine Ev.bind (l1Has_ev out y (by omega)) ?_
        by_cases hm : y ∈ out
        · rw [if_pos ⟨by omega, hm⟩] at he
          rw [decide_eq_true hm, wrap64_in (y + 1) (by omega) (by omega)]
          exact Ev.pos rfl (ihd (y + 1) (by omega) (by omega) (by omega) he)
        · rw [if_neg (fun h => hm h.2)] at he
          rw [decide_eq_false hm]
          refine Ev.neg (by decide) (Ev.neg (by omega) (Ev.pos (by omega) ?_))
          have h3 := next y he
          unfold told at h3
          rw [if_neg (by omega)] at h3
          rw [wrap_succ n (by omega)]
          exact h3
    refine Ev.step (f := fun k => spec_paDrive.l1 k p out x l0 (l0.length : Int) (n : Int)) (fun k => ?_) (inner _ x rfl (by omega) (by omega) rfl)
    rw [spec_paDrive.l0, if_pos (by omega), if_pos (by omega), if_pos (by omega), rd_nat l0 n h1, hxe]
theorem paDrive_ev (l : List Int) (p : Int) (h : good l p = true) : Ev (fun k => spec_paDrive.f k l p) (sdrive p [] l) := by
  have h1 := good_places h
  have h2 := good_cars h
  unfold spec_paDrive.f
  exact paDrive_l p l (by omega) (by omega) (by omega) l [] 0 rfl rfl (by omega) (fun x hx => by have := good_in h x hx; omega)
theorem paAll_ev (l : List Int) (p : Int) (h : good l p = true) : Ev (fun k => spec_paAll.f k l p) (!decide ((-1 : Int) ∈ sdrive p [] l)) := by
  unfold spec_paAll.f
  refine Ev.bind (paDrive_ev l p h) (Ev.bind (l1Has_ev _ _ ?_) (Ev.now _))
  have := good_cars h
  rw [sdrive_length]
  simp
  omega

/-- Which places are taken, as an array. -/
def taken (p : Nat) (out : List Int) : List Bool := (List.range p).map fun i : Nat => decide ((i : Int) ∈ out)
theorem taken_length (p : Nat) (out : List Int) : (taken p out).length = p := by simp [taken]
theorem taken_at (p : Nat) (out : List Int) (y : Int) (h0 : 0 ≤ y) (h1 : y < p) : rdOf false (taken p out) y = decide (y ∈ out) := by
  unfold rdOf taken
  rw [List.getD_eq_getElem?_getD, List.getElem?_eq_getElem (by simp; omega)]
  simp
  rw [show (max y 0) = y by omega]
theorem taken_set (p : Nat) (out : List Int) (y : Int) (h0 : 0 ≤ y) (h1 : y < p) : (taken p out).set y.toNat true = taken p (out ++ [y]) := by
  apply List.ext_getElem
  · simp [taken]
  · intro i hi1 hi2
    rw [List.getElem_set]
    simp only [taken, List.getElem_map, List.getElem_range]
    by_cases e : y.toNat = i
    · rw [if_pos e]
      have : (i : Int) = y := by omega
      simp [this]
    · rw [if_neg e]
      have : ¬ (i : Int) = y := by omega
      simp [this]
theorem drive_l (p : Nat) (l0 : List Int) (hp : p ≤ 1000) (hs : l0.length ≤ 1000) : ∀ (xs out : List Int) (n : Nat), l0.drop n = xs → out.length = n → n ≤ l0.length → (∀ x ∈ l0, 0 ≤ x ∧ x ≤ 1000) →
    Ev (fun k => impl_drive.l0 k (p : Int) (taken p out) out l0 (l0.length : Int) (n : Int)) (((idrive p out xs).getD [], (idrive p out xs).isSome)) := by
  intro xs
  induction xs with
  | nil =>
    intro out n hd ho hn hx
    have e : n = l0.length := by
      have := congrArg List.length hd
      rw [List.length_drop] at this
      simp at this
      omega
    refine Ev.step (f := fun _ => some (out, true)) (fun k => ?_) (Ev.const rfl)
    rw [impl_drive.l0, if_neg (by omega)]
  | cons x xs ih =>
    intro out n hd ho hn hx
    have h1 : n < l0.length := by
      have := congrArg List.length hd
      rw [List.length_drop] at this
      simp at this
      omega
    have h2 := List.drop_eq_getElem_cons h1
    rw [hd] at h2
    injection h2 with hxe hxs
    have hx0 := hx l0[n] (List.getElem_mem h1)
    rw [idrive]
    have inner : ∀ (d : Nat) (y : Int), ((p : Int) - y).toNat = d → 0 ≤ y → y ≤ 1000 → nf p out d y = nf p out ((p : Int) - x).toNat x →
        Ev (fun k => impl_drive.l1 k (p : Int) (taken p out) out y l0 (l0.length : Int) (n : Int))
          (((if (p : Int) ≤ nf p out ((p : Int) - x).toNat x then none else idrive p (out ++ [nf p out ((p : Int) - x).toNat x]) xs).getD [], (if (p : Int) ≤ nf p out ((p : Int) - x).toNat x then none else idrive p (out ++ [nf p out ((p : Int) - x).toNat x]) xs).isSome)) := by
      intro d
      induction d with
      | zero =>
        intro y hyd hy0 hy1 he
        rw [nf] at he
        rw [← he, if_pos (by omega)]
        refine Ev.step (f := fun _ => some ([], false)) (fun k => ?_) (Ev.const rfl)
        rw [impl_drive.l1, if_neg (by omega), if_pos (by omega)]
      | succ d ihd =>
        intro y hyd hy0 hy1 he
        rw [nf] at he
        by_cases hm : y ∈ out
        · rw [if_pos ⟨by omega, hm⟩] at he
          refine Ev.step (f := fun k => impl_drive.l1 k (p : Int) (taken p out) out (y + 1) l0 (l0.length : Int) (n : Int)) (fun k => ?_) (ihd (y + 1) (by omega) (by omega) (by omega) he)
          rw [impl_drive.l1, if_pos (by omega), if_pos (by omega), if_pos (by rw [taken_length]; omega), taken_at p out y hy0 (by omega), decide_eq_true hm, if_pos rfl, wrap64_in (y + 1) (by omega) (by omega)]
        · rw [if_neg (fun h => hm h.2)] at he
          rw [← he, if_neg (by omega)]
          refine Ev.step (f := fun k => impl_drive.l0 k (p : Int) (taken p (out ++ [y])) (out ++ [y]) l0 (l0.length : Int) ((n + 1 : Nat) : Int)) (fun k => ?_) (ih _ (n + 1) hxs.symm (by simp [ho]) (by omega) hx)
          rw [impl_drive.l1, if_pos (by omega), if_pos (by omega), if_pos (by rw [taken_length]; omega), taken_at p out y hy0 (by omega), decide_eq_false hm, if_neg (by decide), if_neg (by omega), if_pos (by omega), taken_set p out y hy0 (by omega), wrap_succ n (by omega)]
    refine Ev.step (f := fun k => impl_drive.l1 k (p : Int) (taken p out) out x l0 (l0.length : Int) (n : Int)) (fun k => ?_) (inner _ x rfl (by omega) (by omega) rfl)
    rw [impl_drive.l0, if_pos (by omega), if_pos (by omega), if_pos (by omega), rd_nat l0 n h1, hxe]
theorem drive_ev (l : List Int) (p : Int) (hp0 : 0 ≤ p) (hp : p ≤ 1000) (hs : l.length ≤ 1000) (hx : ∀ x ∈ l, 0 ≤ x ∧ x ≤ 1000) :
    Ev (fun k => impl_drive.f k l p) (if (-1 : Int) ∈ sdrive p [] l then ([], false) else (sdrive p [] l, true)) := by
  obtain ⟨m, rfl⟩ := Int.eq_ofNat_of_zero_le hp0
  unfold impl_drive.f
  refine Ev.pos (by omega) (Ev.pos (by omega) ?_)
  have h := drive_l m l (by omega) hs l [] 0 rfl rfl (by omega) hx
  rw [drives (m : Int) l [] (fun x h => (hx x h).1) (by simp)] at h
  have e : (List.replicate ((m : Int)).toNat false) = taken m [] := by
    rw [Int.toNat_natCast]
    apply List.ext_getElem
    · simp [taken]
    · intro i h1 h2
      simp [taken]
  rw [e]
  by_cases hm : (-1 : Int) ∈ sdrive (m : Int) [] l
  · rw [if_pos hm] at h ⊢
    exact h
  · rw [if_neg hm] at h ⊢
    exact h
end Go.Proofs.Ytcmpeimpddngbaa.Plain
