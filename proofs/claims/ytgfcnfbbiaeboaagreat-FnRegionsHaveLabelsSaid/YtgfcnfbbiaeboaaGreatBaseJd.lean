/- What the cars' functions of the program and of the reference come to. Conditions: lengths below 2^40. -/
import Derived.Test.YtgfcnfbbiaeboaaGreatPAllx1
import Derived.Test.YtgfcnfbbiaeboaaGreatPAllx2
import Derived.Test.YtgfcnfbbiaeboaaGreatBaseE
import Derived.Test.YtgfcnfbbiaeboaaGreatBaseH
import Derived.Test.YtgfcnfbbiaeboaaGreatPAllx3
import Derived.Test.YtgfcnfbbiaeboaaGreatBaseA
import Derived.Test.YtgfcnfbbiaeboaaGreatBaseX
namespace Go.Proofs.YtgfcnfbbiaeboaaGreat.Plain
open Go.RowKit Go.Proofs.YtgfcnfbbiaeboaaGreatW.PrintWords Go.Proofs.YtgfcnfbbiaeboaaGreatW.PrintLast Go.Proofs.YtgfcnfbbiaeboaaGreat.Hand Go.Proofs.YtgfcnfbbiaeboaaGreat.PAll
set_option linter.unusedVariables false

/-- The reference's drive. -/
theorem paDrive_l (p : Int) (l0 : List Int) (hp0 : 0 ≤ p) (hp : p ≤ 1000) (hs : l0.length ≤ 1000) : ∀ (xs out : List Int) (n : Nat), l0.drop n = xs → out.length = n → n ≤ l0.length → (∀ x ∈ l0, 0 ≤ x ∧ x ≤ 1000) →
    Ev (fun k => spec_paDrive.l0 k p out l0 (l0.length : Int) (n : Int)) (sdrive p out xs) := by
  intro xs
  induction xs with
  | nil =>
    intro out n hd ho hn hx
    have e : n = l0.length := by
      have := congrArg List.length hd
      rw [List.length_drop] at this
      simp at this
      omega
    refine Ev.step (f := fun _ => some out) (fun k => ?_) (Ev.const rfl)
    rw [spec_paDrive.l0, if_neg (by omega)]
  | cons x xs ih =>
    intro out n hd ho hn hx
    have h1 : n < l0.length := by
      have := congrArg List.length hd
      rw [List.length_drop] at this
      simp at this
      omega
    have h2 := List.drop_eq_getElem_cons h1
    rw [hd] at h2
    injection h2 with hxe hxs
    have hx0 := hx l0[n] (List.getElem_mem h1)
    rw [sdrive]
    have next : ∀ y : Int, y = nf p out (p - x).toNat x → Ev (fun k => spec_paDrive.l0 k p (out ++ [told p y]) l0 (l0.length : Int) ((n + 1 : Nat) : Int)) (sdrive p (out ++ [told p (nf p out (p - x).toNat x)]) xs) := by
      intro y hy
      rw [hy]
      exact ih _ (n + 1) hxs.symm (by simp [ho]) (by omega) hx
    have inner : ∀ (d : Nat) (y : Int), (p - y).toNat = d → 0 ≤ y → y ≤ 1000 → nf p out d y = nf p out (p - x).toNat x →
        Ev (fun k => spec_paDrive.l1 k p out y l0 (l0.length : Int) (n : Int)) (sdrive p (out ++ [told p (nf p out (p - x).toNat x)]) xs) := by
      intro d
      induction d with
      | zero =>
        intro y hyd hy0 hy1 he
        refine Ev.step (f := fun k => spec_paDrive.l0 k p (out ++ [told p y]) l0 (l0.length : Int) ((n + 1 : Nat) : Int)) (fun k => ?_) (next y he)
        rw [spec_paDrive.l1, if_neg (by omega), if_pos (by omega), if_pos (by omega), wrap_succ n (by omega)]
        unfold told
        rw [if_pos (by omega)]
      | succ d ihd =>
        intro y hyd hy0 hy1 he
        rw [nf] at he
        refine Ev.step (f := ?f) (fun k => ?h) ?g
        case h => rw [spec_paDrive.l1, if_pos (by omega)]
        refine Ev.bind (l1Has_ev out y (by omega)) ?_
        by_cases hm : y ∈ out
        · rw [if_pos ⟨by omega, hm⟩] at he
          rw [decide_eq_true hm, wrap64_in (y + 1) (by omega) (by omega)]
          exact Ev.pos rfl (ihd (y + 1) (by omega) (by omega) (by omega) he)
        · rw [if_neg (fun h => hm h.2)] at he
          rw [decide_eq_false hm]
          refine Ev.neg (by decide) (Ev.neg (by omega) (Ev.pos (by omega) ?_))
          have h3 := next y he
          unfold told at h3
          rw [if_neg (by omega)] at h3
          rw [wrap_succ n (by omega)]
          exact h3
    refine Ev.step (f := fun k => spec_paDrive.l1 k p out x l0 (l0.length : Int) (n : Int)) (fun k => ?_) (inner _ x rfl (by omega) (by omega) rfl)
    rw [spec_paDrive.l0, if_pos (by omega), if_pos (by omega), if_pos (by omega), rd_nat l0 n h1, hxe]
/-- Which places are taken, as an array. -/
def taken (p : Nat) (out : List Int) : List Bool := (List.range p).map fun i : Nat => decide ((i : Int) ∈ out)
theorem taken_length (p : Nat) (out : List Int) : (taken p out).length = p := by simp [taken]
theorem taken_at (p : Nat) (out : List Int) (y : Int) (h0 : 0 ≤ y) (h1 : y < p) : rdOf false (taken p out) y = decide (y ∈ out) := by
  unfold rdOf taken
  rw [List.getD_eq_getElem?_getD, List.getElem?_eq_getElem (by simp; omega)]
  simp
  rw [show (max y 0) = y by omega]
theorem taken_set (p : Nat) (out : List Int) (y : Int) (h0 : 0 ≤ y) (h1 : y < p) : (taken p out).set y.toNat true = taken p (out ++ [y]) := by
  apply List.ext_getElem
  · simp [taken]
  · intro i hi1 hi2
    rw [List.getElem_set]
    simp only [taken, List.getElem_map, List.getElem_range]
    by_cases e : y.toNat = i
    · rw [if_pos e]
      have : (i : Int) = y := by omega
      simp [this]
    · rw [if_neg e]
      have : ¬ (i : Int) = y := by omega
      simp [this]
theorem drive_l (p : Nat) (l0 : List Int) (hp : p ≤ 1000) (hs : l0.length ≤ 1000) : ∀ (xs out : List Int) (n : Nat), l0.drop n = xs → out.length = n → n ≤ l0.length → (∀ x ∈ l0, 0 ≤ x ∧ x ≤ 1000) →
    Ev (fun k => impl_drive.l0 k (p : Int) (taken p out) out l0 (l0.length : Int) (n : Int)) (((idrive p out xs).getD [], (idrive p out xs).isSome)) := by
  intro xs
  induction xs with
  | nil =>
    intro out n hd ho hn hx
    have e : n = l0.length := by
      have := congrArg List.length hd
      rw [List.length_drop] at this
      simp at this
      omega
    refine Ev.step (f := fun _ => some (out, true)) (fun k => ?_) (Ev.const rfl)
    rw [impl_drive.l0, if_neg (by omega)]
  | cons x xs ih =>
    intro out n hd ho hn hx
    have h1 : n < l0.length := by
      have := congrArg List.length hd
      rw [List.length_drop] at this
      simp at this
      omega
    have h2 := List.drop_eq_getElem_cons h1
    rw [hd] at h2
    injection h2 with hxe hxs
    have hx0 := hx l0[n] (List.getElem_mem h1)
    rw [idrive]
    have inner : ∀ (d : Nat) (y : Int), ((p : Int) - y).toNat = d → 0 ≤ y → y ≤ 1000 → nf p out d y = nf p out ((p : Int) - x).toNat x →
        Ev (fun k => impl_drive.l1 k (p : Int) (taken p out) out y l0 (l0.length : Int) (n : Int))
          (((if (p : Int) ≤ nf p out ((p : Int) - x).toNat x then none else idrive p (out ++ [nf p out ((p : Int) - x).toNat x]) xs).getD [], (if (p : Int) ≤ nf p out ((p : Int) - x).toNat x then none else idrive p (out ++ [nf p out ((p : Int) - x).toNat x]) xs).isSome)) := by
      intro d
      induction d with
      | zero =>
        intro y hyd hy0 hy1 he
        rw [nf] at he
        rw [← he, if_pos (by omega)]
        refine Ev.step (f := fun _ => some ([], false)) (fun k => ?_) (Ev.const rfl)
        rw [impl_drive.l1, if_neg (by omega), if_pos (by omega)]
      | succ d ihd =>
        intro y hyd hy0 hy1 he
        rw [nf] at he
        by_cases hm : y ∈ out
        · rw [if_pos ⟨by omega, hm⟩] at he
          refine Ev.step (f := fun k => impl_drive.l1 k (p : Int) (taken p out) out (y + 1) l0 (l0.length : Int) (n : Int)) (fun k => ?_) (ihd (y + 1) (by omega) (by omega) (by omega) he)
          rw [impl_drive.l1, if_pos (by omega), if_pos (by omega), if_pos (by rw [taken_length]; omega), taken_at p out y hy0 (by omega), decide_eq_true hm, if_pos rfl, wrap64_in (y + 1) (by omega) (by omega)]
        · rw [if_neg (fun h => hm h.2)] at he
          rw [← he, if_neg (by omega)]
          refine Ev.step (f := fun k => impl_drive.l0 k (p : Int) (taken p (out ++ [y])) (out ++ [y]) l0 (l0.length : Int) ((n + 1 : Nat) : Int)) (fun k => ?_) (ih _ (n + 1) hxs.symm (by simp [ho]) (by omega) hx)
          rw [impl_drive.l1, if_pos (by omega), if_pos (by omega), if_pos (by rw [taken_length]; omega), taken_at p out y hy0 (by omega), decide_eq_false hm, if_neg (by decide), if_neg (by omega), if_pos (by omega), taken_set p out y hy0 (by omega), wrap_succ n (by omega)]
    refine Ev.step (f := fun k => impl_drive.l1 k (p : Int) (taken p out) out x l0 (l0.length : Int) (n : Int)) (fun k => ?_) (inner _ x rfl (by omega) (by omega) rfl)
    rw [impl_drive.l0, if_pos (by omega), if_pos (by omega), if_pos (by omega), rd_nat l0 n h1, hxe]
theorem drive_ev (l : List Int) (p : Int) (hp0 : 0 ≤ p) (hp : p ≤ 1000) (hs : l.length ≤ 1000) (hx : ∀ x ∈ l, 0 ≤ x ∧ x ≤ 1000) :
    Ev (fun k => impl_drive.f k l p) (if (-1 : Int) ∈ sdrive p [] l then ([], false) else (sdrive p [] l, true)) := by
  obtain ⟨m, rfl⟩ := Int.eq_ofNat_of_zero_le hp0
  unfold impl_drive.f
  refine Ev.pos (by omega) (Ev.pos (by omega) ?_)
  have h := drive_l m l (by omega) hs l [] 0 rfl rfl (by omega) hx
  rw [drives (m : Int) l [] (fun x h => (hx x h).1) (by simp)] at h
  have e : (List.replicate ((m : Int)).toNat false) = taken m [] := by
    rw [Int.toNat_natCast]
    apply List.ext_getElem
    · simp [taken]
    · intro i h1 h2
      simp [taken]
  rw [e]
  by_cases hm : (-1 : Int) ∈ sdrive (m : Int) [] l
  · rw [if_pos hm] at h ⊢
    exact h
  · rw [if_neg hm] at h ⊢
    exact h
end Go.Proofs.YtgfcnfbbiaeboaaGreat.Plain
/- What isParking of the program, and that of the reference, come to. No condition. -/
namespace Go.Proofs.YtgfcnfbbiaeboaaGreat.Plain
open Go.RowKit Go.Proofs.YtgfcnfbbiaeboaaGreatW.PrintWords Go.Proofs.YtgfcnfbbiaeboaaGreatW.PrintLast Go.Proofs.YtgfcnfbbiaeboaaGreat.Hand Go.Proofs.YtgfcnfbbiaeboaaGreat.PAll
set_option linter.unusedVariables false

/-- A parking function. -/
def parking (l : List Int) : Bool := decide (l.length ≤ 8) && ((l.all fun x => decide (0 ≤ x ∧ x ≤ (l.length : Int) - 1)) && !decide ((-1 : Int) ∈ sdrive (l.length : Int) [] l))
theorem parking_cars {l : List Int} (h : parking l = true) : l.length ≤ 8 := by
  unfold parking at h
  simp only [Bool.and_eq_true, decide_eq_true_eq] at h
  exact h.1
theorem parking_in {l : List Int} (h : parking l = true) : ∀ x ∈ l, 0 ≤ x ∧ x < (l.length : Int) := by
  unfold parking at h
  simp only [Bool.and_eq_true, decide_eq_true_eq, List.all_eq_true] at h
  intro x hx
  have := h.2.1 x hx
  omega
theorem parking_all {l : List Int} (h : parking l = true) : (-1 : Int) ∉ sdrive (l.length : Int) [] l := by
  unfold parking at h
  simp only [Bool.and_eq_true, Bool.not_eq_true', decide_eq_false_iff_not] at h
  exact h.2.2
/-- A car with a favourite beyond the street fails. -/
theorem sdrive_far (p : Int) : ∀ (l out : List Int), (∃ x ∈ l, p ≤ x) → (-1 : Int) ∈ sdrive p out l := by
  intro l
  induction l with
  | nil => intro out h; obtain ⟨x, hx, _⟩ := h; cases hx
  | cons x xs ih =>
    intro out h
    rw [sdrive]
    by_cases hx : p ≤ x
    · obtain ⟨t, ht⟩ := sdrive_pre p xs (out ++ [told p (nf p out (p - x).toNat x)])
      rw [ht, show (p - x).toNat = 0 by omega, nf]
      unfold told
      rw [if_pos hx]
      simp
    · obtain ⟨y, hy, hp⟩ := h
      rcases List.mem_cons.1 hy with rfl | hy
      · exact absurd hp hx
      · exact ih _ ⟨y, hy, hp⟩

theorem paDrive_any (l : List Int) (p : Int) (hp0 : 0 ≤ p) (hp : p ≤ 1000) (hs : l.length ≤ 1000) (hx : ∀ x ∈ l, 0 ≤ x ∧ x ≤ 1000) : Ev (fun k => spec_paDrive.f k l p) (sdrive p [] l) := by
  unfold spec_paDrive.f
  exact paDrive_l p l hp0 hp hs l [] 0 rfl rfl (by omega) hx
theorem paAll_any (l : List Int) (p : Int) (hp0 : 0 ≤ p) (hp : p ≤ 1000) (hs : l.length ≤ 1000) (hx : ∀ x ∈ l, 0 ≤ x ∧ x ≤ 1000) : Ev (fun k => spec_paAll.f k l p) (!decide ((-1 : Int) ∈ sdrive p [] l)) := by
  unfold spec_paAll.f
  refine Ev.bind (paDrive_any l p hp0 hp hs hx) (Ev.bind (l1Has_ev _ _ ?_) (Ev.now _))
  rw [sdrive_length]
  simp
  omega
theorem paParking_ev (l : List Int) : Ev (fun k => spec_paParking.f k l) (parking l) := by
  unfold spec_paParking.f parking
  by_cases h1 : l.length ≤ 8
  · refine Ev.pos (by omega) ?_
    rw [decide_eq_true h1, Bool.true_and, wrap64_in ((l.length : Int) - 1) (by omega) (by omega)]
    refine Ev.bind (l1All_ev l 0 ((l.length : Int) - 1) (by omega)) ?_
    cases h2 : (l.all fun x => decide (0 ≤ x ∧ x ≤ (l.length : Int) - 1)) with
    | false => exact Ev.neg (by decide) (Ev.now _)
    | true =>
      rw [Bool.true_and]
      refine Ev.pos rfl (Ev.bind (paAll_any l (l.length : Int) (by omega) (by omega) (by omega) (fun x hx => ?_)) (Ev.now _))
      have := of_decide_eq_true (List.all_eq_true.1 h2 x hx)
      omega
  · rw [decide_eq_false h1, Bool.false_and]
    exact Ev.neg (by omega) (Ev.now _)
theorem areCars_eq (l : List Int) : impl_areCars.f l = some (decide (l.length ≤ 8) && l.all fun x => decide (0 ≤ x ∧ x ≤ 99)) := by
  unfold impl_areCars.f
  by_cases h1 : l.length ≤ 8
  · rw [decide_eq_true h1, Bool.true_and, if_pos (by omega)]
    rfl
  · rw [decide_eq_false h1, Bool.false_and, if_neg (by omega)]
theorem isParking_ev (l : List Int) : Ev (fun k => impl_isParking.f k l) (parking l) := by
  unfold impl_isParking.f parking
  refine Ev.bindc (areCars_eq l) ?_
  by_cases h1 : l.length ≤ 8
  · rw [decide_eq_true h1, Bool.true_and, Bool.true_and]
    cases h2 : (l.all fun x => decide (0 ≤ x ∧ x ≤ 99)) with
    | false =>
      refine Ev.neg (by decide) (Ev.const ?_)
      cases h3 : (l.all fun x => decide (0 ≤ x ∧ x ≤ (l.length : Int) - 1)) with
      | false => rfl
      | true =>
        exfalso
        rw [List.all_eq_false] at h2
        obtain ⟨x, hx, hn⟩ := h2
        have := of_decide_eq_true (List.all_eq_true.1 h3 x hx)
        exact hn (decide_eq_true (by omega))
    | true =>
      have hin : ∀ x ∈ l, 0 ≤ x ∧ x ≤ 99 := fun x hx => of_decide_eq_true (List.all_eq_true.1 h2 x hx)
      refine Ev.pos rfl (Ev.bind (drive_ev l (l.length : Int) (by omega) (by omega) (by omega) (fun x hx => by have := hin x hx; omega)) ?_)
      by_cases hm : (-1 : Int) ∈ sdrive (l.length : Int) [] l
      · rw [if_pos hm, decide_eq_true hm]
        exact Ev.const (by simp)
      · rw [if_neg hm, decide_eq_false hm]
        refine Ev.const ?_
        have h3 : (l.all fun x => decide (0 ≤ x ∧ x ≤ (l.length : Int) - 1)) = true := by
          rw [List.all_eq_true]
          intro x hx
          have h4 := hin x hx
          by_cases hc : (l.length : Int) ≤ x
          · exact absurd (sdrive_far _ l [] ⟨x, hx, hc⟩) hm
          · exact decide_eq_true (by omega)
        rw [h3]
        rfl
  · rw [decide_eq_false h1, Bool.false_and, Bool.false_and]
    exact Ev.neg (by decide) (Ev.now _)
end Go.Proofs.YtgfcnfbbiaeboaaGreat.Plain
/- Lists that park: where of n numbers at least f + 1 are at most f, for each f below n, each car finds a place. No program in sight. -/
namespace Go.Proofs.YtgfcnfbbiaeboaaGreat.Plain
open Go.RowKit Go.Proofs.YtgfcnfbbiaeboaaGreatW.PrintWords Go.Proofs.YtgfcnfbbiaeboaaGreatW.PrintLast Go.Proofs.YtgfcnfbbiaeboaaGreat.Hand
set_option linter.unusedVariables false

theorem cntK_snoc (p : Int → Bool) (l : List Int) (x : Int) : cnt p (l ++ [x]) = cnt p l + (if p x = true then 1 else 0) := by
  unfold cnt
  rw [List.filter_append, List.length_append, List.filter_cons]
  split
  · simp
  · simp
theorem cntK_append (p : Int → Bool) (l m : List Int) : cnt p (l ++ m) = cnt p l + cnt p m := by
  unfold cnt
  rw [List.filter_append, List.length_append]
  omega
theorem cntK_split (f : Int) (l : List Int) : cnt (fun x => decide (x > f)) l + cnt (fun x => decide (x ≤ f)) l = (l.length : Int) := by
  induction l with
  | nil => rfl
  | cons x xs ih =>
    have h1 := cntK_append (fun x => decide (x > f)) [x] xs
    have h2 := cntK_append (fun x => decide (x ≤ f)) [x] xs
    rw [List.singleton_append] at h1 h2
    rw [h1, h2, List.length_cons]
    by_cases h : x > f
    · have e1 : cnt (fun x => decide (x > f)) [x] = 1 := by simp [cnt, h]
      have e2 : cnt (fun x => decide (x ≤ f)) [x] = 0 := by simp [cnt, h]
      omega
    · have e1 : cnt (fun x => decide (x > f)) [x] = 0 := by simp [cnt, h]
      have e2 : cnt (fun x => decide (x ≤ f)) [x] = 1 := by simp [cnt, show x ≤ f by omega]
      omega
theorem nodup_len : ∀ (l m : List Int), l.Nodup → (∀ x ∈ l, x ∈ m) → l.length ≤ m.length
  | [], m, _, _ => by simp
  | x :: xs, m, hn, hs => by
    rw [List.nodup_cons] at hn
    have hp := List.perm_cons_erase (hs x List.mem_cons_self)
    have hl := hp.length_eq
    rw [List.length_cons] at hl
    have := nodup_len xs (m.erase x) hn.2 (fun y hy => (List.mem_erase_of_ne (show y ≠ x from fun e => hn.1 (by rw [← e]; exact hy))).2 (hs y (List.mem_cons_of_mem _ hy)))
    rw [List.length_cons]
    omega
theorem cntK_all {f n : Int} {out : List Int} (hf : f < n) (h : ∀ z, f < z → z < n → z ∈ out) : n - 1 - f ≤ cnt (fun x => decide (x > f)) out := by
  have hnd : (iota (f + 1) (n - 1 - f).toNat).Nodup := List.pairwise_iff_getElem.2 fun i j hi hj hij => by
    rw [iota_get, iota_get]
    omega
  have := nodup_len _ (out.filter fun x => decide (x > f)) hnd (fun x hx => by
    unfold iota at hx
    rw [List.mem_map] at hx
    obtain ⟨i, hi, rfl⟩ := hx
    have := List.mem_range.1 hi
    rw [List.mem_filter]
    exact ⟨h _ (by omega) (by omega), decide_eq_true (by omega)⟩)
  rw [iota_length] at this
  unfold cnt
  omega
theorem nf_taken (p : Int) (out : List Int) : ∀ (d : Nat) (x : Int), ∀ z, x ≤ z → z < nf p out d x → z ∈ out := by
  intro d
  induction d with
  | zero =>
    intro x z h1 h2
    rw [nf] at h2
    omega
  | succ d ih =>
    intro x z h1 h2
    rw [nf] at h2
    split at h2
    · rename_i h
      by_cases e : z = x
      · rw [e]
        exact h.2
      · exact ih (x + 1) z (by omega) h2
    · omega
theorem nf_free (p : Int) (out : List Int) : ∀ (d : Nat) (x : Int), d = (p - x).toNat → nf p out d x < p → nf p out d x ∉ out := by
  intro d
  induction d with
  | zero =>
    intro x hd h
    rw [nf] at h
    omega
  | succ d ih =>
    intro x hd h
    rw [nf] at h ⊢
    split
    · rename_i h2
      rw [if_pos h2] at h
      exact ih (x + 1) (by omega) h
    · rename_i h2
      rw [if_neg h2] at h
      exact fun hm => h2 ⟨h, hm⟩
/-- The last free place ahead of x, or none. -/
theorem last_free (out : List Int) (n : Int) : ∀ (k : Nat) (x : Int), x = (k : Int) → (∀ z, x ≤ z → z < n → z ∈ out) → ∃ f, f < x ∧ (f = -1 ∨ (0 ≤ f ∧ f ∉ out)) ∧ ∀ z, f < z → z < n → z ∈ out := by
  intro k
  induction k with
  | zero =>
    intro x hx h
    exact ⟨-1, by omega, .inl rfl, fun z h1 h2 => h z (by omega) h2⟩
  | succ k ih =>
    intro x hx h
    by_cases hm : x - 1 ∈ out
    · obtain ⟨f, h1, h2, h3⟩ := ih (x - 1) (by omega) (fun z hz1 hz2 => by
        by_cases e : z = x - 1
        · rw [e]; exact hm
        · exact h z (by omega) hz2)
      exact ⟨f, by omega, h2, h3⟩
    · exact ⟨x - 1, by omega, .inr ⟨by omega, hm⟩, fun z h1 h2 => h z (by omega) h2⟩
theorem parks_from (l : List Int) (hb : ∀ x ∈ l, 0 ≤ x ∧ x < (l.length : Int)) (hc : ∀ f : Int, 0 ≤ f → f < (l.length : Int) → f + 1 ≤ cnt (fun x => decide (x ≤ f)) l) : ∀ (xs ps out : List Int), ps ++ xs = l → out.length = ps.length → (-1 : Int) ∉ out →
    (∀ f : Int, 0 ≤ f → f ∉ out → cnt (fun x => decide (x > f)) out = cnt (fun x => decide (x > f)) ps) → (-1 : Int) ∉ sdrive (l.length : Int) out xs := by
  intro xs
  induction xs with
  | nil => intro ps out hl ho hn hi; exact hn
  | cons x xs ih =>
    intro ps out hl ho hn hi
    have hx := hb x (by rw [← hl]; simp)
    rw [sdrive]
    have hlen : ps.length + 1 + xs.length = l.length := by rw [← hl]; simp; omega
    have hge := nf_ge (l.length : Int) out ((l.length : Int) - x).toNat x
    have htk := nf_taken (l.length : Int) out ((l.length : Int) - x).toNat x
    have hfr := nf_free (l.length : Int) out ((l.length : Int) - x).toNat x rfl
    generalize nf (l.length : Int) out ((l.length : Int) - x).toNat x = y at hge htk hfr ⊢
    by_cases hy : (l.length : Int) ≤ y
    · exfalso
      obtain ⟨f, h1, h2, h3⟩ := last_free out (l.length : Int) x.toNat x (by omega) (fun z hz1 hz2 => htk z hz1 (by omega))
      have h4 := cntK_all (by omega) h3
      have h5 := cnt_le (fun x => decide (x > f)) out
      rcases h2 with rfl | ⟨h2, h6⟩
      · omega
      · have h7 := hi f h2 h6
        have h8 := hc f h2 (by omega)
        have h9 := cntK_split f l
        have h10 : cnt (fun x => decide (x > f)) l = cnt (fun x => decide (x > f)) ps + cnt (fun x => decide (x > f)) (x :: xs) := by rw [← hl, cntK_append]
        have h11 := cntK_append (fun x => decide (x > f)) [x] xs
        rw [List.singleton_append] at h11
        have h12 : cnt (fun x => decide (x > f)) [x] = 1 := by simp [cnt, h1]
        have h13 := cnt_nonneg (fun x => decide (x > f)) xs
        omega
    · have ht : told (l.length : Int) y = y := by unfold told; rw [if_neg hy]
      rw [ht]
      refine ih (ps ++ [x]) (out ++ [y]) (by simp [hl]) (by simp [ho]) ?_ ?_
      · rw [List.mem_append, List.mem_singleton]
        rintro (h | h)
        · exact hn h
        · omega
      · intro f hf hm
        rw [List.mem_append, List.mem_singleton] at hm
        have hm1 : f ∉ out := fun h => hm (.inl h)
        have hm2 : f ≠ y := fun h => hm (.inr h)
        rw [cntK_snoc, cntK_snoc, hi f hf hm1]
        congr 1
        have e : (decide (y > f)) = (decide (x > f)) := by
          refine decide_eq_decide.2 ⟨fun h => ?_, fun h => by omega⟩
          by_cases h2 : x > f
          · exact h2
          · exact absurd (htk f (by omega) h) hm1
        rw [e]
theorem parks_all (l : List Int) (hb : ∀ x ∈ l, 0 ≤ x ∧ x < (l.length : Int)) (hc : ∀ f : Int, 0 ≤ f → f < (l.length : Int) → f + 1 ≤ cnt (fun x => decide (x ≤ f)) l) : (-1 : Int) ∉ sdrive (l.length : Int) [] l :=
  parks_from l hb hc l [] [] rfl rfl (by simp) (fun _ _ _ => rfl)
end Go.Proofs.YtgfcnfbbiaeboaaGreat.Plain
/- Sums; what driving comes to: the places are all places, and enough cars wish small ones. No condition beside what each theorem states. -/
namespace Go.Proofs.YtgfcnfbbiaeboaaGreat.Plain
open Go.RowKit Go.Proofs.YtgfcnfbbiaeboaaGreatW.PrintWords Go.Proofs.YtgfcnfbbiaeboaaGreatW.PrintLast Go.Proofs.YtgfcnfbbiaeboaaGreat.Hand
set_option linter.unusedVariables false
theorem cnt_cons (p : Int → Bool) (x : Int) (l : List Int) : cnt p (x :: l) = (if p x = true then 1 else 0) + cnt p l := by
  unfold cnt
  rw [List.filter_cons]
  split
  · simp; omega
  · simp
/-! ### Sums and counts -/
def sm : List Int → Int
  | [] => 0
  | x :: xs => x + sm xs
/-- How many are less than j. -/
def lt (l : List Int) (j : Int) : Int := cnt (fun x => decide (x < j)) l
theorem lt_cons (x : Int) (l : List Int) (j : Int) : lt (x :: l) j = (if x < j then 1 else 0) + lt l j := by
  unfold lt
  rw [cnt_cons]
  by_cases h : x < j
  · rw [if_pos h, if_pos (decide_eq_true h)]
  · rw [if_neg h, if_neg (by simpa using h)]
theorem lt_perm {l m : List Int} (h : l.Perm m) (j : Int) : lt l j = lt m j := by
  unfold lt cnt
  rw [(h.filter _).length_eq]
theorem le_lt (l : List Int) (f : Int) : cnt (fun x => decide (x ≤ f)) l = lt l (f + 1) := by
  unfold lt
  congr 1
  funext x
  exact decide_eq_decide.2 (by omega)
theorem lt_iota (f : Int) (h0 : 0 ≤ f) : ∀ n : Nat, lt (iota 0 n) f = if f ≤ (n : Int) then f else (n : Int) := by
  intro n
  induction n with
  | zero => simp [iota, lt, cnt]; omega
  | succ n ih =>
    rw [iota_succ]
    have e : lt (iota 0 n ++ [0 + (n : Int)]) f = lt (iota 0 n) f + (if (n : Int) < f then 1 else 0) := by
      unfold lt
      rw [cntK_append]
      congr 1
      rw [cnt_cons]
      by_cases h : (n : Int) < f
      · rw [if_pos (decide_eq_true (by omega)), if_pos h]; rfl
      · rw [if_neg (by simp; omega), if_neg h]; rfl
    rw [e, ih]
    split <;> split <;> split <;> omega
/-! ### What driving comes to -/
theorem sdrive_good (p : Int) : ∀ (xs out : List Int), (∀ x ∈ xs, 0 ≤ x) → out.Nodup → (∀ y ∈ out, 0 ≤ y ∧ y < p) → (-1 : Int) ∉ sdrive p out xs → (sdrive p out xs).Nodup ∧ ∀ y ∈ sdrive p out xs, 0 ≤ y ∧ y < p := by
  intro xs
  induction xs with
  | nil => intro out _ h1 h2 _; exact ⟨h1, h2⟩
  | cons x xs ih =>
    intro out hx hn hr hm
    rw [sdrive] at hm ⊢
    have h0 := nf_ge p out (p - x).toNat x
    have hx0 := hx x List.mem_cons_self
    by_cases hy : p ≤ nf p out (p - x).toNat x
    · obtain ⟨t, ht⟩ := sdrive_pre p xs (out ++ [told p (nf p out (p - x).toNat x)])
      refine absurd ?_ hm
      rw [ht]
      unfold told
      rw [if_pos hy]
      simp
    · have ht : told p (nf p out (p - x).toNat x) = nf p out (p - x).toNat x := by unfold told; rw [if_neg hy]
      rw [ht] at hm ⊢
      have hf := nf_free p out (p - x).toNat x rfl (by omega)
      refine ih _ (fun y hy => hx y (List.mem_cons_of_mem _ hy)) ?_ ?_ hm
      · rw [List.nodup_append]
        refine ⟨hn, by simp, fun a ha b hb => ?_⟩
        rw [List.mem_singleton] at hb
        subst hb
        exact fun e => hf (e ▸ ha)
      · intro y hy2
        rcases List.mem_append.1 hy2 with h | h
        · exact hr y h
        · rw [List.mem_singleton] at h
          omega
theorem s_perm {l : List Int} (h : parking l = true) : (sdrive (l.length : Int) [] l).Perm (iota 0 l.length) := by
  have hg := sdrive_good (l.length : Int) l [] (fun x hx => (parking_in h x hx).1) List.nodup_nil (by simp) (parking_all h)
  refine nodup_perm _ _ hg.1 (fun x hx => (iota_mem _ _).2 (hg.2 x hx)) ?_
  rw [iota_length, sdrive_length]
  simp
theorem sdrive_ge' (p : Int) : ∀ (l out : List Int) (i : Nat) (h : i < l.length) (h2 : out.length + i < (sdrive p out l).length), (sdrive p out l)[out.length + i] = -1 ∨ l[i] ≤ (sdrive p out l)[out.length + i] := by
  intro l
  induction l with
  | nil => intro out i h; simp at h
  | cons x xs ih =>
    intro out i h h2
    cases i with
    | zero =>
      have hg := nf_ge p out (p - x).toNat x
      obtain ⟨t, ht⟩ := sdrive_pre p xs (out ++ [told p (nf p out (p - x).toNat x)])
      have e : sdrive p out (x :: xs) = out ++ ([told p (nf p out (p - x).toNat x)] ++ t) := by rw [sdrive, ht, List.append_assoc]
      simp only [e]
      rw [List.getElem_append_right (by omega)]
      simp only [Nat.add_zero, Nat.sub_self, List.singleton_append, List.getElem_cons_zero]
      unfold told
      split
      · exact .inl rfl
      · exact .inr hg
    | succ i =>
      have h3 := ih (out ++ [told p (nf p out (p - x).toNat x)]) i (by simpa using h) (by rw [sdrive] at h2; simp; omega)
      simp only [List.length_append, List.length_singleton] at h3
      have e : out.length + 1 + i = out.length + (i + 1) := by omega
      simp only [e] at h3
      simpa [sdrive] using h3
theorem lt_le : ∀ (s l : List Int) (j : Int), s.length = l.length → (∀ (i : Nat) (h : i < l.length) (h2 : i < s.length), l[i] ≤ s[i]) → lt s j ≤ lt l j
  | [], [], j, _, _ => Int.le_refl _
  | [], _ :: _, _, h, _ => by simp at h
  | _ :: _, [], _, h, _ => by simp at h
  | y :: ys, x :: xs, j, h, hi => by
    rw [lt_cons, lt_cons]
    have h0 := hi 0 (by simp) (by simp)
    have ht := lt_le ys xs j (by simpa using h) (fun i h1 h2 => by have := hi (i + 1) (by simpa using h1) (by simpa using h2); simpa using this)
    simp only [List.getElem_cons_zero] at h0
    split <;> split <;> omega
/-- A parking function has enough small numbers. -/
theorem parking_lt {l : List Int} (h : parking l = true) (j : Int) (h0 : 0 ≤ j) (hj : j ≤ (l.length : Int)) : j ≤ lt l j := by
  have hl : (sdrive (l.length : Int) [] l).length = l.length := by rw [sdrive_length]; simp
  have h1 := lt_le (sdrive (l.length : Int) [] l) l j hl (fun i h2 h3 => by
    have hg := sdrive_ge' (l.length : Int) l [] i h2 (by simpa using h3)
    simp only [List.length_nil, Nat.zero_add] at hg
    rcases hg with hg | hg
    · exact absurd (hg ▸ List.getElem_mem h3) (parking_all h)
    · exact hg)
  rw [lt_perm (s_perm h), lt_iota j h0, if_pos hj] at h1
  exact h1
theorem parking_of {l : List Int} (h8 : l.length ≤ 8) (hb : ∀ x ∈ l, 0 ≤ x ∧ x < (l.length : Int)) (hc : ∀ j : Int, 0 ≤ j → j ≤ (l.length : Int) → j ≤ lt l j) : parking l = true := by
  have h1 := parks_all l hb (fun f h0 h1 => by rw [le_lt]; exact hc (f + 1) (by omega) (by omega))
  unfold parking
  rw [decide_eq_true h8, decide_eq_false h1, Bool.true_and, Bool.not_false, Bool.and_true, List.all_eq_true]
  exact fun x hx => decide_eq_true (by have := hb x hx; omega)
end Go.Proofs.YtgfcnfbbiaeboaaGreat.Plain
