/- The region of a point: what the program's RegionOfPoint and the reference's come to. Condition: the list is a point. -/
import Derived.Test.YtgfedgnpffockaaPAllx2
import Derived.Test.YtgfedgnpffockaaPAllx4
import Derived.Test.YtgfedgnpffockaaPAllx5
import Derived.Test.YtgfedgnpffockaaBaseRt
import Derived.Test.YtgfedgnpffockaaBasePp
namespace Go.Proofs.Ytgfedgnpffockaa.Plain
open Go.RowKit Go.Proofs.YtgfedgnpffockaaW.PrintWords Go.Proofs.YtgfedgnpffockaaW.PrintLast Go.Proofs.Ytgfedgnpffockaa.Hand Go.Proofs.Ytgfedgnpffockaa.PAll
set_option linter.unusedVariables false
theorem ltP (x : List Int) (hx : Pt x) (a b : Fin x.length) : ltOf (cfP x) a b = decide (rd x (b.1 : Int) < rd x (a.1 : Int)) := by
  have h1 := hx.rd a.1 a.2
  have h2 := hx.rd b.1 b.2
  unfold ltOf cfP
  rw [rd_nat x a.1 a.2] at h1 ⊢
  rw [rd_nat x b.1 b.2] at h2 ⊢
  rw [wrap64_in _ (by omega) (by omega)]
  exact decide_eq_decide.2 (by omega)
theorem ropL_facts (x : List Int) (hx : Pt x) : (ropL x).Perm (iota 0 x.length) ∧ ∀ p q : Nat, p < q → q < x.length → rd x (rd (ropL x) (q : Int)) < rd x (rd (ropL x) (p : Int)) := by
  by_cases h : 0 < x.length
  · letI : Inhabited (Fin x.length) := ⟨⟨0, h⟩⟩
    have hS : Go.Sort.SWO (ltOf (cfP x)) := by
      refine ⟨fun a => ?_, fun a b c h1 h2 => ?_, fun a b c h1 h2 => ?_⟩
      · rw [ltP x hx]; exact decide_eq_false (by omega)
      · rw [ltP x hx] at h1 h2 ⊢
        have := of_decide_eq_true h1
        have := of_decide_eq_true h2
        exact decide_eq_true (by omega)
      · rw [ltP x hx] at h1 h2 ⊢
        have := of_decide_eq_false h1
        have := of_decide_eq_false h2
        exact decide_eq_false (by omega)
    obtain ⟨D, hD⟩ : ∃ D, D = Go.Sort.insertionSort (ltOf (cfP x)) (Array.ofFn fun i : Fin x.length => i) 0 x.length := ⟨_, rfl⟩
    have hh := Go.Sort.insertionSort_holds (lt := ltOf (cfP x)) hS (Array.ofFn fun i : Fin x.length => i) 0 x.length (Nat.zero_le _) (by simp)
    rw [← hD] at hh
    obtain ⟨⟨hs, _, hp⟩, hd⟩ := hh
    rw [Array.size_ofFn] at hs
    have ho : ropL x = D.toList.map fun z => (z.1 : Int) := by
      unfold ropL ropA
      rw [dif_pos h, ← hD, Array.toList_map]
    have hget : ∀ p (hp : p < x.length), rd (ropL x) (p : Int) = ((D[p]'(by omega)).1 : Int) := by
      intro p hp
      rw [ho, rd_nat _ p (by simp; omega)]
      simp
    have hperm : (ropL x).Perm (iota 0 x.length) := by
      have e1 : D.extract 0 x.length = D := by
        have := Array.extract_size (xs := D)
        rwa [hs] at this
      have e2 : (Array.ofFn fun i : Fin x.length => i).extract 0 x.length = Array.ofFn fun i : Fin x.length => i := by
        have := Array.extract_size (xs := Array.ofFn fun i : Fin x.length => i)
        rwa [Array.size_ofFn] at this
      rw [e1, e2] at hp
      rw [ho]
      refine (hp.map _).trans ?_
      have e3 : ((Array.ofFn fun i : Fin x.length => i).toList.map fun z => (z.1 : Int)) = iota 0 x.length := by
        refine List.ext_getElem (by simp [iota]) fun i h1 h2 => ?_
        rw [iota_get]
        simp
      rw [e3]
    refine ⟨hperm, fun p q hpq hq => ?_⟩
    · have h1 := hd p q (Nat.zero_le _) hpq hq
      rw [getElem!_pos D q (by omega), getElem!_pos D p (by omega), ltP x hx] at h1
      have h2 := of_decide_eq_false h1
      have hnd : (ropL x).Nodup := hperm.nodup_iff.2 (iota_nodup _)
      have hne : rd (ropL x) (p : Int) ≠ rd (ropL x) (q : Int) := by
        rw [rd_nat _ p (by rw [ropL_length]; omega), rd_nat _ q (by rw [ropL_length]; omega)]
        intro e
        have := (List.getElem_inj hnd).1 e
        omega
      rw [hget p (by omega), hget q hq] at hne ⊢
      have h4 : (D[p]'(by omega)).1 ≠ (D[q]'(by omega)).1 := fun e => hne (by rw [e])
      have h5 : rd x ((D[p]'(by omega)).1 : Int) ≠ rd x ((D[q]'(by omega)).1 : Int) := by
        rcases Nat.lt_or_gt_of_ne h4 with hl | hl
        · exact (hx.ne _ _ hl (D[q]'(by omega)).2).1
        · exact fun e => (hx.ne _ _ hl (D[p]'(by omega)).2).1 e.symm
      omega
  · have e : x = [] := List.eq_nil_of_length_eq_zero (by omega)
    subst e
    exact ⟨by rw [show ropL ([] : List Int) = [] from List.eq_nil_of_length_eq_zero (by rw [ropL_length]; rfl)]; exact List.Perm.nil, fun p q _ hq => by simp at hq⟩
/-- A sorted order: the numbers of the places, those with greater numbers first. -/
structure Ord (x o : List Int) : Prop where
  perm : o.Perm (iota 0 x.length)
  dec : ∀ p q : Nat, p < q → q < x.length → rd x (rd o (q : Int)) < rd x (rd o (p : Int))
theorem Ord.len {x o : List Int} (h : Ord x o) : o.length = x.length := by rw [h.perm.length_eq, iota_length]
theorem Ord.nd {x o : List Int} (h : Ord x o) : o.Nodup := h.perm.nodup_iff.2 (iota_nodup _)
theorem Ord.inr {x o : List Int} (h : Ord x o) : ∀ v ∈ o, 0 ≤ v ∧ v < (x.length : Int) := fun v hv => (iota_mem _ _).1 (h.perm.mem_iff.1 hv)
theorem Ord.at {x o : List Int} (h : Ord x o) (p : Nat) (hp : p < x.length) : 0 ≤ rd o (p : Int) ∧ rd o (p : Int) < (x.length : Int) :=
  h.inr _ (by rw [rd_nat o p (by rw [h.len]; exact hp)]; exact List.getElem_mem _)
theorem Ord.val {x o : List Int} (h : Ord x o) (hx : Pt x) (p : Nat) (hp : p < x.length) : -100000 ≤ rd x (rd o (p : Int)) ∧ rd x (rd o (p : Int)) ≤ 100000 := by
  have h1 := h.at p hp
  have h2 := hx.rd (rd o (p : Int)).toNat (by omega)
  rwa [Int.toNat_of_nonneg h1.1] at h2
theorem ropIn_far {x o : List Int} (hx : Pt x) (ho : Ord x o) (p : Nat) (hp : p < x.length) : ∀ (m q : Nat) (a : Int), q + m = p → a ≤ (q : Int) →
    a ≤ ropIn x o (rd o (p : Int)) m q a ∧ (∀ q' : Nat, q ≤ q' → q' < p → Cq x o q' p → (q' : Int) + 1 ≤ ropIn x o (rd o (p : Int)) m q a) ∧ (ropIn x o (rd o (p : Int)) m q a = a ∨ ∃ q' : Nat, q' < p ∧ Cq x o q' p ∧ ropIn x o (rd o (p : Int)) m q a = (q' : Int) + 1)
  | 0, q, a, hq, ha => ⟨Int.le_refl _, fun q' h1 h2 => by omega, .inl rfl⟩
  | m + 1, q, a, hq, ha => by
    have hv1 := ho.val hx p hp
    have hc : (rd o (q : Int) < rd o (p : Int) ∧ wrap64 (rd x (rd o (p : Int)) + 100) < rd x (rd o (q : Int))) ↔ Cq x o q p := by
      rw [wrap64_in _ (by omega) (by omega)]
      unfold Cq
      constructor
      · rintro ⟨h1, h2⟩; exact ⟨h1, by omega⟩
      · rintro ⟨h1, h2⟩; exact ⟨h1, by omega⟩
    rw [ropIn]
    by_cases h : rd o (q : Int) < rd o (p : Int) ∧ wrap64 (rd x (rd o (p : Int)) + 100) < rd x (rd o (q : Int))
    · rw [if_pos h]
      obtain ⟨h1, h2, h3⟩ := ropIn_far hx ho p hp m (q + 1) ((q : Int) + 1) (by omega) (by omega)
      refine ⟨by omega, fun q' h4 h5 h6 => ?_, .inr ?_⟩
      · rcases Nat.lt_or_eq_of_le h4 with h7 | h7
        · exact h2 q' h7 h5 h6
        · subst h7; exact h1
      · rcases h3 with e | ⟨q', h4, h5, h6⟩
        · exact ⟨q, by omega, hc.1 h, e⟩
        · exact ⟨q', h4, h5, h6⟩
    · rw [if_neg h]
      obtain ⟨h1, h2, h3⟩ := ropIn_far hx ho p hp m (q + 1) a (by omega) (by omega)
      refine ⟨h1, fun q' h4 h5 h6 => ?_, h3⟩
      rcases Nat.lt_or_eq_of_le h4 with h7 | h7
      · exact h2 q' h7 h5 h6
      · subst h7; exact absurd (hc.2 h6) h
theorem ropOut_rd (x o : List Int) : ∀ (N p : Nat), p < N → rd (ropOut x o N).2 (p : Int) = (ropOut x o (p + 1)).1 := by
  intro N
  induction N with
  | zero => intro p h; omega
  | succ N ih =>
    intro p h
    have e : (ropOut x o (N + 1)).2 = (ropOut x o N).2 ++ [(ropOut x o (N + 1)).1] := rfl
    rw [e]
    rcases Nat.lt_or_eq_of_le (Nat.le_of_lt_succ h) with h1 | h1
    · rw [rd_nat _ p (by rw [List.length_append, ropOut_length]; simp; omega), List.getElem_append_left (by rw [ropOut_length]; exact h1), ← rd_nat _ p (by rw [ropOut_length]; exact h1)]
      exact ih p h1
    · subst h1
      rw [rd_nat _ p (by rw [List.length_append, ropOut_length]; simp), List.getElem_append_right (by rw [ropOut_length]; exact Nat.le_refl _)]
      simp [ropOut_length]
theorem ropOut_far {x o : List Int} (hx : Pt x) (ho : Ord x o) (p : Nat) (hp : p < x.length) : FarAt x o p (ropOut x o p).1 (ropOut x o (p + 1)).1 := by
  have hle := ropOut_le x o p
  have h := ropIn_far hx ho p hp (p - (ropOut x o p).1.toNat) (ropOut x o p).1.toNat (ropOut x o p).1 (by omega) (by omega)
  have e : (ropOut x o (p + 1)).1 = ropIn x o (rd o (p : Int)) (p - (ropOut x o p).1.toNat) (ropOut x o p).1.toNat (ropOut x o p).1 := rfl
  rw [e]
  refine ⟨h.1, fun q hq hc => ?_, h.2.2⟩
  by_cases hlt : (q : Int) < (ropOut x o p).1
  · have := h.1; omega
  · exact h.2.1 q (by omega) hq hc
/-- The region of a point. -/
def rop (x : List Int) : List Int × List Int := (ropL x, (ropOut x (ropL x) x.length).2)
theorem rop_reg {x : List Int} (hx : Pt x) : RegP (rop x).1 (rop x).2 ∧ InReg x (rop x).1 (rop x).2 := by
  have hf := ropL_facts x hx
  have ho : Ord x (ropL x) := ⟨hf.1, hf.2⟩
  have hl := ho.len
  refine of_farAt ho.nd (by rw [show (rop x).1.length = x.length from hl]; exact ho.inr) (by show (ropOut x (ropL x) x.length).2.length = _; rw [ropOut_length]; exact hl.symm) hl.symm (fun p q h1 h2 => ho.dec p q h1 (by rw [← hl]; exact h2)) (fun h => ?_) (fun p hp => ?_)
  · have h0 : 0 < x.length := by rw [← hl]; exact h
    show FarAt x (ropL x) 0 0 (rd (ropOut x (ropL x) x.length).2 ((0 : Nat) : Int))
    rw [ropOut_rd x (ropL x) x.length 0 h0]
    exact ropOut_far hx ho 0 h0
  · have h1 : p + 1 < x.length := by rw [← hl]; exact hp
    show FarAt x (ropL x) (p + 1) (rd (ropOut x (ropL x) x.length).2 (p : Int)) (rd (ropOut x (ropL x) x.length).2 ((p + 1 : Nat) : Int))
    rw [ropOut_rd x (ropL x) x.length p (by omega), ropOut_rd x (ropL x) x.length (p + 1) h1]
    exact ropOut_far hx ho (p + 1) h1
def ropR (x : List Int) : List Int × List Int × Bool := if ptB x = true then ((rop x).1, (rop x).2, true) else ([], [], false)
theorem RegionOfPoint_ev (x : List Int) : Ev (fun k => impl_RegionOfPoint.f k x) (ropR x) := by
  unfold impl_RegionOfPoint.f ropR
  refine Ev.bind (isPoint_ev x) ?_
  cases h : ptB x with
  | true => exact Ev.pos rfl (Ev.pos ((ptB_iff x).1 h).len (Ev.now _))
  | false => exact Ev.neg (by decide) (Ev.now _)
theorem own_eq (l : List Int) (h : l.length ≤ 1000) : spec_l1Own.f l = some l := by
  unfold spec_l1Own.f
  rw [Option.bind_some, if_pos (by simp; omega)]
  rfl
structure OutI (x out : List Int) (i : Nat) : Prop where
  perm : out.Perm (iota 0 i)
  pw : out.Pairwise (fun a b => rd x b < rd x a)
theorem OutI.len {x out : List Int} {i : Nat} (h : OutI x out i) : out.length = i := by rw [h.perm.length_eq, iota_length]
theorem OutI.inr {x out : List Int} {i : Nat} (h : OutI x out i) : ∀ v ∈ out, 0 ≤ v ∧ v < (i : Int) := fun v hv => (iota_mem _ _).1 (h.perm.mem_iff.1 hv)
theorem OutI.put {x out : List Int} {i : Nat} (h : OutI x out i) (k : Nat) (hk : k ≤ out.length) (h1 : ∀ y ∈ out.take k, rd x (i : Int) < rd x y) (h2 : ∀ hlt : k < out.length, rd x out[k] < rd x (i : Int)) : OutI x ((out.take k ++ [(i : Int)]) ++ out.drop k) (i + 1) := by
  have hsplit : out.take k ++ out.drop k = out := List.take_append_drop k out
  have hp := h.pw
  rw [← hsplit, List.pairwise_append] at hp
  have h3 : ∀ y ∈ out.drop k, rd x y < rd x (i : Int) := by
    intro y hy
    rcases Nat.lt_or_ge k out.length with hlt | hge
    · have e := List.drop_eq_getElem_cons hlt
      rw [e] at hy
      have hpd := hp.2.1
      rw [e, List.pairwise_cons] at hpd
      rcases List.mem_cons.1 hy with rfl | hy
      · exact h2 hlt
      · exact Int.lt_trans (hpd.1 y hy) (h2 hlt)
    · rw [List.drop_eq_nil_of_le hge] at hy
      cases hy
  refine ⟨?_, ?_⟩
  · have e : iota 0 (i + 1) = iota 0 i ++ [(i : Int)] := by rw [iota_succ, Int.zero_add]
    rw [e, List.append_assoc]
    refine (List.Perm.append_left _ List.perm_append_comm).trans ?_
    rw [← List.append_assoc, hsplit]
    exact h.perm.append_right _
  · rw [List.append_assoc, List.pairwise_append]
    refine ⟨hp.1, ?_, ?_⟩
    · rw [List.singleton_append, List.pairwise_cons]
      exact ⟨h3, hp.2.1⟩
    · intro y hy z hz
      rw [List.singleton_append] at hz
      rcases List.mem_cons.1 hz with rfl | hz
      · exact h1 y hy
      · exact hp.2.2 y hy z hz
theorem reSorted_l1 (x : List Int) (hx : Pt x) (out : List Int) (i : Nat) (hi : i < x.length) (h : OutI x out i)
    (H : ∀ out', OutI x out' (i + 1) → ∃ o', Ord x o' ∧ Ev (fun k => spec_reSorted.l0 k x out' (x.length : Int) ((i + 1 : Nat) : Int)) o') : ∀ (d k : Nat), k + d = out.length → (∀ y ∈ out.take k, rd x (i : Int) < rd x y) →
    ∃ o', Ord x o' ∧ Ev (fun n => spec_reSorted.l1 n x out (i : Int) (k : Int) (x.length : Int) (i : Int)) o' := by
  have hl := h.len
  have h8 := hx.len
  have fin : ∀ k : Nat, k ≤ out.length → (∀ y ∈ out.take k, rd x (i : Int) < rd x y) → (∀ hlt : k < out.length, rd x out[k] < rd x (i : Int)) →
      ∃ o', Ord x o' ∧ Ev (fun n => (spec_l1Own.f (out.take (k : Int).toNat)).bind fun t263 => (if t263.length < 17592186044416 then ((some (t263 ++ [(i : Int)] : List Int)).bind fun y266 => ((some (out.drop (k : Int).toNat : List Int)).bind fun y269 => (if y266.length + y269.length < 17592186044416 then (spec_reSorted.l0 n x (y266 ++ y269) (x.length : Int) (wrap64 ((i : Int) + 1))) else (none)))) else (none))) o' := by
    intro k hk h1 h2
    obtain ⟨o', ho, he⟩ := H _ (h.put k hk h1 h2)
    refine ⟨o', ho, ?_⟩
    rw [Int.toNat_natCast, own_eq _ (by rw [List.length_take]; omega), wrap_succ i (by omega)]
    exact Ev.bindc rfl (Ev.pos (by rw [List.length_take]; omega) (Ev.bindc rfl (Ev.bindc rfl (Ev.pos (by simp only [List.length_append, List.length_take, List.length_drop, List.length_singleton]; omega) he))))
  intro d
  induction d with
  | zero =>
    intro k hk h1
    obtain ⟨o', ho, he⟩ := fin k (by omega) h1 (fun hlt => by omega)
    refine ⟨o', ho, ?_⟩
    refine Ev.step (f := ?f1) (fun n => ?h1) ?g1
    case g1 => exact he
    case h1 => rw [spec_reSorted.l1, if_neg (by omega), if_pos (by omega), if_pos (by omega)]
  | succ d ih =>
    intro k hk h1
    have hlt : k < out.length := by omega
    have hv := h.inr (rd out (k : Int)) (by rw [rd_nat out k hlt]; exact List.getElem_mem _)
    by_cases hgt : rd x (rd out (k : Int)) > rd x (i : Int)
    · obtain ⟨o', ho, he⟩ := ih (k + 1) (by omega) (by
        intro y hy
        rw [List.take_succ_eq_append_getElem hlt, List.mem_append, List.mem_singleton] at hy
        rcases hy with hy | rfl
        · exact h1 y hy
        · rw [← rd_nat out k hlt]; exact hgt)
      refine ⟨o', ho, Ev.step (fun n => ?h1) he⟩
      rw [spec_reSorted.l1, if_pos (by omega), if_pos (by omega), if_pos (by omega), if_pos (by omega), if_pos (by omega), if_pos (by omega), if_pos hgt, wrap_succ k (by omega)]
    · have hne : rd x (rd out (k : Int)) ≠ rd x (i : Int) := by
        have := (hx.ne (rd out (k : Int)).toNat i (by omega) hi).1
        rwa [Int.toNat_of_nonneg hv.1] at this
      obtain ⟨o', ho, he⟩ := fin k (by omega) h1 (fun _ => by rw [← rd_nat out k hlt]; omega)
      refine ⟨o', ho, Ev.step (fun n => ?h2) he⟩
      rw [spec_reSorted.l1, if_pos (by omega), if_pos (by omega), if_pos (by omega), if_pos (by omega), if_pos (by omega), if_pos (by omega), if_neg hgt, if_pos (by omega)]
theorem reSorted_l0 (x : List Int) (hx : Pt x) : ∀ (d i : Nat), i + d = x.length → ∀ out, OutI x out i → ∃ o', Ord x o' ∧ Ev (fun k => spec_reSorted.l0 k x out (x.length : Int) (i : Int)) o' := by
  intro d
  induction d with
  | zero =>
    intro i hi out h
    obtain rfl : i = x.length := by omega
    refine ⟨out, ⟨h.perm, fun p q hpq hq => ?_⟩, Ev.step (f := fun _ => some out) (fun k => ?_) (Ev.now _)⟩
    · have hl := h.len
      have := List.pairwise_iff_getElem.1 h.pw p q (by omega) (by omega) hpq
      rwa [← rd_nat out p (by omega), ← rd_nat out q (by omega)] at this
    · rw [spec_reSorted.l0, if_neg (by omega)]
  | succ d ih =>
    intro i hi out h
    obtain ⟨o', ho, he⟩ := reSorted_l1 x hx out i (by omega) h (fun out' h' => ih (i + 1) (by omega) out' h') out.length 0 (by omega) (fun y hy => by simp at hy)
    refine ⟨o', ho, Ev.step (fun n => ?h1) he⟩
    rw [spec_reSorted.l0, if_pos (by omega)]
    rfl
/-- What the reference has told of the far places so far. -/
structure FarS (x o fl : List Int) (p : Nat) (a : Int) : Prop where
  len : fl.length = p
  z : p = 0 → a = 0
  l : ∀ m : Nat, m + 1 = p → rd fl (m : Int) = a
  h0 : 0 < p → FarAt x o 0 0 (rd fl ((0 : Nat) : Int))
  hs : ∀ m : Nat, m + 1 < p → FarAt x o (m + 1) (rd fl (m : Int)) (rd fl ((m + 1 : Nat) : Int))
theorem rd_app (l m : List Int) (p : Nat) (h : p < l.length) : rd (l ++ m) (p : Int) = rd l (p : Int) := by
  rw [rd_nat _ p (by rw [List.length_append]; omega), List.getElem_append_left h, ← rd_nat l p h]
theorem rd_last (l : List Int) (v : Int) : rd (l ++ [v]) (l.length : Int) = v := by
  rw [rd_nat _ l.length (by simp)]
  simp
theorem FarS.next {x o fl : List Int} {p : Nat} {a b : Int} (h : FarS x o fl p a) (hb : FarAt x o p a b) : FarS x o (fl ++ [b]) (p + 1) b := by
  have hl := h.len
  have hlast : rd (fl ++ [b]) (p : Int) = b := by rw [← hl]; exact rd_last fl b
  refine ⟨by rw [List.length_append, hl]; rfl, fun e => by omega, fun m hm => ?_, fun _ => ?_, fun m hm => ?_⟩
  · rw [show m = p by omega]; exact hlast
  · rcases Nat.eq_zero_or_pos p with e | hp
    · subst e
      rw [h.z rfl] at hb
      rw [hlast]; exact hb
    · rw [rd_app _ _ 0 (by omega)]; exact h.h0 hp
  · rcases Nat.lt_or_eq_of_le (Nat.le_of_lt_succ hm) with e | e
    · rw [rd_app _ _ m (by omega), rd_app _ _ (m + 1) (by omega)]
      exact h.hs m e
    · rw [rd_app _ _ m (by omega), h.l m e, e, hlast]; exact hb
theorem reOf_l1 (x o fl : List Int) (hx : Pt x) (ho : Ord x o) (p : Nat) (hp : p < x.length) (a : Int) (hfl : fl.length = p)
    (H : ∀ b, FarAt x o p a b → ∃ f, FarS x o f x.length (rd f ((x.length : Int) - 1)) ∧ Ev (fun k => spec_reOf.l0 k x b o (o.length : Int) ((p + 1 : Nat) : Int) o (fl ++ [b])) (o, f)) : ∀ (d q : Nat) (b : Int), q + d = p →
    a ≤ b → (∀ q' : Nat, q' < q → Cq x o q' p → (q' : Int) + 1 ≤ b) → (b = a ∨ ∃ q' : Nat, q' < p ∧ Cq x o q' p ∧ b = (q' : Int) + 1) →
    ∃ f, FarS x o f x.length (rd f ((x.length : Int) - 1)) ∧ Ev (fun k => spec_reOf.l1 k x b (rd o (p : Int)) o (o.length : Int) (p : Int) (o.take p) ((o.take p).length : Int) (q : Int) o fl) (o, f) := by
  have hol := ho.len
  have h8 := hx.len
  have hlt : (o.take p).length = p := by rw [List.length_take]; omega
  intro d
  induction d with
  | zero =>
    intro q b hq h1 h2 h3
    obtain rfl : q = p := by omega
    obtain ⟨f, hf, he⟩ := H b ⟨h1, h2, h3⟩
    refine ⟨f, hf, ?_⟩
    refine Ev.step (f := ?f1) (fun n => ?h1) ?g1
    case g1 => exact he
    case h1 => rw [spec_reOf.l1, if_neg (by omega), if_pos (by omega), wrap_succ q (by omega)]
  | succ d ih =>
    intro q b hq h1 h2 h3
    have e : rd (o.take p) (q : Int) = rd o (q : Int) := rd_take o p q (by omega) (by omega)
    have ha1 := ho.at q (by omega)
    have ha2 := ho.at p hp
    have hv1 := ho.val hx q (by omega)
    have hv2 := ho.val hx p hp
    have hw : wrap64 (rd x (rd o (q : Int)) - rd x (rd o (p : Int))) = rd x (rd o (q : Int)) - rd x (rd o (p : Int)) := wrap64_in _ (by omega) (by omega)
    by_cases c1 : rd o (q : Int) < rd o (p : Int)
    · by_cases c2 : rd x (rd o (q : Int)) - rd x (rd o (p : Int)) > 100
      · have hc : Cq x o q p := ⟨c1, by omega⟩
        obtain ⟨b', hb', hm⟩ : ∃ b', spec_l1Most.f b ((q + 1 : Nat) : Int) = some b' ∧ (b' = b ∨ b' = (q : Int) + 1) ∧ b ≤ b' ∧ (q : Int) + 1 ≤ b' := by
          unfold spec_l1Most.f
          by_cases hgt : b > ((q + 1 : Nat) : Int)
          · exact ⟨b, if_pos hgt, .inl rfl, Int.le_refl _, by omega⟩
          · exact ⟨_, if_neg hgt, .inr (by omega), by omega, by omega⟩
        obtain ⟨f, hf, he⟩ := ih (q + 1) b' (by omega) (by omega) (fun q' h4 h5 => by
          rcases Nat.lt_or_eq_of_le (Nat.le_of_lt_succ h4) with h6 | h6
          · have := h2 q' h6 h5; omega
          · subst h6; exact hm.2.2) (by
          rcases hm.1 with e1 | e1
          · rcases h3 with e2 | ⟨q', a1, a2, a3⟩
            · exact .inl (by omega)
            · exact .inr ⟨q', a1, a2, by omega⟩
          · exact .inr ⟨q, by omega, hc, e1⟩)
        refine ⟨f, hf, Ev.step (fun k => ?h1) he⟩
        rw [spec_reOf.l1, if_pos (by omega), if_pos (by omega), if_pos (by omega), e, if_pos c1, if_pos (by omega), if_pos (by omega), if_pos (by omega), if_pos (by omega), hw, if_pos c2, wrap_succ q (by omega), hb', Option.bind_some]
      · obtain ⟨f, hf, he⟩ := ih (q + 1) b (by omega) h1 (fun q' h4 h5 => by
          rcases Nat.lt_or_eq_of_le (Nat.le_of_lt_succ h4) with h6 | h6
          · exact h2 q' h6 h5
          · subst h6; have := h5.2; omega) h3
        refine ⟨f, hf, Ev.step (fun k => ?h2) he⟩
        rw [spec_reOf.l1, if_pos (by omega), if_pos (by omega), if_pos (by omega), e, if_pos c1, if_pos (by omega), if_pos (by omega), if_pos (by omega), if_pos (by omega), hw, if_neg c2, wrap_succ q (by omega)]
    · obtain ⟨f, hf, he⟩ := ih (q + 1) b (by omega) h1 (fun q' h4 h5 => by
        rcases Nat.lt_or_eq_of_le (Nat.le_of_lt_succ h4) with h6 | h6
        · exact h2 q' h6 h5
        · subst h6; have := h5.1; omega) h3
      refine ⟨f, hf, Ev.step (fun k => ?h3) he⟩
      rw [spec_reOf.l1, if_pos (by omega), if_pos (by omega), if_pos (by omega), e, if_neg c1, wrap_succ q (by omega)]
theorem reOf_l0 (x o : List Int) (hx : Pt x) (ho : Ord x o) : ∀ (d p : Nat) (a : Int) (fl : List Int), p + d = x.length → FarS x o fl p a →
    ∃ f, FarS x o f x.length (rd f ((x.length : Int) - 1)) ∧ Ev (fun k => spec_reOf.l0 k x a o (o.length : Int) (p : Int) o fl) (o, f) := by
  have hol := ho.len
  have h8 := hx.len
  intro d
  induction d with
  | zero =>
    intro p a fl hp h
    obtain rfl : p = x.length := by omega
    refine ⟨fl, ⟨h.len, fun e => ?_, fun m hm => ?_, h.h0, h.hs⟩, Ev.step (f := fun _ => some (o, fl)) (fun k => ?_) (Ev.now _)⟩
    · have hl := h.len
      have : fl = [] := List.eq_nil_of_length_eq_zero (by omega)
      rw [this]; rfl
    · rw [show (x.length : Int) - 1 = (m : Int) by omega]
    · rw [spec_reOf.l0, if_neg (by omega)]
  | succ d ih =>
    intro p a fl hp h
    obtain ⟨f, hf, he⟩ := reOf_l1 x o fl hx ho p (by omega) a h.len (fun b hb => ih (p + 1) b _ (by omega) (h.next hb)) p 0 a (by omega) (Int.le_refl _) (fun q' h => by omega) (.inl rfl)
    refine ⟨f, hf, Ev.step (fun k => ?h1) he⟩
    rw [spec_reOf.l0, if_pos (by omega), if_pos (by omega), if_pos (by omega), if_pos (by omega), Option.bind_some, Int.toNat_natCast]
    rfl
theorem reOf_ev (x : List Int) (hx : Pt x) : Ev (fun k => spec_reOf.f k x) (rop x) := by
  obtain ⟨o, ho, he⟩ := reSorted_l0 x hx x.length 0 (by omega) [] ⟨by simp [iota], List.Pairwise.nil⟩
  have hol := ho.len
  obtain ⟨f, hf, he2⟩ := reOf_l0 x o hx ho x.length 0 0 [] (by omega) ⟨rfl, fun _ => rfl, fun m hm => by omega, fun h => by omega, fun m hm => by omega⟩
  have hr := of_farAt (x := x) (o := o) (f := f) ho.nd (by rw [hol]; exact ho.inr) (by rw [hf.len, hol]) hol.symm (fun p q h1 h2 => ho.dec p q h1 (by omega)) (fun h => hf.h0 (by omega)) (fun p hp => hf.hs p (by omega))
  have hq := rop_reg hx
  obtain ⟨e1, e2⟩ := region_unique hr.2 hq.2 hr.1 hq.1
  unfold spec_reOf.f
  refine Ev.bind he ?_
  have e3 : rop x = (o, f) := by rw [e1, e2]
  rw [e3]
  exact he2
theorem spec_RegionOfPoint_ev (x : List Int) (hs : x.length ≤ 1099511627776) : Ev (fun k => spec_RegionOfPoint.f k x) (ropR x) := by
  unfold spec_RegionOfPoint.f ropR
  refine Ev.bind (rePoint_ev x hs) ?_
  cases h : ptB x with
  | true => exact Ev.pos rfl (Ev.bind (reOf_ev x ((ptB_iff x).1 h)) (Ev.now _))
  | false => exact Ev.neg (by decide) (Ev.now _)
end Go.Proofs.Ytgfedgnpffockaa.Plain
