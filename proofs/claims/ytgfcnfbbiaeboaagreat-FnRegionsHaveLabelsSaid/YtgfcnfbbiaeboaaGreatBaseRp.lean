/- The region of a point: what the program's RegionOfPoint and the reference's come to. Condition: the list is a point. -/
import Derived.Test.YtgfcnfbbiaeboaaGreatPAllx4
import Derived.Test.YtgfcnfbbiaeboaaGreatPAllx8
import Derived.Test.YtgfcnfbbiaeboaaGreatBaseRt
import Derived.Test.YtgfcnfbbiaeboaaGreatBasePp
namespace Go.Proofs.YtgfcnfbbiaeboaaGreat.Plain
open Go.RowKit Go.Proofs.YtgfcnfbbiaeboaaGreatW.PrintWords Go.Proofs.YtgfcnfbbiaeboaaGreatW.PrintLast Go.Proofs.YtgfcnfbbiaeboaaGreat.Hand Go.Proofs.YtgfcnfbbiaeboaaGreat.PAll
set_option linter.unusedVariables false
theorem ltP (x : List Int) (hx : Pt x) (a b : Fin x.length) : ltOf (cfP x) a b = decide (rd x (b.1 : Int) < rd x (a.1 : Int)) := by
  have h1 := hx.rd a.1 a.2
  have h2 := hx.rd b.1 b.2
  unfold ltOf cfP
  rw [rd_nat x a.1 a.2] at h1 ⊢
  rw [rd_nat x b.1 b.2] at h2 ⊢
  rw [wrap64_in _ (by omega) (by omega)]
  exact decide_eq_decide.2 (by omega)
theorem ropL_facts (x : List Int) (hx : Pt x) : (ropL x).Perm (iota 0 x.length) ∧ ∀ p q : Nat, p < q → q < x.length → rd x (rd (ropL x) (q : Int)) < rd x (rd (ropL x) (p : Int)) := by
  by_cases h : 0 < x.length
  · letI : Inhabited (Fin x.length) := ⟨⟨0, h⟩⟩
    have hS : Go.Sort.SWO (ltOf (cfP x)) := by
      refine ⟨fun a => ?_, fun a b c h1 h2 => ?_, fun a b c h1 h2 => ?_⟩
      · rw [ltP x hx]; exact decide_eq_false (by omega)
      · rw [ltP x hx] at h1 h2 ⊢
        have := of_decide_eq_true h1
        have := of_decide_eq_true h2
        exact decide_eq_true (by omega)
      · rw [ltP x hx] at h1 h2 ⊢
        have := of_decide_eq_false h1
        have := of_decide_eq_false h2
        exact decide_eq_false (by omega)
    obtain ⟨D, hD⟩ : ∃ D, D = Go.Sort.insertionSort (ltOf (cfP x)) (Array.ofFn fun i : Fin x.length => i) 0 x.length := ⟨_, rfl⟩
    have hh := Go.Sort.insertionSort_holds (lt := ltOf (cfP x)) hS (Array.ofFn fun i : Fin x.length => i) 0 x.length (Nat.zero_le _) (by simp)
    rw [← hD] at hh
    obtain ⟨⟨hs, _, hp⟩, hd⟩ := hh
    rw [Array.size_ofFn] at hs
    have ho : ropL x = D.toList.map fun z => (z.1 : Int) := by
      unfold ropL ropA
      rw [dif_pos h, ← hD, Array.toList_map]
    have hget : ∀ p (hp : p < x.length), rd (ropL x) (p : Int) = ((D[p]'(by omega)).1 : Int) := by
      intro p hp
      rw [ho, rd_nat _ p (by simp; omega)]
      simp
    have hperm : (ropL x).Perm (iota 0 x.length) := by
      have e1 : D.extract 0 x.length = D := by
        have := Array.extract_size (xs := D)
        rwa [hs] at this
      have e2 : (Array.ofFn fun i : Fin x.length => i).extract 0 x.length = Array.ofFn fun i : Fin x.length => i := by
        have := Array.extract_size (xs := Array.ofFn fun i : Fin x.length => i)
        rwa [Array.size_ofFn] at this
      rw [e1, e2] at hp
      rw [ho]
      refine (hp.map _).trans ?_
      have e3 : ((Array.ofFn fun i : Fin x.length => i).toList.map fun z => (z.1 : Int)) = iota 0 x.length := by
        refine List.ext_getElem (by simp [iota]) fun i h1 h2 => ?_
        rw [iota_get]
        simp
      rw [e3]
    refine ⟨hperm, fun p q hpq hq => ?_⟩
    · have h1 := hd p q (Nat.zero_le _) hpq hq
      rw [getElem!_pos D q (by omega), getElem!_pos D p (by omega), ltP x hx] at h1
      have h2 := of_decide_eq_false h1
      have hnd : (ropL x).Nodup := hperm.nodup_iff.2 (iota_nodup _)
      have hne : rd (ropL x) (p : Int) ≠ rd (ropL x) (q : Int) := by
        rw [rd_nat _ p (by rw [ropL_length]; omega), rd_nat _ q (by rw [ropL_length]; omega)]
        intro e
        have := (List.getElem_inj hnd).1 e
        omega
      rw [hget p (by omega), hget q hq] at hne ⊢
      have h4 : (D[p]'(by omega)).1 ≠ (D[q]'(by omega)).1 := fun e => hne (by rw [e])
      have h5 : rd x ((D[p]'(by omega)).1 : Int) ≠ rd x ((D[q]'(by omega)).1 : Int) := by
        rcases Nat.lt_or_gt_of_ne h4 with hl | hl
        · exact (hx.ne _ _ hl (D[q]'(by omega)).2).1
        · exact fun e => (hx.ne _ _ hl (D[p]'(by omega)).2).1 e.symm
      omega
  · have e : x = [] := List.eq_nil_of_length_eq_zero (by omega)
    subst e
    exact ⟨by rw [show ropL ([] : List Int) = [] from List.eq_nil_of_length_eq_zero (by rw [ropL_length]; rfl)]; exact List.Perm.nil, fun p q _ hq => by simp at hq⟩
/-- A sorted order: the numbers of the places, those with greater numbers first. -/
structure Ord (x o : List Int) : Prop where
  perm : o.Perm (iota 0 x.length)
  dec : ∀ p q : Nat, p < q → q < x.length → rd x (rd o (q : Int)) < rd x (rd o (p : Int))
theorem Ord.len {x o : List Int} (h : Ord x o) : o.length = x.length := by rw [h.perm.length_eq, iota_length]
theorem Ord.nd {x o : List Int} (h : Ord x o) : o.Nodup := h.perm.nodup_iff.2 (iota_nodup _)
theorem Ord.inr {x o : List Int} (h : Ord x o) : ∀ v ∈ o, 0 ≤ v ∧ v < (x.length : Int) := fun v hv => (iota_mem _ _).1 (h.perm.mem_iff.1 hv)
theorem Ord.at {x o : List Int} (h : Ord x o) (p : Nat) (hp : p < x.length) : 0 ≤ rd o (p : Int) ∧ rd o (p : Int) < (x.length : Int) :=
  h.inr _ (by rw [rd_nat o p (by rw [h.len]; exact hp)]; exact List.getElem_mem _)
theorem Ord.val {x o : List Int} (h : Ord x o) (hx : Pt x) (p : Nat) (hp : p < x.length) : -100000 ≤ rd x (rd o (p : Int)) ∧ rd x (rd o (p : Int)) ≤ 100000 := by
  have h1 := h.at p hp
  have h2 := hx.rd (rd o (p : Int)).toNat (by omega)
  rwa [Int.toNat_of_nonneg h1.1] at h2
theorem ropIn_far {x o : List Int} (hx : Pt x) (ho : Ord x o) (p : Nat) (hp : p < x.length) : ∀ (m q : Nat) (a : Int), q + m = p → a ≤ (q : Int) →
    a ≤ ropIn x o (rd o (p : Int)) m q a ∧ (∀ q' : Nat, q ≤ q' → q' < p → Cq x o q' p → (q' : Int) + 1 ≤ ropIn x o (rd o (p : Int)) m q a) ∧ (ropIn x o (rd o (p : Int)) m q a = a ∨ ∃ q' : Nat, q' < p ∧ Cq x o q' p ∧ ropIn x o (rd o (p : Int)) m q a = (q' : Int) + 1)
  | 0, q, a, hq, ha => ⟨Int.le_refl _, fun q' h1 h2 => by omega, .inl rfl⟩
  | m + 1, q, a, hq, ha => by
    have hv1 := ho.val hx p hp
    have hc : (rd o (q : Int) < rd o (p : Int) ∧ wrap64 (rd x (rd o (p : Int)) + 100) < rd x (rd o (q : Int))) ↔ Cq x o q p := by
      rw [wrap64_in _ (by omega) (by omega)]
      unfold Cq
      constructor
      · rintro ⟨h1, h2⟩; exact ⟨h1, by omega⟩
      · rintro ⟨h1, h2⟩; exact ⟨h1, by omega⟩
    rw [ropIn]
    by_cases h : rd o (q : Int) < rd o (p : Int) ∧ wrap64 (rd x (rd o (p : Int)) + 100) < rd x (rd o (q : Int))
    · rw [if_pos h]
      obtain ⟨h1, h2, h3⟩ := ropIn_far hx ho p hp m (q + 1) ((q : Int) + 1) (by omega) (by omega)
      refine ⟨by omega, fun q' h4 h5 h6 => ?_, .inr ?_⟩
      · rcases Nat.lt_or_eq_of_le h4 with h7 | h7
        · exact h2 q' h7 h5 h6
        · subst h7; exact h1
      · rcases h3 with e | ⟨q', h4, h5, h6⟩
        · exact ⟨q, by omega, hc.1 h, e⟩
        · exact ⟨q', h4, h5, h6⟩
    · rw [if_neg h]
      obtain ⟨h1, h2, h3⟩ := ropIn_far hx ho p hp m (q + 1) a (by omega) (by omega)
      refine ⟨h1, fun q' h4 h5 h6 => ?_, h3⟩
      rcases Nat.lt_or_eq_of_le h4 with h7 | h7
      · exact h2 q' h7 h5 h6
      · subst h7; exact absurd (hc.2 h6) h
theorem ropOut_rd (x o : List Int) : ∀ (N p : Nat), p < N → rd (ropOut x o N).2 (p : Int) = (ropOut x o (p + 1)).1 := by
  intro N
  induction N with
  | zero => intro p h; omega
  | succ N ih =>
    intro p h
    have e : (ropOut x o (N + 1)).2 = (ropOut x o N).2 ++ [(ropOut x o (N + 1)).1] := rfl
    rw [e]
    rcases Nat.lt_or_eq_of_le (Nat.le_of_lt_succ h) with h1 | h1
    · rw [rd_nat _ p (by rw [List.length_append, ropOut_length]; simp; omega), List.getElem_append_left (by rw [ropOut_length]; exact h1), ← rd_nat _ p (by rw [ropOut_length]; exact h1)]
      exact ih p h1
    · subst h1
      rw [rd_nat _ p (by rw [List.length_append, ropOut_length]; simp), List.getElem_append_right (by rw [ropOut_length]; exact Nat.le_refl _)]
      simp [ropOut_length]
theorem ropOut_far {x o : List Int} (hx : Pt x) (ho : Ord x o) (p : Nat) (hp : p < x.length) : FarAt x o p (ropOut x o p).1 (ropOut x o (p + 1)).1 := by
  have hle := ropOut_le x o p
  have h := ropIn_far hx ho p hp (p - (ropOut x o p).1.toNat) (ropOut x o p).1.toNat (ropOut x o p).1 (by omega) (by omega)
  have e : (ropOut x o (p + 1)).1 = ropIn x o (rd o (p : Int)) (p - (ropOut x o p).1.toNat) (ropOut x o p).1.toNat (ropOut x o p).1 := rfl
  rw [e]
  refine ⟨h.1, fun q hq hc => ?_, h.2.2⟩
  by_cases hlt : (q : Int) < (ropOut x o p).1
  · have := h.1; omega
  · exact h.2.1 q (by omega) hq hc
/-- The region of a point. -/
def rop (x : List Int) : List Int × List Int := (ropL x, (ropOut x (ropL x) x.length).2)
theorem rop_reg {x : List Int} (hx : Pt x) : RegP (rop x).1 (rop x).2 ∧ InReg x (rop x).1 (rop x).2 := by
  have hf := ropL_facts x hx
  have ho : Ord x (ropL x) := ⟨hf.1, hf.2⟩
  have hl := ho.len
  refine of_farAt ho.nd (by rw [show (rop x).1.length = x.length from hl]; exact ho.inr) (by show (ropOut x (ropL x) x.length).2.length = _; rw [ropOut_length]; exact hl.symm) hl.symm (fun p q h1 h2 => ho.dec p q h1 (by rw [← hl]; exact h2)) (fun h => ?_) (fun p hp => ?_)
  · have h0 : 0 < x.length := by rw [← hl]; exact h
    show FarAt x (ropL x) 0 0 (rd (ropOut x (ropL x) x.length).2 ((0 : Nat) : Int))
    rw [ropOut_rd x (ropL x) x.length 0 h0]
    exact ropOut_far hx ho 0 h0
  · have h1 : p + 1 < x.length := by rw [← hl]; exact hp
    show FarAt x (ropL x) (p + 1) (rd (ropOut x (ropL x) x.length).2 (p : Int)) (rd (ropOut x (ropL x) x.length).2 ((p + 1 : Nat) : Int))
    rw [ropOut_rd x (ropL x) x.length p (by omega), ropOut_rd x (ropL x) x.length (p + 1) h1]
    exact ropOut_far hx ho (p + 1) h1
def ropR (x : List Int) : List Int × List Int × Bool := if ptB x = true then ((rop x).1, (rop x).2, true) else ([], [], false)
theorem RegionOfPoint_ev (x : List Int) : Ev (fun k => impl_RegionOfPoint.f k x) (ropR x) := by
  unfold impl_RegionOfPoint.f ropR
  refine Ev.bind (isPoint_ev x) ?_
  cases h : ptB x with
  | true => exact Ev.pos rfl (Ev.pos ((ptB_iff x).1 h).len (Ev.now _))
  | false => exact Ev.neg (by decide) (Ev.now _)
structure OutI (x out : List Int) (i : Nat) : Prop where
  perm : out.Perm (iota 0 i)
  pw : out.Pairwise (fun a b => rd x b < rd x a)
theorem OutI.len {x out : List Int} {i : Nat} (h : OutI x out i) : out.length = i := by rw [h.perm.length_eq, iota_length]
theorem OutI.inr {x out : List Int} {i : Nat} (h : OutI x out i) : ∀ v ∈ out, 0 ≤ v ∧ v < (i : Int) := fun v hv => (iota_mem _ _).1 (h.perm.mem_iff.1 hv)
theorem OutI.put {x out : List Int} {i : Nat} (h : OutI x out i) (k : Nat) (hk : k ≤ out.length) (h1 : ∀ y ∈ out.take k, rd x (i : Int) < rd x y) (h2 : ∀ hlt : k < out.length, rd x out[k] < rd x (i : Int)) : OutI x ((out.take k ++ [(i : Int)]) ++ out.drop k) (i + 1) := by
  have hsplit : out.take k ++ out.drop k = out := List.take_append_drop k out
  have hp := h.pw
  rw [← hsplit, List.pairwise_append] at hp
  have h3 : ∀ y ∈ out.drop k, rd x y < rd x (i : Int) := by
    intro y hy
    rcases Nat.lt_or_ge k out.length with hlt | hge
    · have e := List.drop_eq_getElem_cons hlt
      rw [e] at hy
      have hpd := hp.2.1
      rw [e, List.pairwise_cons] at hpd
      rcases List.mem_cons.1 hy with rfl | hy
      · exact h2 hlt
      · exact Int.lt_trans (hpd.1 y hy) (h2 hlt)
    · rw [List.drop_eq_nil_of_le hge] at hy
      cases hy
  refine ⟨?_, ?_⟩
  · have e : iota 0 (i + 1) = iota 0 i ++ [(i : Int)] := by rw [iota_succ, Int.zero_add]
    rw [e, List.append_assoc]
    refine (List.Perm.append_left _ List.perm_append_comm).trans ?_
    rw [← List.append_assoc, hsplit]
    exact h.perm.append_right _
  · rw [List.append_assoc, List.pairwise_append]
    refine ⟨hp.1, ?_, ?_⟩
    · rw [List.singleton_append, List.pairwise_cons]
      exact ⟨h3, hp.2.1⟩
    · intro y hy z hz
      rw [List.singleton_append] at hz
      rcases List.mem_cons.1 hz with rfl | hz
      · exact h1 y hy
      · exact hp.2.2 y hy z hz
/-- What the reference has told of the far places so far. -/
structure FarS (x o fl : List Int) (p : Nat) (a : Int) : Prop where
  len : fl.length = p
  z : p = 0 → a = 0
  l : ∀ m : Nat, m + 1 = p → rd fl (m : Int) = a
  h0 : 0 < p → FarAt x o 0 0 (rd fl ((0 : Nat) : Int))
  hs : ∀ m : Nat, m + 1 < p → FarAt x o (m + 1) (rd fl (m : Int)) (rd fl ((m + 1 : Nat) : Int))
theorem rd_app (l m : List Int) (p : Nat) (h : p < l.length) : rd (l ++ m) (p : Int) = rd l (p : Int) := by
  rw [rd_nat _ p (by rw [List.length_append]; omega), List.getElem_append_left h, ← rd_nat l p h]
theorem rd_last (l : List Int) (v : Int) : rd (l ++ [v]) (l.length : Int) = v := by
  rw [rd_nat _ l.length (by simp)]
  simp
theorem FarS.next {x o fl : List Int} {p : Nat} {a b : Int} (h : FarS x o fl p a) (hb : FarAt x o p a b) : FarS x o (fl ++ [b]) (p + 1) b := by
  have hl := h.len
  have hlast : rd (fl ++ [b]) (p : Int) = b := by rw [← hl]; exact rd_last fl b
  refine ⟨by rw [List.length_append, hl]; rfl, fun e => by omega, fun m hm => ?_, fun _ => ?_, fun m hm => ?_⟩
  · rw [show m = p by omega]; exact hlast
  · rcases Nat.eq_zero_or_pos p with e | hp
    · subst e
      rw [h.z rfl] at hb
      rw [hlast]; exact hb
    · rw [rd_app _ _ 0 (by omega)]; exact h.h0 hp
  · rcases Nat.lt_or_eq_of_le (Nat.le_of_lt_succ hm) with e | e
    · rw [rd_app _ _ m (by omega), rd_app _ _ (m + 1) (by omega)]
      exact h.hs m e
    · rw [rd_app _ _ m (by omega), h.l m e, e, hlast]; exact hb
end Go.Proofs.YtgfcnfbbiaeboaaGreat.Plain
