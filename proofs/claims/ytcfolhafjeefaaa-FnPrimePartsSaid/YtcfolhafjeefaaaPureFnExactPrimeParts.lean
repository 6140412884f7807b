/- The pure facts of the law FnExactPrimeParts: the program's PrimeParts and the reference's one answer alike. Condition: a length below 2^40. -/
import Derived.Test.YtcfolhafjeefaaaPAllx1
import Derived.Test.YtcfolhafjeefaaaPAllx2
import Derived.Test.YtcfolhafjeefaaaPAllx3
import Derived.Test.YtcfolhafjeefaaaBaseC
namespace Go.Proofs.Ytcfolhafjeefaaa.Pure
open Go.RowKit Go.Proofs.YtcfolhafjeefaaaW.PrintWords Go.Proofs.YtcfolhafjeefaaaW.PrintLast Go.Proofs.Ytcfolhafjeefaaa.Hand Go.Proofs.Ytcfolhafjeefaaa.PAll Go.Proofs.Ytcfolhafjeefaaa.Plain
set_option linter.unusedVariables false
namespace PrimeParts
def part (l : List Int) (a b : Int) : List Int := (l.filter fun x => decide (a ≤ x ∧ x < b)).map fun x => x - a
theorem part_in (x : Int) (l : List Int) (a b : Int) (h : a ≤ x ∧ x < b) : part (x :: l) a b = (x - a) :: part l a b := by
  unfold part
  rw [List.filter_cons, if_pos (decide_eq_true h), List.map_cons]
theorem part_out (x : Int) (l : List Int) (a b : Int) (h : ¬ (a ≤ x ∧ x < b)) : part (x :: l) a b = part l a b := by
  unfold part
  rw [List.filter_cons, if_neg (by simpa using h)]
theorem part_length (l : List Int) (a b : Int) : (part l a b).length ≤ l.length := by
  unfold part
  rw [List.length_map]
  exact List.length_filter_le _ _
def pp (l cl : List Int) (k : Nat) : List (List Int) := (List.range k).map fun i : Nat => part l (rd cl (i : Int)) (rd cl ((i + 1 : Nat) : Int))
theorem pp_succ (l cl : List Int) (k : Nat) : pp l cl (k + 1) = pp l cl k ++ [part l (rd cl (k : Int)) (rd cl ((k + 1 : Nat) : Int))] := by simp [pp, List.range_succ]
theorem pp_length (l cl : List Int) (k : Nat) : (pp l cl k).length = k := by simp [pp]
theorem pp_mem (l cl : List Int) (k : Nat) : ∀ x ∈ pp l cl k, x.length ≤ l.length := by
  intro x hx
  unfold pp at hx
  obtain ⟨i, _, rfl⟩ := List.mem_map.1 hx
  exact part_length _ _ _
theorem cutsR_in (l : List Int) : ∀ (d j : Nat) (out : List Int), 1 ≤ j → (∀ c ∈ out, 1 ≤ c ∧ c < (j : Int)) → ∀ c ∈ cutsR l d j out, 1 ≤ c ∧ c < ((j + d : Nat) : Int) := by
  intro d
  induction d with
  | zero => intro j out hj h c hc; exact h c hc
  | succ d ih =>
    intro j out hj h c hc
    rw [cutsR] at hc
    have := ih (j + 1) _ (by omega) (by
      intro c hc
      split at hc
      · rcases List.mem_append.1 hc with h2 | h2
        · have := h c h2; omega
        · rw [List.mem_singleton] at h2; omega
      · have := h c hc; omega) c hc
    omega
theorem cutsL_in (l : List Int) : ∀ c ∈ cutsL l, 1 ≤ c ∧ c ≤ (l.length : Int) := by
  intro c hc
  have := cutsR_in l (l.length - 1) 1 [] (by omega) (by simp) c hc
  omega
/-- The cuts, and the ends. -/
def ends (l : List Int) : List Int := 0 :: (cutsL l ++ [(l.length : Int)])
theorem ends_length (l : List Int) : (ends l).length = (cutsL l).length + 2 := by simp [ends]
theorem ends_in (l : List Int) (n : Nat) : 0 ≤ rd (ends l) (n : Int) ∧ rd (ends l) (n : Int) ≤ (l.length : Int) := by
  by_cases h : n < (ends l).length
  · rw [rd_nat _ n h]
    have hm := List.getElem_mem h
    generalize (ends l)[n] = c at hm
    unfold ends at hm
    rcases List.mem_cons.1 hm with rfl | hm
    · omega
    · rcases List.mem_append.1 hm with hm | hm
      · have := cutsL_in l c hm; omega
      · rw [List.mem_singleton] at hm; omega
  · unfold rd
    rw [Int.toNat_natCast, List.getD_eq_getElem?_getD, List.getElem?_eq_none (by omega)]
    simp
theorem ends_pos (l : List Int) (hl : 0 < l.length) (n : Nat) (h : n + 1 < (ends l).length) : 0 < rd (ends l) ((n + 1 : Nat) : Int) := by
  rw [rd_nat _ (n + 1) h]
  have hm : (ends l)[n + 1] ∈ cutsL l ++ [(l.length : Int)] := List.getElem_mem (l := cutsL l ++ [(l.length : Int)]) (n := n) (by simpa [ends] using h)
  rcases List.mem_append.1 hm with hm | hm
  · have := cutsL_in l _ hm; omega
  · rw [List.mem_singleton] at hm; omega
theorem ends_tail (l : List Int) (n : Nat) (h : n < (cutsL l ++ [(l.length : Int)]).length) : rd (cutsL l ++ [(l.length : Int)]) (n : Int) = rd (ends l) ((n + 1 : Nat) : Int) := by
  rw [rd_nat _ n h, rd_nat _ (n + 1) (by simp [ends]; simp at h; omega)]
  rfl
theorem spec_l1 (l cl : List Int) (h8 : l.length ≤ 8) (hx : ∀ x ∈ l, 0 ≤ x ∧ x < 100) (out : List (List Int)) (ho : out.length ≤ 100) (i : Nat) (hi : i + 1 < cl.length) (hi2 : i ≤ 100) (hc : 0 ≤ rd cl (i : Int)) (R : List (List Int) × Bool) : ∀ (d n : Nat) (p : List Int), n + d = l.length → p.length ≤ n →
    Ev (fun k => spec_PrimeParts.l0 k l cl (out ++ [p ++ part (l.drop n) (rd cl (i : Int)) (rd cl ((i + 1 : Nat) : Int))]) ((i + 2 : Nat) : Int)) R →
    Ev (fun k => spec_PrimeParts.l1 k l cl out ((i + 1 : Nat) : Int) p l (l.length : Int) (n : Int)) R := by
  have hw : wrap64 (((i + 1 : Nat) : Int) - 1) = (i : Int) := by rw [wrap64_in _ (by omega) (by omega)]; omega
  intro d
  induction d with
  | zero =>
    intro n p hn hp h
    rw [List.drop_eq_nil_of_le (by omega), show part [] (rd cl (i : Int)) (rd cl ((i + 1 : Nat) : Int)) = [] from rfl, List.append_nil] at h
    refine Ev.step (fun k => ?_) h
    rw [spec_PrimeParts.l1, if_neg (by omega), if_pos (by omega), wrap_succ (i + 1) (by omega)]
  | succ d ih =>
    intro n p hn hp h
    have hlt : n < l.length := by omega
    have hxn := hx l[n] (List.getElem_mem hlt)
    rw [List.drop_eq_getElem_cons hlt] at h
    by_cases h1 : rd cl (i : Int) ≤ l[n] ∧ l[n] < rd cl ((i + 1 : Nat) : Int)
    · rw [part_in _ _ _ _ h1, show p ++ (l[n] - rd cl (i : Int)) :: part (l.drop (n + 1)) (rd cl (i : Int)) (rd cl ((i + 1 : Nat) : Int)) = (p ++ [l[n] - rd cl (i : Int)]) ++ part (l.drop (n + 1)) (rd cl (i : Int)) (rd cl ((i + 1 : Nat) : Int)) by simp] at h
      refine Ev.step (fun k => ?_) (ih (n + 1) (p ++ [l[n] - rd cl (i : Int)]) (by omega) (by simp; omega) h)
      rw [spec_PrimeParts.l1, if_pos (by omega), if_pos (by omega), if_pos (by omega), hw, if_pos (by omega), if_pos (by omega), rd_nat l n hlt, if_pos h1.1, if_pos (by omega), if_pos (by omega), if_pos h1.2, if_pos (by omega), wrap64_in (l[n] - rd cl (i : Int)) (by omega) (by omega), wrap_succ n (by omega)]
    · rw [part_out _ _ _ _ h1] at h
      refine Ev.step (fun k => ?_) (ih (n + 1) p (by omega) (by omega) h)
      rw [spec_PrimeParts.l1, if_pos (by omega), if_pos (by omega), if_pos (by omega), hw, if_pos (by omega), if_pos (by omega), rd_nat l n hlt]
      by_cases h2 : l[n] ≥ rd cl (i : Int)
      · rw [if_pos h2, if_pos (by omega), if_pos (by omega), if_neg (by omega), wrap_succ n (by omega)]
      · rw [if_neg h2, wrap_succ n (by omega)]
theorem spec_l0 (l cl : List Int) (h8 : l.length ≤ 8) (hx : ∀ x ∈ l, 0 ≤ x ∧ x < 100) (hc : ∀ n : Nat, 0 ≤ rd cl (n : Int)) (hl : cl.length ≤ 50) : ∀ (d i : Nat), i + 1 + d = cl.length →
    Ev (fun k => spec_PrimeParts.l0 k l cl (pp l cl i) ((i + 1 : Nat) : Int)) (pp l cl (cl.length - 1), true) := by
  intro d
  induction d with
  | zero =>
    intro i hi
    obtain rfl : i = cl.length - 1 := by omega
    refine Ev.step (f := fun _ => some (pp l cl (cl.length - 1), true)) (fun k => ?_) (Ev.now _)
    rw [spec_PrimeParts.l0, if_neg (by omega)]
  | succ d ih =>
    intro i hi
    have h := spec_l1 l cl h8 hx (pp l cl i) (by rw [pp_length]; omega) i (by omega) (by omega) (hc i) (pp l cl (cl.length - 1), true) l.length 0 [] (by omega) (by simp) (by
      rw [List.drop_zero, List.nil_append, ← pp_succ]
      exact ih (i + 1) (by omega))
    refine Ev.step (fun k => ?_) h
    rw [spec_PrimeParts.l0, if_pos (by omega)]
    rfl
theorem impl_l1 (l cs : List Int) (h8 : l.length ≤ 8) (hx : ∀ x ∈ l, 0 ≤ x ∧ x < 100) (out : List (List Int)) (ho : out.length ≤ 100) (a b : Int) (ha : 0 ≤ a) (hb0 : 0 < b) (hb : b ≤ 100) (i : Nat) (hi : i ≤ 100) (R : List (List Int) × Bool) : ∀ (d n : Nat) (p : List Int), n + d = l.length → p.length ≤ n →
    Ev (fun k => impl_PrimeParts.l0 k l (out ++ [p ++ part (l.drop n) a b]) b cs (cs.length : Int) ((i + 1 : Nat) : Int)) R →
    Ev (fun k => impl_PrimeParts.l1 k l out a b p cs (cs.length : Int) (i : Int) l (l.length : Int) (n : Int)) R := by
  intro d
  induction d with
  | zero =>
    intro n p hn hp h
    rw [List.drop_eq_nil_of_le (by omega), show part [] a b = [] from rfl, List.append_nil] at h
    refine Ev.step (fun k => ?_) h
    rw [impl_PrimeParts.l1, if_neg (by omega), if_pos hb0, if_pos (by omega), wrap_succ i (by omega)]
  | succ d ih =>
    intro n p hn hp h
    have hlt : n < l.length := by omega
    have hxn := hx l[n] (List.getElem_mem hlt)
    rw [List.drop_eq_getElem_cons hlt] at h
    have e : impl_between.f l[n] a (b - 1) = some (decide (a ≤ l[n] ∧ l[n] ≤ b - 1)) := between_eq _ _ _
    by_cases h1 : a ≤ l[n] ∧ l[n] < b
    · rw [part_in _ _ _ _ h1, show p ++ (l[n] - a) :: part (l.drop (n + 1)) a b = (p ++ [l[n] - a]) ++ part (l.drop (n + 1)) a b by simp] at h
      refine Ev.step (fun k => ?_) (ih (n + 1) (p ++ [l[n] - a]) (by omega) (by simp; omega) h)
      rw [impl_PrimeParts.l1, if_pos (by omega), if_pos (by omega), if_pos (by omega), rd_nat l n hlt, wrap64_in (b - 1) (by omega) (by omega), e, decide_eq_true (by omega), Option.bind_some, if_pos rfl, if_pos (by omega), wrap64_in (l[n] - a) (by omega) (by omega), wrap_succ n (by omega)]
    · rw [part_out _ _ _ _ h1] at h
      refine Ev.step (fun k => ?_) (ih (n + 1) p (by omega) (by omega) h)
      rw [impl_PrimeParts.l1, if_pos (by omega), if_pos (by omega), if_pos (by omega), rd_nat l n hlt, wrap64_in (b - 1) (by omega) (by omega), e, decide_eq_false (by omega), Option.bind_some, if_neg (by decide), wrap_succ n (by omega)]
theorem impl_l0 (l : List Int) (h8 : l.length ≤ 8) (h0 : 0 < l.length) (hx : ∀ x ∈ l, 0 ≤ x ∧ x < 100) : ∀ (d i : Nat), i + d = (cutsL l ++ [(l.length : Int)]).length →
    Ev (fun k => impl_PrimeParts.l0 k l (pp l (ends l) i) (rd (ends l) (i : Int)) (cutsL l ++ [(l.length : Int)]) ((cutsL l ++ [(l.length : Int)]).length : Int) (i : Int)) (pp l (ends l) ((ends l).length - 1), true) := by
  have hcl := cutsL_length l
  have hlen : (cutsL l ++ [(l.length : Int)]).length = (cutsL l).length + 1 := by simp
  have hel := ends_length l
  intro d
  induction d with
  | zero =>
    intro i hi
    obtain rfl : i = (ends l).length - 1 := by omega
    refine Ev.step (f := fun _ => some (pp l (ends l) ((ends l).length - 1), true)) (fun k => ?_) (Ev.now _)
    rw [impl_PrimeParts.l0, if_neg (by omega)]
  | succ d ih =>
    intro i hi
    have hb := ends_in l i
    have hb2 := ends_in l (i + 1)
    have hp := ends_pos l h0 i (by omega)
    have h := impl_l1 l (cutsL l ++ [(l.length : Int)]) h8 hx (pp l (ends l) i) (by rw [pp_length]; omega) (rd (ends l) (i : Int)) (rd (ends l) ((i + 1 : Nat) : Int)) hb.1 hp (by omega) i (by omega) (pp l (ends l) ((ends l).length - 1), true) l.length 0 [] (by omega) (by simp) (by
      rw [List.drop_zero, List.nil_append, ← pp_succ]
      exact ih (i + 1) (by omega))
    refine Ev.step (fun k => ?_) h
    rw [impl_PrimeParts.l0, if_pos (by omega), if_pos (by omega), if_pos (by omega), ends_tail l i (by omega)]
    rfl
theorem spec_ev (l : List Int) (hp : parking l = true) (h0 : 0 < l.length) : Ev (fun k => spec_PrimeParts.f k l) (pp l (ends l) ((ends l).length - 1), true) := by
  have h8 := parking_cars hp
  have hcl := cutsL_length l
  have hx : ∀ x ∈ l, 0 ≤ x ∧ x < 100 := fun x hx => by have := parking_in hp x hx; omega
  unfold spec_PrimeParts.f
  have hpk := paParking_ev l
  rw [hp] at hpk
  refine Ev.bind hpk (Ev.pos rfl (Ev.neg (by omega) ?_))
  simp only [Option.bind_some]
  refine Ev.bind (paCuts_ev l (by omega)) (Ev.pos (by simp; omega) (Ev.pos (by simp; omega) ?_))
  have h := spec_l0 l (ends l) h8 hx (fun n => (ends_in l n).1) (by rw [ends_length]; omega) ((ends l).length - 1) 0 (by rw [ends_length]; omega)
  have e : [(0 : Int)] ++ cutsL l ++ [(l.length : Int)] = ends l := by simp [ends]
  rw [e]
  exact h
theorem impl_ev (l : List Int) (hp : parking l = true) (h0 : 0 < l.length) : Ev (fun k => impl_PrimeParts.f k l) (pp l (ends l) ((ends l).length - 1), true) := by
  have h8 := parking_cars hp
  have hcl := cutsL_length l
  have hx : ∀ x ∈ l, 0 ≤ x ∧ x < 100 := fun x hx => by have := parking_in hp x hx; omega
  unfold impl_PrimeParts.f
  have hpk := isParking_ev l
  rw [hp] at hpk
  refine Ev.bind hpk (Ev.pos rfl (Ev.bind (cuts_ev l (by omega)) (Ev.pos (by omega) ?_)))
  simp only [Option.bind_some]
  have h := impl_l0 l h8 h0 hx (cutsL l ++ [(l.length : Int)]).length 0 (by omega)
  exact h
theorem no_ev (l : List Int) (hp : parking l = false) : Ev (fun k => spec_PrimeParts.f k l) ([], false) ∧ Ev (fun k => impl_PrimeParts.f k l) ([], false) := by
  have h1 := paParking_ev l
  have h2 := isParking_ev l
  rw [hp] at h1 h2
  refine ⟨?_, ?_⟩
  · unfold spec_PrimeParts.f
    exact Ev.bind h1 (Ev.neg (by decide) (Ev.now _))
  · unfold impl_PrimeParts.f
    exact Ev.bind h2 (Ev.neg (by decide) (Ev.now _))
theorem nil_eq : (∃ k, spec_PrimeParts.f k [] = some ([], true)) ∧ (∃ k, impl_PrimeParts.f k [] = some ([], true)) := ⟨⟨60, by decide +kernel⟩, ⟨60, by decide +kernel⟩⟩
end PrimeParts
theorem FnExactPrimeParts (l : List Int) (hs : l.length ≤ 1099511627776) : ∃ ws ok, ws.length ≤ 1000000 ∧ (∀ x ∈ ws, x.length ≤ 1000) ∧ (∃ k, spec_PrimeParts.f k l = some (ws, ok)) ∧ (∃ k, impl_PrimeParts.f k l = some (ws, ok)) := by
  cases hp : parking l with
  | false =>
    have h := PrimeParts.no_ev l hp
    exact ⟨[], false, by simp, by simp, Ev.rounds h.1, Ev.rounds h.2⟩
  | true =>
    have h8 := parking_cars hp
    have hcl := cutsL_length l
    by_cases h0 : 0 < l.length
    · refine ⟨_, true, ?_, ?_, Ev.rounds (PrimeParts.spec_ev l hp h0), Ev.rounds (PrimeParts.impl_ev l hp h0)⟩
      · rw [PrimeParts.pp_length, PrimeParts.ends_length]
        omega
      · intro x hx
        have := PrimeParts.pp_mem _ _ _ x hx
        omega
    · obtain rfl : l = [] := List.eq_nil_of_length_eq_zero (by omega)
      exact ⟨[], true, by simp, by simp, PrimeParts.nil_eq.1, PrimeParts.nil_eq.2⟩
end Go.Proofs.Ytcfolhafjeefaaa.Pure
