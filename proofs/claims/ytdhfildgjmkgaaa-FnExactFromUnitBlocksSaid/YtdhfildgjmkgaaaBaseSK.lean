/- Slices of slices that come in: sizes, copies, comparisons and marks of rows; and that the law FnExactFromUnitBlocks answers true. Conditions: lengths as the program's slices have them. -/
import Derived.Test.YtdhfildgjmkgaaaPAllx1
import Derived.Test.YtdhfildgjmkgaaaPAllx3
import Derived.Test.YtdhfildgjmkgaaaPAllx4
import Derived.Test.YtdhfildgjmkgaaaPAllx5
import Derived.Test.YtdhfildgjmkgaaaBaseM
import Derived.Test.YtdhfildgjmkgaaaPureFnExactFromUnitBlocks
namespace Go.Proofs.Ytdhfildgjmkgaaa.Plain
open Go.RowKit Go.Proofs.YtdhfildgjmkgaaaW.PrintWords Go.Proofs.YtdhfildgjmkgaaaW.PrintLast Go.Proofs.Ytdhfildgjmkgaaa.Hand Go.Proofs.Ytdhfildgjmkgaaa.PAll
set_option linter.unusedVariables false
set_option linter.unusedSimpArgs false
theorem rdK_mid (pre : List (List Int)) (x : List Int) (rest : List (List Int)) : rd_L1 (pre ++ x :: rest) (pre.length : Int) = x := by
  unfold rd_L1
  rw [Int.toNat_natCast, List.getD_eq_getElem?_getD, List.getElem?_append_right (Nat.le_refl _), Nat.sub_self]
  rfl
def totK : List (List Int) → Nat
  | [] => 0
  | x :: rest => x.length + totK rest
theorem totK_flat : ∀ L : List (List Int), L.flatten.length = totK L := by
  intro L
  induction L with
  | nil => rfl
  | cons x xs ih => rw [List.flatten_cons, List.length_append, ih, totK]
theorem totK_row : ∀ (L : List (List Int)) (x : List Int), x ∈ L → x.length ≤ totK L := by
  intro L
  induction L with
  | nil => intro x h; cases h
  | cons y ys ih =>
    intro x h
    rw [totK]
    rcases List.mem_cons.1 h with rfl | h
    · omega
    · have := ih x h
      omega
def marksK : Int → List (List Int) → List (List Int)
  | _, [] => []
  | s, x :: rest => iota s x.length :: marksK (s + (x.length : Int)) rest
theorem markSK_ev : ∀ (rest pre : List (List Int)) (s : Int), 0 ≤ s → s + (totK rest : Int) ≤ 1099511627776 → pre.length + rest.length ≤ 1099511627776 →
    Ev (fun k => markSK.l0 k (pre ++ rest) s (pre.length : Int)) (s + (totK rest : Int), pre ++ marksK s rest) := by
  intro rest
  induction rest with
  | nil =>
    intro pre s h0 h1 h2
    rw [show s + ((totK [] : Nat) : Int) = s by simp [totK], show pre ++ marksK s [] = pre ++ [] from rfl]
    refine Ev.step (f := fun _ => some (s, pre ++ [])) (fun k => ?_) (Ev.now _)
    rw [markSK.l0, if_neg (by simp)]
  | cons x rest ih =>
    intro pre s h0 h1 h2
    rw [totK] at h1
    rw [List.length_cons] at h2
    refine Ev.step (f := ?f1) (fun k => ?h1) ?g1
    case h1 => rw [markSK.l0, if_pos (by simp; omega), if_pos (by omega), show (pre ++ x :: rest).getD (pre.length : Int).toNat [] = x from rdK_mid pre x rest, Int.toNat_natCast]
    refine Ev.bind (markIntS_ev x s h0 (by omega) (by omega)) ?_
    have h := ih (pre ++ [iota s x.length]) (s + (x.length : Int)) (by omega) (by omega) (by simp; omega)
    rw [List.length_append, List.length_singleton, List.append_assoc, List.append_assoc] at h
    dsimp only
    rw [List.set_append_right _ _ (Nat.le_refl _), Nat.sub_self, List.set_cons_zero, wrap_succ pre.length (by omega), totK, show s + ((x.length + totK rest : Nat) : Int) = s + (x.length : Int) + (totK rest : Int) by omega]
    exact h
theorem toSK_ev : ∀ (rest pre : List (List Int)), pre.length + rest.length ≤ 1099511627776 → (∀ x ∈ rest, x.length ≤ 1099511627776) →
    Ev (fun k => laws_toIntSS.l0 k (pre ++ rest) (pre ++ List.replicate rest.length []) (pre.length : Int)) (pre ++ rest) := by
  intro rest
  induction rest with
  | nil =>
    intro pre h2 hx
    refine Ev.step (f := fun _ => some (pre ++ [])) (fun k => ?_) (Ev.now _)
    rw [laws_toIntSS.l0, if_neg (by simp)]
    rfl
  | cons x rest ih =>
    intro pre h2 hx
    rw [List.length_cons] at h2
    refine Ev.step (f := ?f1) (fun k => ?h1) ?g1
    case h1 => rw [laws_toIntSS.l0, if_pos (by simp; omega), if_pos (by omega), rdK_mid]
    refine Ev.bind (toIntS_ev x (hx x List.mem_cons_self)) (Ev.pos (by simp; omega) ?_)
    have h := ih (pre ++ [x]) (by simp; omega) (fun y hy => hx y (List.mem_cons_of_mem _ hy))
    rw [List.length_append, List.length_singleton, List.append_assoc, List.append_assoc] at h
    rw [Int.toNat_natCast, List.set_append_right _ _ (Nat.le_refl _), Nat.sub_self, List.length_cons, List.replicate_succ, List.set_cons_zero, wrap_succ pre.length (by omega)]
    exact h
theorem toSS_ev (L : List (List Int)) (hs : L.length ≤ 1099511627776) (hx : ∀ x ∈ L, x.length ≤ 1099511627776) : Ev (fun k => laws_toIntSS.f k L) L := by
  unfold laws_toIntSS.f
  refine Ev.pos (by omega) (Ev.pos (by omega) ?_)
  have h := toSK_ev L [] (by simp; omega) hx
  rw [Int.toNat_natCast]
  exact h
theorem eqSK_l0 (ls : List (List Int)) (hs : ls.length ≤ 1099511627776) (hx : ∀ x ∈ ls, x.length ≤ 1099511627776) : ∀ (d n : Nat), n + d = ls.length →
    Ev (fun k => laws_eqIntSS.l0 k ls ls (n : Int)) true := by
  intro d
  induction d with
  | zero =>
    intro n hn
    refine Ev.step (f := fun _ => some true) (fun k => ?_) (Ev.now _)
    rw [laws_eqIntSS.l0, if_neg (by omega)]
  | succ d ih =>
    intro n hn
    have hlt : n < ls.length := by omega
    have e : rd_L1 ls (n : Int) = ls[n] := by
      unfold rd_L1
      rw [Int.toNat_natCast, List.getD_eq_getElem?_getD, List.getElem?_eq_getElem hlt]
      rfl
    refine Ev.step (f := ?f1) (fun k => ?h1) ?g1
    case h1 => rw [laws_eqIntSS.l0, if_pos (by omega), if_pos (by omega), if_pos (by omega), e]
    refine Ev.bind (eqIntS_same ls[n] (hx _ (List.getElem_mem hlt))) (Ev.pos rfl ?_)
    rw [wrap_succ n (by omega)]
    exact ih (n + 1) (by omega)
theorem eqSK_same (ls : List (List Int)) (hs : ls.length ≤ 1099511627776) (hx : ∀ x ∈ ls, x.length ≤ 1099511627776) : Ev (fun k => laws_eqIntSS.f k ls ls) true := by
  unfold laws_eqIntSS.f
  exact Ev.pos rfl (eqSK_l0 ls hs hx ls.length 0 (by omega))
theorem szRow (x : List Int) (s : Int) (h : (x.length : Int) ≤ 9223372036854775807) (h0 : 0 ≤ s) (h1 : s ≤ 1048576) : laws_szIntS.f x s = some (if s < (x.length : Int) then -1 else s - (x.length : Int)) := by
  unfold laws_szIntS.f
  rw [wrap64_in (s - (x.length : Int)) (by omega) (by omega)]
  by_cases c : s - (x.length : Int) < 0
  · rw [if_pos c, if_pos (by omega)]
  · rw [if_neg c, if_neg (by omega)]
theorem szSK_ev : ∀ (rest pre : List (List Int)) (s : Int), 0 ≤ s → s ≤ 1048576 → pre.length + rest.length ≤ 1099511627776 → (∀ x ∈ rest, (x.length : Int) ≤ 9223372036854775807) →
    ∃ z : Int, Ev (fun k => laws_szIntSS.l0 k (pre ++ rest) s (pre.length : Int)) z ∧ (0 ≤ z → (totK rest : Int) ≤ s) := by
  intro rest
  induction rest with
  | nil =>
    intro pre s h0 h1 h2 hx
    refine ⟨s, Ev.step (f := fun _ => some s) (fun k => ?_) (Ev.now _), fun _ => by simp [totK]; omega⟩
    rw [laws_szIntSS.l0, if_neg (by simp)]
  | cons x rest ih =>
    intro pre s h0 h1 h2 hx
    rw [List.length_cons] at h2
    have hr := szRow x s (hx x List.mem_cons_self) h0 h1
    by_cases c : s < (x.length : Int)
    · rw [if_pos c] at hr
      refine ⟨-1, Ev.step (f := fun _ => some (-1)) (fun k => ?_) (Ev.now _), fun h => by omega⟩
      rw [laws_szIntSS.l0, if_pos (by simp; omega), if_pos (by omega), rdK_mid, hr, Option.bind_some, if_pos (by omega)]
    · rw [if_neg c] at hr
      obtain ⟨z, hz, hf⟩ := ih (pre ++ [x]) (s - (x.length : Int)) (by omega) (by omega) (by simp; omega) (fun y hy => hx y (List.mem_cons_of_mem _ hy))
      rw [List.length_append, List.length_singleton, List.append_assoc] at hz
      refine ⟨z, Ev.step (f := fun k => laws_szIntSS.l0 k (pre ++ ([x] ++ rest)) (s - (x.length : Int)) ((pre.length + 1 : Nat) : Int)) (fun k => ?_) hz, fun h => by have := hf h; rw [totK]; omega⟩
      rw [laws_szIntSS.l0, if_pos (by simp; omega), if_pos (by omega), rdK_mid, hr, Option.bind_some, if_neg (by omega), wrap_succ pre.length (by omega)]
      rfl
theorem szSS_ev (L : List (List Int)) (hl : (L.length : Int) ≤ 9223372036854775807) (hx : ∀ x ∈ L, (x.length : Int) ≤ 9223372036854775807) :
    ∃ z : Int, Ev (fun k => laws_szIntSS.f k L 1048576) z ∧ (0 ≤ z → L.length ≤ 1048576 ∧ totK L ≤ 1048576) := by
  unfold laws_szIntSS.f
  rw [wrap64_in (1048576 - (L.length : Int)) (by omega) (by omega)]
  by_cases c : 1048576 - (L.length : Int) < 0
  · exact ⟨-1, Ev.pos c (Ev.now _), fun h => by omega⟩
  · obtain ⟨z, hz, hf⟩ := szSK_ev L [] (1048576 - (L.length : Int)) (by omega) (by omega) (by simp; omega) hx
    exact ⟨z, Ev.neg c hz, fun h => by have := hf h; omega⟩
theorem fromUnit_all (L : List (List Int)) (hl : (L.length : Int) ≤ 9223372036854775807) (hx : ∀ x ∈ L, (x.length : Int) ≤ 9223372036854775807) : ∃ k, laws_FnExactFromUnitBlocks.f k L = some true := by
  refine Ev.rounds ?_
  unfold laws_FnExactFromUnitBlocks.f
  obtain ⟨z, hz, hf⟩ := szSS_ev L hl hx
  refine Ev.bind hz ?_
  by_cases c : z < 0
  · exact Ev.pos c (Ev.now _)
  obtain ⟨h1, h2⟩ := hf (by omega)
  have hrow : ∀ x ∈ L, x.length ≤ 1099511627776 := fun x h => by have := totK_row L x h; omega
  have hfl : L.flatten.length ≤ 1048576 := by rw [totK_flat]; exact h2
  have hres : (Pure.FromUnit.res L).1.length ≤ 1048576 := by
    unfold Pure.FromUnit.res
    split
    · unfold Pure.FromUnit.outOf
      rw [Pure.FromUnit.fillL_length, List.length_replicate]
      exact hfl
    · exact Nat.zero_le _
  refine Ev.neg c (Ev.bind (toSS_ev L (by omega) hrow) (Ev.pos rfl (Ev.bind (Pure.FromUnit.spec_ev L (by omega) (by omega)) (Ev.bind (Pure.FromUnit.impl_ev L (by omega) (by omega)) (Ev.pos rfl ?_)))))
  generalize Pure.FromUnit.res L = g at hres
  refine Ev.bind (eqIntS_same g.1 (by omega)) (Ev.pos rfl (Ev.bind (eqSK_same L (by omega) hrow) (Ev.pos rfl ?_)))
  have hm := markSK_ev L [] 1 (by omega) (by omega) (by simp; omega)
  rw [List.nil_append, List.nil_append] at hm
  refine Ev.bind hm (Ev.pos (by show (0 : Int) ≤ 1 + (totK L : Int); omega) (Ev.bind (markIntS_ev g.1 1 (by omega) (by omega) (by omega)) (Ev.pos (by show (0 : Int) ≤ 1 + (g.1.length : Int); omega) (Ev.bind (heldIntS_ev 1 g.1.length (by omega) (by omega) (by omega)) (Ev.pos rfl (Ev.now _))))))
end Go.Proofs.Ytdhfildgjmkgaaa.Plain
