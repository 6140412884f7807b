/- What the laws' marks come to, and what is held of them. Conditions: lengths below 2^40. -/
import Derived.Test.YtdhfildgjmkgaaaPAllx4
import Derived.Test.YtdhfildgjmkgaaaBaseE
namespace Go.Proofs.Ytdhfildgjmkgaaa.Plain
open Go.RowKit Go.Proofs.YtdhfildgjmkgaaaW.PrintWords Go.Proofs.YtdhfildgjmkgaaaW.PrintLast Go.Proofs.Ytdhfildgjmkgaaa.Hand Go.Proofs.Ytdhfildgjmkgaaa.PAll
set_option linter.unusedVariables false

theorem markIntS_l0 (l : List Int) (s : Int) (h0 : 0 ≤ s) (h1 : s ≤ 1099511627776) (hs : l.length ≤ 1099511627776) : ∀ (d n : Nat), n + d = l.length →
    Ev (fun k => laws_markIntS.l0 k (iota s n ++ l.drop n) (s + (n : Int)) (n : Int)) (s + (l.length : Int), iota s l.length) := by
  intro d
  induction d with
  | zero =>
    intro n hn
    have e : n = l.length := by omega
    subst e
    refine Ev.step (f := fun _ => some (s + (l.length : Int), iota s l.length)) (fun k => ?_) (Ev.const rfl)
    rw [laws_markIntS.l0, List.drop_length, List.append_nil, if_neg (by rw [iota_length]; omega)]
  | succ d ih =>
    intro n hn
    have hn2 : n < l.length := by omega
    have e : (iota s n ++ l.drop n).set n (s + (n : Int)) = iota s (n + 1) ++ l.drop (n + 1) := by
      rw [List.drop_eq_getElem_cons hn2, iota_succ, List.set_append_right _ _ (by rw [iota_length]; omega), iota_length, Nat.sub_self, List.set_cons_zero, List.append_assoc]
      rfl
    refine Ev.step (f := fun k => laws_markIntS.l0 k (iota s (n + 1) ++ l.drop (n + 1)) (s + ((n + 1 : Nat) : Int)) ((n + 1 : Nat) : Int)) (fun k => ?_) (ih (n + 1) (by omega))
    rw [laws_markIntS.l0, if_pos (by rw [List.length_append, iota_length, List.length_drop]; omega), if_pos (by omega), Int.toNat_natCast, e, wrap_succ n (by omega), wrap64_in (s + (n : Int) + 1) (by omega) (by omega)]
    congr 1
    omega
theorem markIntS_ev (l : List Int) (s : Int) (h0 : 0 ≤ s) (h1 : s ≤ 1099511627776) (hs : l.length ≤ 1099511627776) :
    Ev (fun k => laws_markIntS.f k l s) (s + (l.length : Int), iota s l.length) := by
  unfold laws_markIntS.f
  have h := markIntS_l0 l s h0 h1 hs l.length 0 (by omega)
  simpa [iota] using h

theorem heldIntS_l0 (s : Int) (m : Nat) (h0 : 0 ≤ s) (h1 : s ≤ 1099511627776) (hs : m ≤ 1099511627776) : ∀ (d n : Nat), n + d = m →
    Ev (fun k => laws_heldIntS.l0 k (iota s m) (s + (n : Int)) (n : Int)) (s + (m : Int)) := by
  intro d
  induction d with
  | zero =>
    intro n hn
    have e : n = m := by omega
    subst e
    refine Ev.step (f := fun _ => some (s + (n : Int))) (fun k => ?_) (Ev.const rfl)
    rw [laws_heldIntS.l0, if_neg (by rw [iota_length]; omega)]
  | succ d ih =>
    intro n hn
    refine Ev.step (f := fun k => laws_heldIntS.l0 k (iota s m) (s + ((n + 1 : Nat) : Int)) ((n + 1 : Nat) : Int)) (fun k => ?_) (ih (n + 1) (by omega))
    rw [laws_heldIntS.l0, if_pos (by rw [iota_length]; omega), if_pos (by omega), rd_nat _ n (by rw [iota_length]; omega), iota_get, if_pos rfl, wrap_succ n (by omega), wrap64_in (s + (n : Int) + 1) (by omega) (by omega)]
    congr 1
    omega
theorem heldIntS_ev (s : Int) (m : Nat) (h0 : 0 ≤ s) (h1 : s ≤ 1099511627776) (hs : m ≤ 1099511627776) :
    Ev (fun k => laws_heldIntS.f k (iota s m) s) (s + (m : Int)) := by
  unfold laws_heldIntS.f
  have h := heldIntS_l0 s m h0 h1 hs m 0 (by omega)
  simpa using h
end Go.Proofs.Ytdhfildgjmkgaaa.Plain
