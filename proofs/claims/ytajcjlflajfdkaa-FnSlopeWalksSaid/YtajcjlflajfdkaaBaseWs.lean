/- The laws' own comparisons of lists and of lists of lists. Condition: lengths below 1,000,001. -/
import Derived.Test.YtajcjlflajfdkaaPAllx3
import Derived.Test.YtajcjlflajfdkaaBaseA
namespace Go.Proofs.Ytajcjlflajfdkaa.Plain
open Go.RowKit Go.Proofs.YtajcjlflajfdkaaW.PrintWords Go.Proofs.YtajcjlflajfdkaaW.PrintLast Go.Proofs.Ytajcjlflajfdkaa.Hand Go.Proofs.Ytajcjlflajfdkaa.PAll
set_option linter.unusedVariables false
theorem wSame_l0 (l : List Int) (hs : l.length ≤ 1000000) : ∀ (d n : Nat), n + d = l.length → Ev (fun k => laws_wSame.l0 k l l (l.length : Int) (n : Int)) true := by
  intro d
  induction d with
  | zero =>
    intro n hn
    refine Ev.step (f := fun _ => some true) (fun k => ?_) (Ev.now _)
    rw [laws_wSame.l0, if_neg (by omega)]
  | succ d ih =>
    intro n hn
    refine Ev.step (fun k => ?_) (ih (n + 1) (by omega))
    rw [laws_wSame.l0, if_pos (by omega), if_pos (by omega), if_pos (by omega), if_pos (by omega), if_pos rfl, wrap_succ n (by omega)]
theorem wSame_ev (l : List Int) (hs : l.length ≤ 1000000) : Ev (fun k => laws_wSame.f k l l) true := by
  unfold laws_wSame.f
  exact Ev.pos rfl (wSame_l0 l hs l.length 0 (by omega))
theorem rdw_nat (L : List (List Int)) (i : Nat) (h : i < L.length) : rd_L2 L (i : Int) = L[i] := by
  unfold rd_L2
  rw [Int.toNat_natCast, List.getD_eq_getElem?_getD, List.getElem?_eq_getElem h]
  rfl
theorem wSameLists_l0 (L : List (List Int)) (hs : L.length ≤ 1000000) (hr : ∀ x ∈ L, x.length ≤ 1000000) : ∀ (d n : Nat), n + d = L.length → Ev (fun k => laws_wSameLists.l0 k L L (L.length : Int) (n : Int)) true := by
  intro d
  induction d with
  | zero =>
    intro n hn
    refine Ev.step (f := fun _ => some true) (fun k => ?_) (Ev.now _)
    rw [laws_wSameLists.l0, if_neg (by omega)]
  | succ d ih =>
    intro n hn
    have hlt : n < L.length := by omega
    refine Ev.step (f := ?f1) (fun k => ?h1) ?g1
    case h1 => rw [laws_wSameLists.l0, if_pos (by omega), if_pos (by omega), if_pos (by omega), if_pos (by omega), rdw_nat L n hlt, wrap_succ n (by omega)]
    exact Ev.bind (wSame_ev _ (hr _ (List.getElem_mem hlt))) (Ev.pos rfl (ih (n + 1) (by omega)))
theorem wSameLists_ev (L : List (List Int)) (hs : L.length ≤ 1000000) (hr : ∀ x ∈ L, x.length ≤ 1000000) : Ev (fun k => laws_wSameLists.f k L L) true := by
  unfold laws_wSameLists.f
  exact Ev.pos rfl (wSameLists_l0 L hs hr L.length 0 (by omega))
end Go.Proofs.Ytajcjlflajfdkaa.Plain
