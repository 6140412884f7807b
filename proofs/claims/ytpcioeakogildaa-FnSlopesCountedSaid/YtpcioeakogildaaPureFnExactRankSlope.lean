/- The pure statement of the law FnExactRankSlope: the program's RankSlope and the reference's one answer alike; no condition beside the row's own. -/
import Derived.Test.YtpcioeakogildaaPAllx5
import Derived.Test.YtpcioeakogildaaBaseD
import Derived.Test.YtpcioeakogildaaBaseS
namespace Go.Proofs.Ytpcioeakogildaa.Pure
open Go.RowKit Go.Proofs.YtpcioeakogildaaW.PrintWords Go.Proofs.YtpcioeakogildaaW.PrintLast Go.Proofs.Ytpcioeakogildaa.Hand Go.Proofs.Ytpcioeakogildaa.PAll Go.Proofs.Ytpcioeakogildaa.Plain
set_option linter.unusedVariables false
namespace RankSlope
def rin (l : List Int) (a : Int) (i : Nat) : Nat → Nat → Int → Int
  | 0, _, acc => acc
  | d + 1, v, acc => rin l a i d (v + 1) (wrap64 (acc + sways (l.take i ++ [(v : Int)]) (l.length : Int) a))
def rout (l : List Int) (a : Int) : Nat → Nat → Int → Int
  | 0, _, acc => acc
  | d + 1, i, acc => rout l a d (i + 1) (rin l a i (rd l (i : Int)).toNat 0 acc)
theorem clone_eq (l : List Int) (hs : l.length ≤ 1099511627776) : slices_Clone_int_int.f l = some l := by
  unfold slices_Clone_int_int.f
  rw [if_pos (by omega)]
theorem impl_l1 {l : List Int} {a : Int} (h : slp l a = true) (i : Nat) (hi : i < l.length) (r : Int × Bool) : ∀ (d v : Nat) (acc : Int), (v : Int) + (d : Int) = rd l (i : Int) →
    Ev (fun k => impl_RankSlope.l0 k l a (rin l a i d v acc) l (l.length : Int) ((i + 1 : Nat) : Int)) r →
    Ev (fun k => impl_RankSlope.l1 k l a acc (i : Int) l (l.length : Int) (i : Int) (rd l (i : Int)) (v : Int)) r := by
  have hs := slp_slope h
  have hin := slope_in hs
  have hx := slp_in h l[i] (List.getElem_mem hi)
  have hrd := rd_nat l i hi
  intro d
  induction d with
  | zero =>
    intro v acc hd hg
    refine Ev.step (fun k => ?_) hg
    rw [impl_RankSlope.l1, if_neg (by omega), wrap_succ i (by omega)]
    rfl
  | succ d ih =>
    intro v acc hd hg
    have h0 := slopeCompletions_ev (l.take i ++ [(v : Int)]) hs (by simp; omega)
    refine Ev.step (f := ?f1) (fun k => ?h1) ?g1
    case h1 => rw [impl_RankSlope.l1, if_pos (by omega), if_pos (by omega), if_pos (by omega), Int.toNat_natCast, clone_eq _ (by simp; omega), Option.bind_some, if_pos (by simp; omega), wrap_succ v (by omega)]
    exact Ev.bind h0 (ih (v + 1) _ (by omega) hg)
theorem impl_l0 {l : List Int} {a : Int} (h : slp l a = true) : ∀ (d i : Nat) (acc : Int), i + d = l.length →
    Ev (fun k => impl_RankSlope.l0 k l a acc l (l.length : Int) (i : Int)) (rout l a d i acc, true) := by
  have hin := slope_in (slp_slope h)
  intro d
  induction d with
  | zero =>
    intro i acc hi
    refine Ev.step (f := fun _ => some (acc, true)) (fun k => ?_) (Ev.now _)
    rw [impl_RankSlope.l0, if_neg (by omega)]
  | succ d ih =>
    intro i acc hi
    have h1 : i < l.length := by omega
    have hx := slp_in h l[i] (List.getElem_mem h1)
    have hrd := rd_nat l i h1
    refine Ev.step (f := ?f1) (fun k => ?h1) ?g1
    case h1 => rw [impl_RankSlope.l0, if_pos (by omega), if_pos (by omega), if_pos (by omega)]
    exact impl_l1 h i h1 _ (rd l (i : Int)).toNat 0 acc (by omega) (ih (i + 1) _ (by omega))
def res (l : List Int) (a : Int) : Int × Bool := if slp l a = true then (rout l a l.length 0 0, true) else (0, false)
theorem impl_ev (l : List Int) (a : Int) : Ev (fun k => impl_RankSlope.f k l a) (res l a) := by
  unfold impl_RankSlope.f res
  refine Ev.bind (isSlopeParking_ev l a) ?_
  cases h : slp l a with
  | false => rw [if_neg (by decide)]; exact Ev.neg (by decide) (Ev.now _)
  | true =>
    rw [if_pos rfl]
    exact Ev.pos rfl (impl_l0 h l.length 0 0 (by omega))
end RankSlope
end Go.Proofs.Ytpcioeakogildaa.Pure
