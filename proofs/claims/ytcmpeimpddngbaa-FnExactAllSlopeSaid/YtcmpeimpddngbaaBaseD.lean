/- How many slope parking functions go on a list: the program's count and the reference's one come to one number, made place by place. Conditions: a slope; a list no longer than it, of numbers from 0 on and below the number across. -/
import Derived.Test.YtcmpeimpddngbaaPAllx4
import Derived.Test.YtcmpeimpddngbaaPAllx5
import Derived.Test.YtcmpeimpddngbaaBaseR
import Derived.Test.YtcmpeimpddngbaaBaseJ
namespace Go.Proofs.Ytcmpeimpddngbaa.Plain
open Go.RowKit Go.Proofs.YtcmpeimpddngbaaW.PrintWords Go.Proofs.YtcmpeimpddngbaaW.PrintLast Go.Proofs.Ytcmpeimpddngbaa.Hand Go.Proofs.Ytcmpeimpddngbaa.PAll
set_option linter.unusedVariables false

/-- How many slope parking functions go on a list. -/
def sways (l : List Int) (n a : Int) : Int :=
  rd (dp (n.toNat - l.length) (fun v => upTo l (v : Int)) (fun v => upTo (bnds n a) (v : Int)) a.toNat 0 (1 :: List.replicate (n.toNat - l.length) 0)) ((n.toNat - l.length : Nat) : Int)

theorem slopeCompletions_l2 {n a : Int} (h : slope n a = true) (l bs : List Int) (left : Nat) (hleft : left ≤ 6) (need own w : Int) (hf : 0 ≤ own ∧ own ≤ 1000) (v : Nat) (kk : Nat) (hk : kk ≤ left) (wl : List Int) (r : Int) : ∀ (d m : Nat) (nxt : List Int), m + d = left - kk + 1 → nxt.length = left + 1 →
    Ev (fun k => impl_slopeCompletions.l1 k l (left : Int) bs need own (inn left own need w kk d m nxt) a (v : Int) wl (wl.length : Int) ((kk + 1 : Nat) : Int)) r →
    Ev (fun k => impl_slopeCompletions.l2 k l (left : Int) bs need own nxt (kk : Int) w (m : Int) a (v : Int) wl (wl.length : Int) (kk : Int)) r := by
  intro d
  induction d with
  | zero =>
    intro m nxt hm hn hg
    refine Ev.step (fun k => ?_) hg
    rw [impl_slopeCompletions.l2, wrap64_in ((kk : Int) + (m : Int)) (by omega) (by omega), if_neg (by omega), wrap_succ kk (by omega)]
    rfl
  | succ d ih =>
    intro m nxt hm hn hg
    have e1 : wrap64 ((kk : Int) + (m : Int)) = ((kk + m : Nat) : Int) := by rw [wrap64_in _ (by omega) (by omega)]; omega
    have e2 : wrap64 ((wrap64 (own + (kk : Int))) + (m : Int)) = own + (kk : Int) + (m : Int) := by rw [wrap64_in (own + (kk : Int)) (by omega) (by omega), wrap64_in _ (by omega) (by omega)]
    have e3 : wrap64 ((left : Int) - (kk : Int)) = ((left - kk : Nat) : Int) := by rw [wrap64_in _ (by omega) (by omega)]; omega
    rw [inn] at hg
    by_cases hc : own + (kk : Int) + (m : Int) ≥ need
    · rw [if_pos hc] at hg
      refine Ev.step (f := ?f1) (fun k => ?h1) ?g1
      case h1 => rw [impl_slopeCompletions.l2, e1, e2, e3, if_pos (by omega), if_pos hc, if_pos (by omega), if_pos (by omega), Int.toNat_natCast, wrap_succ m (by omega)]
      exact Ev.bind (choose_ev (left - kk) m (by omega) (by omega)) (ih (m + 1) _ (by omega) (by simpa using hn) hg)
    · rw [if_neg hc] at hg
      refine Ev.step (fun k => ?_) (ih (m + 1) _ (by omega) hn hg)
      rw [impl_slopeCompletions.l2, e1, e2, if_pos (by omega), if_neg hc, wrap_succ m (by omega)]
theorem slopeCompletions_l1 {n a : Int} (h : slope n a = true) (l bs : List Int) (left : Nat) (hleft : left ≤ 6) (need own : Int) (hf : 0 ≤ own ∧ own ≤ 1000) (v : Nat) (hv1 : (v : Int) < 1000) (wl : List Int) (hw : wl.length = left + 1) (r : Int) : ∀ (d kk : Nat) (nxt : List Int), kk + d = left + 1 → nxt.length = left + 1 →
    Ev (fun k => impl_slopeCompletions.l0 k l (left : Int) bs (outr left own need wl d kk nxt) a ((v + 1 : Nat) : Int)) r →
    Ev (fun k => impl_slopeCompletions.l1 k l (left : Int) bs need own nxt a (v : Int) wl (wl.length : Int) (kk : Int)) r := by
  intro d
  induction d with
  | zero =>
    intro kk nxt hm hn hg
    refine Ev.step (fun k => ?_) hg
    rw [impl_slopeCompletions.l1, if_neg (by omega), wrap_succ v (by omega)]
    rfl
  | succ d ih =>
    intro kk nxt hm hn hg
    rw [outr] at hg
    refine Ev.step (f := ?f1) (fun k => ?h1) ?g1
    case h1 => rw [impl_slopeCompletions.l1, if_pos (by omega), if_pos (by omega), if_pos (by omega)]
    exact slopeCompletions_l2 h l bs left hleft need own (rd wl (kk : Int)) hf v kk (by omega) wl r (left - kk + 1) 0 nxt (by omega) hn (ih (kk + 1) _ (by omega) (by rw [inn_length]; exact hn) hg)
theorem slopeCompletions_l0 {n a : Int} (h : slope n a = true) (l : List Int) (left : Nat) (hleft : left ≤ 6) (hl : l.length ≤ 6) : ∀ (d v : Nat) (wl : List Int), (v : Int) + (d : Int) = a → wl.length = left + 1 →
    Ev (fun k => impl_slopeCompletions.l0 k l (left : Int) (bnds n a) wl a (v : Int)) (rd (dp left (fun v => upTo l (v : Int)) (fun v => upTo (bnds n a) (v : Int)) d v wl) (left : Int)) := by
  have hin := slope_in h
  intro d
  induction d with
  | zero =>
    intro v wl hd hw
    refine Ev.step (f := fun _ => some (rd wl (left : Int))) (fun k => ?_) (Ev.now _)
    rw [impl_slopeCompletions.l0, if_neg (by omega), if_pos (by omega), if_pos (by omega)]
  | succ d ih =>
    intro v wl hd hw
    have hu := upTo_in l (v : Int)
    have e2 : wrap64 ((left : Int) + 1) = ((left + 1 : Nat) : Int) := wrap_succ left (by omega)
    rw [dp]
    refine Ev.step (f := ?f1) (fun k => ?h1) ?g1
    case h1 => rw [impl_slopeCompletions.l0, if_pos (by omega), countIf_slope1.f, Option.bind_some, countIf_slope2.f, Option.bind_some, e2, if_pos (by omega), if_pos (by omega), Int.toNat_natCast]
    exact slopeCompletions_l1 h l (bnds n a) left hleft (upTo (bnds n a) (v : Int)) (upTo l (v : Int)) (by omega) v (by omega) wl hw _ (left + 1) 0 (List.replicate (left + 1) 0) (by omega) (by simp) (ih (v + 1) _ (by omega) (by rw [outr_length]; simp))
theorem slopeCompletions_ev (l : List Int) {n a : Int} (h : slope n a = true) (hl : (l.length : Int) ≤ n) : Ev (fun k => impl_slopeCompletions.f k l n a) (sways l n a) := by
  have hin := slope_in h
  obtain ⟨left, hleft⟩ : ∃ left : Nat, left = n.toNat - l.length := ⟨_, rfl⟩
  have e1 : wrap64 (n - (l.length : Int)) = (left : Int) := by rw [wrap64_in _ (by omega) (by omega)]; omega
  have e2 : wrap64 ((left : Int) + 1) = ((left + 1 : Nat) : Int) := wrap_succ left (by omega)
  unfold impl_slopeCompletions.f
  rw [e1, e2]
  refine Ev.bind (bounds_ev h) (Ev.pos (by omega) (Ev.pos (by omega) (Ev.bindc rfl (Ev.pos (by simp) ?_))))
  have h0 := slopeCompletions_l0 h l left (by omega) (by omega) a.toNat 0 (1 :: List.replicate left 0) (by omega) (by simp)
  unfold sways
  rw [← hleft]
  exact h0
end Go.Proofs.Ytcmpeimpddngbaa.Plain
