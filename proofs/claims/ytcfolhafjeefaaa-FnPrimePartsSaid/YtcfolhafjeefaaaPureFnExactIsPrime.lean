/- The pure statement of the law FnExactIsPrime: the program's IsPrime and the reference's one answer alike at every list; no condition beside the row's own. -/
import Derived.Test.YtcfolhafjeefaaaPAllx3
import Derived.Test.YtcfolhafjeefaaaBaseC
namespace Go.Proofs.Ytcfolhafjeefaaa.Pure
open Go.RowKit Go.Proofs.YtcfolhafjeefaaaW.PrintWords Go.Proofs.YtcfolhafjeefaaaW.PrintLast Go.Proofs.Ytcfolhafjeefaaa.Hand Go.Proofs.Ytcfolhafjeefaaa.PAll Go.Proofs.Ytcfolhafjeefaaa.Plain
set_option linter.unusedVariables false
namespace IsPrime
def prime (l : List Int) : Bool := decide (0 < l.length) && ((cutsL l).length : Int) == 0
theorem vaPrime_ev (l : List Int) (hs : l.length ≤ 1099511627776) : Ev (fun k => spec_vaPrime.f k l) (prime l) := by
  unfold spec_vaPrime.f prime
  by_cases h : 0 < l.length
  · rw [decide_eq_true h, Bool.true_and]
    exact Ev.pos (by omega) (Ev.bind (paCuts_ev l hs) (Ev.now _))
  · rw [decide_eq_false h, Bool.false_and]
    exact Ev.neg (by omega) (Ev.now _)
theorem isPrime_ev (l : List Int) (hs : l.length ≤ 1099511627776) : Ev (fun k => impl_isPrime.f k l) (prime l) := by
  unfold impl_isPrime.f prime
  by_cases h : 0 < l.length
  · rw [decide_eq_true h, Bool.true_and]
    exact Ev.pos (by omega) (Ev.bind (cuts_ev l hs) (Ev.now _))
  · rw [decide_eq_false h, Bool.false_and]
    exact Ev.neg (by omega) (Ev.now _)
def res (l : List Int) : Bool × Bool := if parking l = true then (prime l, true) else (false, false)
theorem spec_ev (l : List Int) (hs : l.length ≤ 1099511627776) : Ev (fun k => spec_IsPrime.f k l) (res l) := by
  unfold spec_IsPrime.f res
  refine Ev.bind (paParking_ev l) ?_
  cases h : parking l with
  | true =>
    rw [if_pos rfl]
    exact Ev.pos rfl (Ev.bind (vaPrime_ev l hs) (Ev.now _))
  | false =>
    rw [if_neg (by decide)]
    exact Ev.neg (by decide) (Ev.now _)
theorem impl_ev (l : List Int) (hs : l.length ≤ 1099511627776) : Ev (fun k => impl_IsPrime.f k l) (res l) := by
  unfold impl_IsPrime.f res
  refine Ev.bind (isParking_ev l) ?_
  cases h : parking l with
  | true =>
    rw [if_pos rfl]
    exact Ev.pos rfl (Ev.bind (isPrime_ev l hs) (Ev.now _))
  | false =>
    rw [if_neg (by decide)]
    exact Ev.neg (by decide) (Ev.now _)
end IsPrime
end Go.Proofs.Ytcfolhafjeefaaa.Pure
