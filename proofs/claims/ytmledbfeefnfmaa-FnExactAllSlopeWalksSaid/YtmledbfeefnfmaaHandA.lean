/- Contracts, proved by hand, of small functions that take a closure or compare a slice with nil: countIf at any predicate, its closures, areBetween, slices.Clone. Conditions: what each theorem states. -/
import Derived.Test.YtmledbfeefnfmaaProg
import Derived.Test.YtmledbfeefnfmaaWWords
import Derived.Test.YtmledbfeefnfmaaWLast
import Derived.Test.YtmledbfeefnfmaaWMore
import Derived.Lib.SliceRun
import Derived.WalkSpells
import Derived.Shelf.Abstract
namespace Go.Proofs.Ytmledbfeefnfmaa.Hand
open Go.RowKit Go.Proofs.YtmledbfeefnfmaaW.PrintWords Go.Proofs.YtmledbfeefnfmaaW.PrintLast Go.Proofs.YtmledbfeefnfmaaW.PrintMore
set_option linter.unusedVariables false
set_option linter.unusedSimpArgs false

/-- How many numbers of a list are so. -/
def cnt (p : Int → Bool) (l : List Int) : Int := ((l.filter p).length : Int)
theorem cnt_nonneg (p : Int → Bool) (l : List Int) : 0 ≤ cnt p l := by unfold cnt; omega
theorem cnt_le (p : Int → Bool) (l : List Int) : cnt p l ≤ l.length := by
  unfold cnt
  have := List.length_filter_le p l
  omega
theorem cnt_snoc (p : Int → Bool) (l : List Int) (i : Int) (h0 : 0 ≤ i) (h1 : i < (l.length : Int)) :
    cnt p (l.take (i + 1).toNat) = cnt p (l.take i.toNat) + (if p (rd l i) = true then 1 else 0) := by
  have hi : i.toNat < l.length := by omega
  have e : (i + 1).toNat = i.toNat + 1 := by omega
  have eg : l[i.toNat] = rd l i := by unfold rd; rw [List.getD_eq_getElem?_getD, List.getElem?_eq_getElem hi]; rfl
  rw [e, List.take_succ_eq_append_getElem hi, eg]
  unfold cnt
  rw [List.filter_append, List.length_append]
  cases hp : p (rd l i) <;> simp [List.filter_cons, hp]
theorem wrap64_in (x : Int) (h0 : -9223372036854775808 ≤ x) (h1 : x ≤ 9223372036854775807) : wrap64 x = x := by
  unfold wrap64
  omega

theorem any_snoc (p : Int → Bool) (l : List Int) (i : Int) (h0 : 0 ≤ i) (h1 : i < (l.length : Int)) :
    (l.take (i + 1).toNat).any p = ((l.take i.toNat).any p || p (rd l i)) := by
  have hi : i.toNat < l.length := by omega
  have e : (i + 1).toNat = i.toNat + 1 := by omega
  have eg : l[i.toNat] = rd l i := by unfold rd; rw [List.getD_eq_getElem?_getD, List.getElem?_eq_getElem hi]; rfl
  rw [e, List.take_succ_eq_append_getElem hi, eg, List.any_append]
  simp
theorem any_of_take (p : Int → Bool) (l : List Int) (n : Nat) (h : (l.take n).any p = true) : l.any p = true := by
  rw [List.any_eq_true] at h ⊢
  obtain ⟨x, hx, hp⟩ := h
  exact ⟨x, List.mem_of_mem_take hx, hp⟩

/-- What a closure that only tells a bool is asked. -/
def Tells (g : Nat) (lb : Array Value) (p : Int → Bool) (w : World) : Prop :=
  ∀ (x : Int) (m : Nat), Calls Try.prog g (#[.int .i64 x] ++ lb) (w.drewN m) fun e w' => e = .returned (.bool (p x)) ∧ Drawn0 (w.drewN m) w'

/-- The place of the first number that is so, from a place on; or -1. -/
def idxF (p : Int → Bool) (l : List Int) : Int := if l.any p then (l.findIdx p : Int) else -1



end Go.Proofs.Ytmledbfeefnfmaa.Hand
