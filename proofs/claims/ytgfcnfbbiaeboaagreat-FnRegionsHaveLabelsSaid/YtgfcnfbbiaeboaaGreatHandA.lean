/- Contracts, proved by hand, of small functions that take a closure or compare a slice with nil: countIf at any predicate, its closures, areBetween, slices.Clone. Conditions: what each theorem states. -/
import Derived.Test.YtgfcnfbbiaeboaaGreatProg
import Derived.Test.YtgfcnfbbiaeboaaGreatWWords
import Derived.Test.YtgfcnfbbiaeboaaGreatWLast
import Derived.Test.YtgfcnfbbiaeboaaGreatWMore
import Derived.Lib.SliceRun
import Derived.WalkSpells
import Derived.Shelf.Abstract
namespace Go.Proofs.YtgfcnfbbiaeboaaGreat.Hand
open Go.RowKit Go.Proofs.YtgfcnfbbiaeboaaGreatW.PrintWords Go.Proofs.YtgfcnfbbiaeboaaGreatW.PrintLast Go.Proofs.YtgfcnfbbiaeboaaGreatW.PrintMore
set_option linter.unusedVariables false
set_option linter.unusedSimpArgs false

/-- How many numbers of a list are so. -/
def cnt (p : Int → Bool) (l : List Int) : Int := ((l.filter p).length : Int)
theorem cnt_nonneg (p : Int → Bool) (l : List Int) : 0 ≤ cnt p l := by unfold cnt; omega
theorem cnt_le (p : Int → Bool) (l : List Int) : cnt p l ≤ l.length := by
  unfold cnt
  have := List.length_filter_le p l
  omega
theorem cnt_snoc (p : Int → Bool) (l : List Int) (i : Int) (h0 : 0 ≤ i) (h1 : i < (l.length : Int)) :
    cnt p (l.take (i + 1).toNat) = cnt p (l.take i.toNat) + (if p (rd l i) = true then 1 else 0) := by
  have hi : i.toNat < l.length := by omega
  have e : (i + 1).toNat = i.toNat + 1 := by omega
  have eg : l[i.toNat] = rd l i := by unfold rd; rw [List.getD_eq_getElem?_getD, List.getElem?_eq_getElem hi]; rfl
  rw [e, List.take_succ_eq_append_getElem hi, eg]
  unfold cnt
  rw [List.filter_append, List.length_append]
  cases hp : p (rd l i) <;> simp [List.filter_cons, hp]
theorem wrap64_in (x : Int) (h0 : -9223372036854775808 ≤ x) (h1 : x ≤ 9223372036854775807) : wrap64 x = x := by
  unfold wrap64
  omega

theorem any_snoc (p : Int → Bool) (l : List Int) (i : Int) (h0 : 0 ≤ i) (h1 : i < (l.length : Int)) :
    (l.take (i + 1).toNat).any p = ((l.take i.toNat).any p || p (rd l i)) := by
  have hi : i.toNat < l.length := by omega
  have e : (i + 1).toNat = i.toNat + 1 := by omega
  have eg : l[i.toNat] = rd l i := by unfold rd; rw [List.getD_eq_getElem?_getD, List.getElem?_eq_getElem hi]; rfl
  rw [e, List.take_succ_eq_append_getElem hi, eg, List.any_append]
  simp
theorem any_of_take (p : Int → Bool) (l : List Int) (n : Nat) (h : (l.take n).any p = true) : l.any p = true := by
  rw [List.any_eq_true] at h ⊢
  obtain ⟨x, hx, hp⟩ := h
  exact ⟨x, List.mem_of_mem_take hx, hp⟩

/-- What a closure that only tells a bool is asked. -/
def Tells (g : Nat) (lb : Array Value) (p : Int → Bool) (w : World) : Prop :=
  ∀ (x : Int) (m : Nat), Calls Tryz.prog g (#[.int .i64 x] ++ lb) (w.drewN m) fun e w' => e = .returned (.bool (p x)) ∧ Drawn0 (w.drewN m) w'

set_option maxHeartbeats 2000000 in
theorem countIf_any (p : Int → Bool) (g : Nat) (lb : Array Value) (eg : ∀ args w, (callFunc g args).run Tryz.prog w = .ok (.enter g args) w)
    (A0 : Option Addr) (c0 : Nat) (l0 : List Int) (w : World) (hr0 : Kd.C (Kd.int .i64) w A0 l0.length l0) (hp : Tells g lb p w) :
    Calls Tryz.prog 52 #[.slice A0 l0.length c0, .func (.func g) #[] lb] w fun e w' => e = .returned (.int .i64 (cnt p l0)) ∧ Drawn0 w w' := by
  have HM : Aside0 (l0.length ≤ 9223372036854775807) := ⟨hr0.2.1⟩
  have HR0 := Aside0.mk hr0
  clear hr0
  have HP := Aside0.mk hp
  clear hp
  go_enter Tryz.func52, Tryz.ntmps52
  go_wp2
  go_loopg [5, 10] l0.length (fun gg v5 v10 wr => ∃ (x5 x10 : Int), v5 = .int .i64 x5 ∧ v10 = .int .i64 x10 ∧ Aside0 (0 ≤ x10 ∧ x10 ≤ l0.length ∧ (l0.length : Int) - x10 ≤ gg ∧ x5 = cnt p (l0.take x10.toNat)) ∧ Drawn0 w wr)
  case atStart => exact ⟨0, 0, rfl, rfl, ⟨by omega, by omega, by omega, by simp [cnt]⟩, Drawn0.refl _⟩
  case round =>
    obtain ⟨x5, x10, rfl, rfl, HA, ⟨q, rfl⟩⟩ := hrel
    have hcr := cnt_nonneg p (l0.take x10.toNat)
    have hcl := cnt_le p (l0.take x10.toNat)
    have HC := Aside0.mk (And.intro hcr hcl)
    clear hcr hcl
    by_cases c3 : x10 < (l0.length : Int)
    · have p3 : 0 ≤ x10 := HA.out.1
      obtain ⟨ad, e, hx⟩ := Kd.at_int HR0.out x10 p3 c3
      have HS := Aside0.mk (cnt_snoc p l0 x10 p3 c3)
      cases e
      have c3b0 : decide (x10 < (l0.length : Int)) = true := decide_eq_true c3
      have q3 : (x10 < (l0.length : Int)) = True := eq_true c3
      clear c3
      replace p3 := eq_true p3
      have hcall := HP.out (rd l0 x10)
      cases hq : p (rd l0 x10) with
      | true =>
        rw [hq] at hcall
        have HQ := Aside0.mk hq
        clear hq
        go_wp2_with (go_at_fn g; refine (hcall _).mono ?_; rintro e w' ⟨rfl, ⟨nd, rfl⟩⟩)
        go_roundg (gk - 1)
        case measure => have h1 := HA.out; have h2 := of_decide_eq_true c3b0; omega
        case rel =>
          have h1 := HA.out
          have h2 := HM.out
          have h3 := of_decide_eq_true c3b0
          have h4 := HC.out
          have h5 : (l0.take x10.toNat).length ≤ x10.toNat := List.length_take_le _ _
          refine ⟨_, _, rfl, rfl, ⟨?_⟩, by repeat (first | exact Drawn0.refl _ | apply Drawn0.step)⟩
          rw [wrap64_in (x10 + 1) (by omega) (by omega), wrap64_in (x5 + 1) (by omega) (by omega)]
          refine ⟨by omega, by omega, by omega, ?_⟩
          rw [HS.out, HQ.out, if_pos rfl]
          omega
      | false =>
        rw [hq] at hcall
        have HQ := Aside0.mk hq
        clear hq
        go_wp2_with (go_at_fn g; refine (hcall _).mono ?_; rintro e w' ⟨rfl, ⟨nd, rfl⟩⟩)
        go_roundg (gk - 1)
        case measure => have h1 := HA.out; have h2 := of_decide_eq_true c3b0; omega
        case rel =>
          have h1 := HA.out
          have h2 := HM.out
          have h3 := of_decide_eq_true c3b0
          refine ⟨_, _, rfl, rfl, ⟨?_⟩, by repeat (first | exact Drawn0.refl _ | apply Drawn0.step)⟩
          rw [wrap64_in (x10 + 1) (by omega) (by omega)]
          refine ⟨by omega, by omega, by omega, ?_⟩
          rw [HS.out, HQ.out, if_neg (by decide)]
          omega
    · have c3b0 : decide (x10 < (l0.length : Int)) = false := decide_eq_false c3
      have HE : Aside0 (x5 = cnt p l0) := ⟨by
        have h1 := HA.out
        rw [h1.2.2.2, List.take_of_length_le (by omega)]⟩
      clear c3
      go_wp2
      go_ret
      exact ⟨by rw [HE.out]; rfl, by repeat (first | exact Drawn0.refl _ | apply Drawn0.step)⟩

/-- The place of the first number that is so, from a place on; or -1. -/
def idxF (p : Int → Bool) (l : List Int) : Int := if l.any p then (l.findIdx p : Int) else -1

set_option maxHeartbeats 2000000 in
theorem indexFunc_any (p : Int → Bool) (g : Nat) (lb : Array Value) (eg : ∀ args w, (callFunc g args).run Tryz.prog w = .ok (.enter g args) w)
    (A0 : Option Addr) (c0 : Nat) (l0 : List Int) (w : World) (hr0 : Kd.C (Kd.int .i64) w A0 l0.length l0) (hp : Tells g lb p w) :
    Calls Tryz.prog 81 #[.slice A0 l0.length c0, .func (.func g) #[] lb] w fun e w' => (∃ i : Int, e = .returned (.int .i64 i) ∧ decide (0 ≤ i) = l0.any p) ∧ Drawn0 w w' := by
  have HM : Aside0 (l0.length ≤ 9223372036854775807) := ⟨hr0.2.1⟩
  have HR0 := Aside0.mk hr0
  clear hr0
  have HP := Aside0.mk hp
  clear hp
  go_enter Tryz.func81, Tryz.ntmps81
  go_wp2
  go_loopg [5, 8] l0.length (fun gg v5 v8 wr => ∃ (x8 : Int), v8 = .int .i64 x8 ∧ Aside0 (0 ≤ x8 ∧ x8 ≤ l0.length ∧ (l0.length : Int) - x8 ≤ gg ∧ (l0.take x8.toNat).any p = false) ∧ Drawn0 w wr)
  case atStart => exact ⟨0, rfl, ⟨by omega, by omega, by omega, by simp⟩, Drawn0.refl _⟩
  case round =>
    obtain ⟨x8, rfl, HA, ⟨q, rfl⟩⟩ := hrel
    by_cases c3 : x8 < (l0.length : Int)
    · have p3 : 0 ≤ x8 := HA.out.1
      obtain ⟨ad, e, hx⟩ := Kd.at_int HR0.out x8 p3 c3
      have HS := Aside0.mk (any_snoc p l0 x8 p3 c3)
      cases e
      have c3b0 : decide (x8 < (l0.length : Int)) = true := decide_eq_true c3
      have q3 : (x8 < (l0.length : Int)) = True := eq_true c3
      clear c3
      replace p3 := eq_true p3
      have hcall := HP.out (rd l0 x8)
      cases hq : p (rd l0 x8) with
      | true =>
        rw [hq] at hcall
        have HQ := Aside0.mk hq
        clear hq
        go_wp2_with (go_at_fn g; refine (hcall _).mono ?_; rintro e w' ⟨rfl, ⟨nd, rfl⟩⟩)
        go_ret
        refine ⟨⟨x8, rfl, ?_⟩, by repeat (first | exact Drawn0.refl _ | apply Drawn0.step)⟩
        have h1 := HA.out
        have h3 := of_decide_eq_true c3b0
        rw [decide_eq_true h1.1]
        symm
        have h4 := HS.out
        rw [HQ.out, h1.2.2.2] at h4
        exact any_of_take p l0 _ h4
      | false =>
        rw [hq] at hcall
        have HQ := Aside0.mk hq
        clear hq
        go_wp2_with (go_at_fn g; refine (hcall _).mono ?_; rintro e w' ⟨rfl, ⟨nd, rfl⟩⟩)
        go_roundg (gk - 1)
        case measure => have h1 := HA.out; have h2 := of_decide_eq_true c3b0; omega
        case rel =>
          have h1 := HA.out
          have h2 := HM.out
          have h3 := of_decide_eq_true c3b0
          refine ⟨_, rfl, ⟨?_⟩, by repeat (first | exact Drawn0.refl _ | apply Drawn0.step)⟩
          rw [wrap64_in (x8 + 1) (by omega) (by omega)]
          refine ⟨by omega, by omega, by omega, ?_⟩
          rw [HS.out, HQ.out, h1.2.2.2]
          rfl
    · have c3b0 : decide (x8 < (l0.length : Int)) = false := decide_eq_false c3
      have HE : Aside0 (l0.any p = false) := ⟨by
        have h1 := HA.out.2.2.2
        rwa [List.take_of_length_le (by omega)] at h1⟩
      clear c3
      go_wp2
      go_ret
      exact ⟨⟨-1, rfl, by rw [HE.out]; rfl⟩, by repeat (first | exact Drawn0.refl _ | apply Drawn0.step)⟩

set_option maxHeartbeats 2000000 in
theorem containsFunc_any (p : Int → Bool) (g : Nat) (lb : Array Value) (eg : ∀ args w, (callFunc g args).run Tryz.prog w = .ok (.enter g args) w)
    (A0 : Option Addr) (c0 : Nat) (l0 : List Int) (w : World) (hr0 : Kd.C (Kd.int .i64) w A0 l0.length l0) (hp : Tells g lb p w) :
    Calls Tryz.prog 67 #[.slice A0 l0.length c0, .func (.func g) #[] lb] w fun e w' => e = .returned (.bool (l0.any p)) ∧ Drawn0 w w' := by
  have HR0 := Aside0.mk hr0
  clear hr0
  have HP := Aside0.mk hp
  clear hp
  go_enter Tryz.func67, Tryz.ntmps67
  go_wp2_with (go_at_call 81; refine (indexFunc_any p g lb eg A0 c0 l0 _ HR0.out HP.out).mono ?_; rintro e w' ⟨⟨i, rfl, hi⟩, ⟨nd, rfl⟩⟩; have HI := Aside0.mk hi; clear hi)
  go_ret
  exact ⟨by rw [← HI.out]; rfl, by repeat (first | exact Drawn0.refl _ | apply Drawn0.step)⟩

end Go.Proofs.YtgfcnfbbiaeboaaGreat.Hand
