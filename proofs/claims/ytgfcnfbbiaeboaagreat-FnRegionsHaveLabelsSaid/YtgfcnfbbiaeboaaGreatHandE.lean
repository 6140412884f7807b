/- The contracts of slices.Sorted at a slice's values, and of impl.sorted: a new slice with the ints sorted. Condition: fewer than 2^40 ints. -/
import Derived.Test.YtgfcnfbbiaeboaaGreatHandD
import Derived.Test.YtgfcnfbbiaeboaaGreatHandS
import Derived.Lib.SlKeysI
namespace Go.Proofs.YtgfcnfbbiaeboaaGreat.Hand
open Go.RowKit Go.Shelf Go.Maps Go.Sort
open Go.Proofs.YtgfcnfbbiaeboaaGreatW.PrintWords Go.Proofs.YtgfcnfbbiaeboaaGreatW.PrintLast
set_option linter.unusedVariables false
set_option linter.unusedSimpArgs false

theorem block_of_cell {w : World} {p : Addr} {v : Value} (h : w.cell? p = some v) : p.block < w.heap.size := by
  rcases Nat.lt_or_ge p.block w.heap.size with h1 | h1
  · exact h1
  · simp [World.cell?, Array.getElem?_eq_none h1] at h

set_option maxRecDepth 100000 in
set_option maxHeartbeats 2000000 in
theorem slicesSorted_any (Bs : Nat) (sv : Value) (zs : List Int) (hreach : zs.length ≤ 1099511627776) (w : World) (hBs : Bs < w.heap.size)
    (hc : w.cell? ⟨Bs, 0, none⟩ = some sv) (hI : Ints w.heap.size w sv zs) :
    Calls Tryz.prog 79 #[.func (.func 89) #[] #[.pointer (some ⟨Bs, 0, none⟩)]] w fun e W' => ∃ v, e = .returned v ∧ W'.ownsRow w.heap.size 3 1 v (zs.mergeSort fun x y => decide (x ≤ y)).length ((zs.mergeSort fun x y => decide (x ≤ y)).map (Value.int .i64)) ∧ Below w.heap.size w W' := by
  have HC := Aside0.mk (callsIn_wide.1 (collect_in Fence.wide 10 trivial trivial trivial rfl (by omega) Bs sv zs hreach w hBs hc hI))
  go_enter Tryz.func79, Tryz.ntmps79
  go_wp2_with (go_at_call 87; refine HC.out.mono ?_; rintro e W ⟨v, rfl, hrow, hb⟩)
  rcases hrow.2 with ⟨rfl, hz⟩ | ⟨gb, cap, cur, rfl, hbase, hgb, r1, r2, r3, r4⟩
  · have hss : zs = [] := List.eq_nil_of_length_eq_zero hz
    subst hss
    go_wp2_with (go_at_call 88; refine (Tryz.slices_Sort_int_none none 0 W).mono ?_; rintro e w' ⟨rfl, rfl⟩)
    go_ret
    exact ⟨_, rfl, by simpa using hrow, hb⟩
  · have hH : Holds (Value.int .i64) W gb 0 zs.toArray := holds_of_block_i hgb (by simpa using r4)
    have hgl : gb < W.heap.size := (Array.getElem?_eq_some_iff.1 hgb).1
    have cS := Tryz.slices_Sort_int gb 0 cap zs W hH hgl (by omega)
    go_wp2_with (go_at_call 88; refine cS.mono ?_; rintro e w' ⟨rfl, nn, os, rfl⟩)
    go_ret
    refine ⟨_, rfl, ?_, hb.grown (grownBy_sorted_i _) hb.size (fun j hj => by cases hj; exact hbase)⟩
    have hl : (zs.mergeSort fun x y => decide (x ≤ y)).length = zs.length := List.length_mergeSort _
    have := ownsRow_sorted_i (n := nn) (os := os) (ts := zs.mergeSort fun x y => decide (x ≤ y)) hl hbase hgb r1 r2 r3
    rw [← hl] at this
    rw [hl] at this ⊢
    exact this

def impl_sorted.f (l0 : List Int) : Option (List Int) := if l0.length ≤ 1099511627776 then some (l0.mergeSort fun x y => decide (x ≤ y)) else none
set_option maxRecDepth 100000 in
set_option maxHeartbeats 2000000 in
theorem impl_sorted.calls (A0 : Option Addr) (c0 : Nat) (l0 : List Int) (r : List Int) (w : World) (hr0 : Kd.C (Kd.int .i64) w A0 l0.length l0) (hc0 : l0.length ≤ c0) (h : impl_sorted.f l0 = some r) :
    Calls Tryz.prog 65 #[.slice A0 l0.length c0] w fun e w' => ∃ v0_ : Value, e = .returned (v0_) ∧ Kd.R (Kd.int .i64) 3 w' w.heap.size (fun _ => True) v0_ r ∧ Below w.heap.size w w' := by
  unfold impl_sorted.f at h
  split at h
  case isFalse => cases h
  case isTrue hreach =>
  obtain rfl := Option.some.inj h
  have hI : Ints w.heap.size w (.slice A0 l0.length c0) l0 := by
    refine ⟨A0, c0, rfl, fun h0 => ?_, fun ad he j hj => ?_⟩
    · obtain ⟨ad, e, _⟩ := hr0.2.2 h0
      exact ⟨ad, e⟩
    · obtain ⟨ad', e, hcs⟩ := hr0.2.2 (by omega)
      obtain rfl : ad = ad' := by rw [he] at e; exact Option.some.inj e
      obtain ⟨c, hcl, hR, hcc⟩ := hcs j l0[j] (by simp [hj])
      have hcc' : c = [.int .i64 l0[j]] := hR
      subst hcc'
      have h1 := hcc 0 _ rfl
      have h2 : (Kd.int .i64).sz = 1 := rfl
      rw [h2, Nat.mul_one, Nat.add_zero] at h1
      refine ⟨block_of_cell h1, ?_⟩
      rw [h1]
      simp [hj]
  have hb0 : Below w.heap.size w (w.alloc (.cells #[.slice A0 l0.length c0] 24)) := below_alloc (Below.refl _ _) _
  have HV := Aside0.mk (callsIn_wide.1 (values_in Fence.wide 10 trivial rfl A0 l0.length c0 w))
  have HS := Aside0.mk (slicesSorted_any w.heap.size (.slice A0 l0.length c0) l0 hreach (w.alloc (.cells #[.slice A0 l0.length c0] 24)) (by simp) (cell_one_new _ _ _ 0 _ rfl) (by
    obtain ⟨a, cap, e, hs, hcs⟩ := hI.below hb0
    exact ⟨a, cap, e, hs, fun ad he j hj => ⟨Nat.lt_of_lt_of_le (hcs ad he j hj).1 (by simp), (hcs ad he j hj).2⟩⟩))
  clear hr0 hI
  go_enter Tryz.func65, Tryz.ntmps65
  go_wp2_with (first | (go_at_call 80; refine HV.out.mono ?_; rintro e w' ⟨rfl, rfl⟩) | (go_at_call 79; refine HS.out.mono ?_; rintro e w' ⟨v, rfl, hr, hb⟩))
  go_ret
  refine ⟨v, rfl, Kd.R_of_own (own_weaken hr (by simp)) (fun _ _ => trivial), ?_⟩
  exact hb0.trans (hb.mono (by simp))
#print axioms impl_sorted.calls
end Go.Proofs.YtgfcnfbbiaeboaaGreat.Hand
