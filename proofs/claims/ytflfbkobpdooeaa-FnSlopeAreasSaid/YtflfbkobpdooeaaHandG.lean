/- The contract of the stable sort in impl.BesideSlope: the cars' numbers by the numbers of the list. Condition: at most 8 cars. -/
import Derived.Test.YtflfbkobpdooeaaHandF
namespace Go.Proofs.Ytflfbkobpdooeaa.Hand
open Go.RowKit Go.Shelf Go.Maps Go.Sort
open Go.Proofs.YtflfbkobpdooeaaW.PrintWords Go.Proofs.YtflfbkobpdooeaaW.PrintLast
set_option linter.unusedVariables false
set_option linter.unusedSimpArgs false

set_option maxRecDepth 100000 in
set_option maxHeartbeats 2000000 in
theorem bes_cmp (gb : Nat) (A0 : Option Addr) (c0 : Nat) (l0 : List Int) (V : World) (hb : V.heap[gb]? = some (.cells #[.slice A0 l0.length c0] 24 (0, 0))) (hr : Kd.C (Kd.int .i64) V A0 l0.length l0) (i j : Nat) (hi : i < l0.length) (hj : j < l0.length) :
    Calls Try.prog 37 #[.int .i64 (i : Int), .int .i64 (j : Int), .pointer (some ⟨gb, 0, none⟩)] V fun e w' => e = .returned (.int .i64 (wrap64 (l0[i] - l0[j]))) ∧ ∃ q, w' = V.drewN q := by
  have hc0 : V.cell? ⟨gb, 0, none⟩ = some (.slice A0 l0.length c0) := (blk_cell hb 0).trans rfl
  obtain ⟨ad, rfl, hcs⟩ := hr.2.2 (by omega)
  have get : ∀ (k : Nat) (hk : k < l0.length), V.cell? (ad.add k) = some (.int .i64 l0[k]) := by
    intro k hk
    obtain ⟨c, hcl, hR, hcc⟩ := hcs k l0[k] (by simp [hk])
    have hcc' : c = [.int .i64 l0[k]] := hR
    subst hcc'
    have h1 := hcc 0 _ rfl
    have h2 : (Kd.int .i64).sz = 1 := rfl
    rwa [h2, Nat.mul_one, Nat.add_zero] at h1
  have hx := get i hi
  have hy := get j hj
  generalize l0[i] = x at hx ⊢
  generalize l0[j] = y at hy ⊢
  clear hr hcs get
  have q1 : ((0 : Int) ≤ (i : Int)) = True := eq_true (by omega)
  have q2 : ((i : Int) < (l0.length : Int)) = True := eq_true (by omega)
  have q3 : ((0 : Int) ≤ (j : Int)) = True := eq_true (by omega)
  have q4 : ((j : Int) < (l0.length : Int)) = True := eq_true (by omega)
  go_enter Try.func37, Try.ntmps37
  go_wp2
  go_big_region
  all_goals go_wp2
  go_ret
  exact ⟨rfl, _, rfl⟩

set_option maxRecDepth 100000 in
set_option maxHeartbeats 2000000 in
theorem insertion_bes (gb : Nat) (A0 : Option Addr) (c0 : Nat) (l0 : List Int) (w1 : World) (hgb : gb < w1.heap.size) (hb : w1.heap[gb]? = some (.cells #[.slice A0 l0.length c0] 24 (0, 0))) (hr : Kd.C (Kd.int .i64) w1 A0 l0.length l0)
    (h0 : 0 < l0.length) (h8 : l0.length ≤ 8) (blk cap : Nat) (W : World) (HB : Below w1.heap.size w1 W) (hblk : w1.heap.size ≤ blk)
    (hH : Holds encZ W blk 0 ((List.range l0.length).map fun i : Nat => (i : Int)).toArray) :
    Calls Try.prog 58 #[.slice (some ⟨blk, 0, none⟩) l0.length cap, .int .i64 0, .int .i64 (l0.length : Int), .func (.func 37) #[] #[.pointer (some ⟨gb, 0, none⟩)]] W fun e w' =>
      e = .returned (.tuple #[]) ∧ ∃ m, w' = grow (putRow encZ (Go.Sort.ahead W m) blk 0 (fairA l0)) #[] := by
  letI : Inhabited (Fin l0.length) := ⟨⟨0, h0⟩⟩
  have hsz : (Array.ofFn fun i : Fin l0.length => i).size = l0.length := Array.size_ofFn
  have hHF : Holds encF W blk 0 (Array.ofFn fun i : Fin l0.length => i) := by
    intro j hj
    have hj' : j < l0.length := by rw [hsz] at hj; exact hj
    have h1 := hH j (by simpa using hj')
    rw [getElem!_pos _ j (by simpa using hj')] at h1
    rw [getElem!_pos _ j hj]
    simpa [encF] using h1
  have hcmp : CmpReads Try.prog 37 #[.pointer (some ⟨gb, 0, none⟩)] encF (cfF l0) blk 0 (Array.ofFn fun i : Fin l0.length => i).size W := by
    intro m os dk hdk x y
    have hg : W.grownBy (sortWorld encF W blk 0 m dk os) (some blk) := by
      rw [sortWorld_conv]
      exact grownBy_sorted_i _
    have HB' : Below w1.heap.size w1 (sortWorld encF W blk 0 m dk os) := HB.grown hg HB.size (fun j hj => by cases hj; exact hblk)
    have h2 := bes_cmp gb A0 c0 l0 (sortWorld encF W blk 0 m dk os) ((HB'.block gb hgb).trans hb) (Kd.C_below hr HB') x.1 y.1 x.2 y.2
    exact h2
  have h3 := Try.insertionSortCmpFunc_one encF (fun _ => rfl) (cfF l0) 37 #[.pointer (some ⟨gb, 0, none⟩)] blk 0 cap 0 l0.length (Array.ofFn fun i : Fin l0.length => i) W (enters_of Try.func37 (by kernel_rfl) rfl) hcmp hHF (Nat.zero_le _) (by rw [hsz]; exact Nat.le_refl _) (by rw [hsz]; omega)
  rw [hsz] at h3
  refine h3.mono ?_
  rintro e w' ⟨rfl, m, rfl⟩
  refine ⟨rfl, m, ?_⟩
  rw [← sortWorld_none, sortWorld_conv]
  unfold fairA
  rw [dif_pos h0]

theorem fairL_length (l : List Int) : (fairL l).length = l.length := by unfold fairL; rw [Array.length_toList, fairA_size]
theorem fairL_nil (l : List Int) (h : l.length = 0) : fairL l = [] := List.eq_nil_of_length_eq_zero (by rw [fairL_length]; exact h)
set_option maxRecDepth 100000 in
set_option maxHeartbeats 2000000 in
theorem sort_bes (gb : Nat) (A0 : Option Addr) (c0 : Nat) (l0 : List Int) (w1 : World) (hgb : gb < w1.heap.size) (hb : w1.heap[gb]? = some (.cells #[.slice A0 l0.length c0] 24 (0, 0))) (hr : Kd.C (Kd.int .i64) w1 A0 l0.length l0)
    (h8 : l0.length ≤ 8) (v : Value) (W : World) (HB : Below w1.heap.size w1 W) (HO : Kd.R (Kd.int .i64) 3 W w1.heap.size (fun _ => True) v (upN l0.length)) :
    Calls Try.prog 36 #[v, .func (.func 37) #[] #[.pointer (some ⟨gb, 0, none⟩)]] W fun e w' =>
      e = .returned (.tuple #[]) ∧ Kd.R (Kd.int .i64) 3 w' w1.heap.size (fun _ => True) v (fairL l0) ∧ Below w1.heap.size w1 w' := by
  rcases (Kd.own_of_R HO).2 with ⟨hv, hz⟩ | ⟨g2, cap, cur, hv, hbase, hgb2, r1, r2, r3, r4⟩
  · subst hv
    rw [upN_length] at hz
    refine (sortStable_any none 0 _ 0 (by omega) W (fun w' => w' = W) (insertion_none _ _ _)).mono ?_
    rintro e w' ⟨rfl, rfl⟩
    exact ⟨rfl, by rw [fairL_nil l0 hz]; exact Kd.R_nil _ _ _ _ _, HB⟩
  · rw [upN_length] at hv
    rw [upN_length] at r1 r4
    subst hv
    by_cases h0 : 0 < l0.length
    · refine (sortStable_any _ cap _ l0.length h8 W _ (insertion_bes gb A0 c0 l0 w1 hgb hb hr h0 h8 g2 cap W HB hbase (holds_of_block_i (ss := upN l0.length) hgb2 (by rw [upN_length]; simpa [encs] using r4)))).mono ?_
      rintro e w' ⟨rfl, m, rfl⟩
      have hown := ownsRow_sorted_i (n := m) (os := #[]) (ss := upN l0.length) (ts := fairL l0) (by rw [fairL_length, upN_length]) hbase hgb2 (by rw [upN_length]; exact r1) r2 r3
      have harr : (fairL l0).toArray = fairA l0 := by unfold fairL; simp
      rw [harr, upN_length] at hown
      refine ⟨rfl, Kd.R_of_own ?_ (fun _ _ => trivial), HB.grown (grownBy_sorted_i _) HB.size (fun j hj => by cases hj; exact hbase)⟩
      rw [fairL_length]
      exact hown
    · have hz : l0.length = 0 := by omega
      refine (sortStable_any _ cap _ l0.length h8 W (fun w' => w' = W) (by rw [hz]; exact insertion_none _ _ _)).mono ?_
      rintro e w' ⟨rfl, rfl⟩
      have e0 : upN l0.length = [] := by rw [hz]; rfl
      refine ⟨rfl, ?_, HB⟩
      rw [fairL_nil l0 hz, ← e0]
      exact HO
end Go.Proofs.Ytflfbkobpdooeaa.Hand
