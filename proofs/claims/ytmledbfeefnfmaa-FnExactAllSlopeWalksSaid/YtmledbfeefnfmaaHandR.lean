/- The contract of slices.Repeat at a slice of one int and the count 7: a new slice that holds the int seven times. Conditions: the slice has one int; the count is 7. -/
import Derived.Test.YtmledbfeefnfmaaHandB
import Derived.Laws.CopyOwn
import Derived.Laws.CopyRow
import Derived.Test.YtmledbfeefnfmaaWTab
namespace Go.Proofs.Ytmledbfeefnfmaa.Hand
open Go.RowKit
open Go.Proofs.YtmledbfeefnfmaaW.PrintWords Go.Proofs.YtmledbfeefnfmaaW.PrintLast
set_option linter.unusedVariables false
set_option linter.unusedSimpArgs false
set_option maxRecDepth 100000 in
set_option maxHeartbeats 2000000 in
theorem mul64_one (W : World) : Calls Try.prog 44 #[.int .u64 1, .int .u64 7] W fun e w' => e = .returned (.tuple #[.int .u64 0, .int .u64 7]) ∧ W = w' := by
  go_enter Try.func44, Try.ntmps44
  go_wp2
  go_ret2
  exact ⟨rfl, rfl⟩
set_option maxRecDepth 100000 in
set_option maxHeartbeats 2000000 in
theorem mul_one_ (W : World) : Calls Try.prog 39 #[.int .u64 1, .int .u64 7] W fun e w' => e = .returned (.tuple #[.int .u64 0, .int .u64 7]) ∧ W = w' := by
  go_enter Try.func39, Try.ntmps39
  go_wp2_with (go_at_call 44; refine (mul64_one _).mono ?_; rintro e w' ⟨rfl, rfl⟩)
  go_ret2
  exact ⟨rfl, rfl⟩
def repeat_T : Bool × List (List Nat × List Nat) := (true, [([], []), ([], []), ([], []), ([1, 2], [1, 2]), ([], []), ([], []), ([4, 5], [4, 5]), ([3, 6], [3, 6]), ([0, 7], [0, 7]), ([8, 7, 0, 1, 2, 3, 4, 5, 6, 7, 8], [0, 2, 5, 8])])
def repeat_B : List Nat := [0, 0, 0, 6, 0, 0, 48, 126, 255, 511]
theorem repeat_tab : rtab .any (opsOf Try.f35 9) = repeat_T := by kernel_rfl
theorem repeat_bits : waitsOk repeat_T.2 repeat_B = true := by kernel_rfl
/-- A row of seven ints, of which n are x. -/
def row7 (x : Int) (n : Nat) : List Value := List.replicate n (.int .i64 x) ++ List.replicate (7 - n) (.int .i64 0)
theorem made7 : madeCells #[Value.int .i64 0] 7 = (row7 0 0).toArray := by
  apply Array.ext'
  show _ = List.replicate 0 (Value.int .i64 0) ++ List.replicate 7 (Value.int .i64 0)
  rw [List.replicate_zero, List.nil_append]
  apply List.ext_getElem
  · simp [madeCells]
  · intro i h1 h2
    rw [List.getElem_replicate]
    simp [madeCells, Nat.mod_one]
theorem add0 (ad : Addr) : ad.add 0 = ad := by simp [Addr.add]
set_option maxRecDepth 100000 in
set_option maxHeartbeats 8000000 in
theorem repeat_one (ad : Addr) (c0 : Nat) (x : Int) (w : World) (hx : w.cell? ad = some (.int .i64 x)) :
    Calls Try.prog 35 #[.slice (some ad) 1 c0, .int .i64 7] w fun e w' => ∃ v0_ : Value, e = .returned (v0_) ∧ Kd.R (Kd.int .i64) 3 w' w.heap.size (fun _ => True) v0_ (List.replicate 7 x) ∧ Below w.heap.size w w' := by
  have hsz : (Try.prog.info? 3).map (·.size) = some 1 := by kernel_rfl
  have HS := Aside0.mk hsz
  obtain ⟨w1, hw1⟩ : ∃ w1, w1 = w.alloc (.cells (madeCells #[.int .i64 0] 7) 3) := ⟨_, rfl⟩
  have hg1 : w1.heap[w.heap.size]? = some (.cells (row7 0 0).toArray 3 (0, 0)) := by rw [hw1, blk_new, made7]
  have hb1 : Below w.heap.size w w1 := by rw [hw1]; exact below_alloc (Below.refl _ _) _
  have hx1 : w1.cell? (ad.add 0) = some (.int .i64 x) := by rw [add0]; exact (hb1.cell (World.block_lt_of_cell? w _ hx)).trans hx
  have hcp := run_copy_row (P := Try.prog) w1 28 28 3 3 w.heap.size 0 7 7 ad 1 c0 (row7 0 0).toArray 3 [.int .i64 x] Try.underlying28 hsz hg1 rfl (fun j v hj => by
    cases j with
    | zero => simp at hj; subst hj; exact hx1
    | succ j => simp at hj) (by simp [row7]) (by simp [Value.oneCell'])
  obtain ⟨w2, hw2⟩ : ∃ w2, w2 = w1.setRow w.heap.size ((row7 0 0).toArray.toList.take 0 ++ [Value.int .i64 x] ++ (row7 0 0).toArray.toList.drop (0 + [Value.int .i64 x].length)).toArray := ⟨_, rfl⟩
  rw [← hw2] at hcp
  have HG := Aside0.mk (show w2.heap[w.heap.size]? = some (.cells (row7 x 1).toArray 3 (0, 0)) by rw [hw2]; exact setRow_heap w1 w.heap.size _ _ 3 (0, 0) hg1)
  have HB := Aside0.mk (show Below w.heap.size w w2 by rw [hw2]; exact below_setRow hb1 (Nat.le_refl _) _)
  have hmk : ∀ W : World, (Instr.makeSlice 28 (.int .i64 7) (.int .i64 7)).run Try.prog W = .ok (.slice (some ⟨W.heap.size, 0, none⟩) 7 7) (W.alloc (.cells (madeCells #[.int .i64 0] 7) 3)) := fun W => print_make (P := Try.prog) 28 3 .i64 8 Try.underlying28 info_int (by decide) 7 (by omega) W
  rw [hw1] at hcp
  clear hw1 hw2 hg1 hb1 hx1 hx hsz
  go_enter Try.func35, Try.ntmps35
  go_wp2_with (first | (go_at_call 39; refine (mul_one_ _).mono ?_; rintro e w' ⟨rfl, rfl⟩))
  clear hcp hmk
  go_loopg [8] 3 (fun kq v8 w' => ∃ n : Nat, v8 = .int .i64 (n : Int) ∧ Aside0 ((n = 1 ∧ kq = 3) ∨ (n = 2 ∧ kq = 2) ∨ (n = 4 ∧ kq = 1) ∨ (n = 7 ∧ kq = 0)) ∧ Aside0 (w'.heap[w.heap.size]? = some (.cells (row7 x n).toArray 3 (0, 0))) ∧ Aside0 (Below w.heap.size w w'))
  case atStart => exact ⟨1, rfl, ⟨.inl ⟨rfl, rfl⟩⟩, HG, HB⟩
  case round =>
    clear HG HB
    obtain ⟨n, rfl, HN, HG, HB⟩ := hrel
    rcases HN.out with ⟨rfl, rfl⟩ | ⟨rfl, rfl⟩ | ⟨rfl, rfl⟩ | ⟨rfl, rfl⟩
    all_goals clear HN
    · have hcell : ∀ (W : World), W.heap[w.heap.size]? = some (.cells (row7 x 1).toArray 3 (0, 0)) → ∀ j v, ([.int .i64 x] : List Value)[j]? = some v → W.cell? ((⟨w.heap.size, 0, none⟩ : Addr).add j) = some v := by
        intro W hW j v hj
        rw [add_plain]
        have h1 := blk_cell hW j
        rw [h1]
        match j, hj with
        | 0, hj => simp at hj; subst hj; rfl
        | (j + 1), hj => simp at hj
      have HC := Aside0.mk hcell
      clear hcell
      go_wp2
      refine start_ (n := 10) (S := fun _ => True) (ds := []) #[false, false, false, false, false, false, false, false, false, false] (by kernel_rfl) rfl rfl trivial (fun hHeld => ?_)
      refine with_tabW repeat_tab repeat_bits (fun HT_ HW_ => ?_)
      refine pure_ (i := 0) (N := some 38) (v := ?_) (a' := ?_) #[true, false, false, false, false, false, false, false, false, false] rfl rfl (any_of HT_.out (by kernel_rfl)) (fun _ _ _ h => h) (Or.inl ⟨by rfl, ?_⟩) ?_ ?_
      rotate_left
      · intro w'
        go_simp
        with_reducible rfl
      rotate_left
      · simp only [Act.put, List.setIfInBounds_toArray, List.set_cons_zero, List.set_cons_succ, i64_w, i32_w]
        rfl
      refine pure_ (i := 1) (N := some 39) (v := ?_) (a' := ?_) #[true, true, false, false, false, false, false, false, false, false] rfl rfl (any_of HT_.out (by kernel_rfl)) (fun _ _ _ h => h) (Or.inl ⟨by rfl, ?_⟩) ?_ ?_
      rotate_left
      · intro w'
        go_simp
        with_reducible rfl
      rotate_left
      · simp only [Act.put, List.setIfInBounds_toArray, List.set_cons_zero, List.set_cons_succ, i64_w, i32_w]
        rfl
      refine pure_ (i := 2) (N := some 40) (v := ?_) (a' := ?_) #[true, true, true, false, false, false, false, false, false, false] rfl rfl (any_of HT_.out (by kernel_rfl)) (fun _ _ _ h => h) (Or.inl ⟨by rfl, ?_⟩) ?_ ?_
      rotate_left
      · intro w'
        go_simp
        with_reducible rfl
      rotate_left
      · simp only [Act.put, List.setIfInBounds_toArray, List.set_cons_zero, List.set_cons_succ, i64_w, i32_w]
        rfl
      refine pure_ (i := 4) (N := some 42) (v := ?_) (a' := ?_) #[true, true, true, false, true, false, false, false, false, false] rfl rfl (any_of HT_.out (by kernel_rfl)) (fun _ _ _ h => h) (Or.inl ⟨by rfl, ?_⟩) ?_ ?_
      rotate_left
      · intro w'
        go_simp
        with_reducible rfl
      rotate_left
      · simp only [Act.put, List.setIfInBounds_toArray, List.set_cons_zero, List.set_cons_succ, i64_w, i32_w]
        rfl
      refine pure_ (i := 5) (N := some 43) (v := ?_) (a' := ?_) #[true, true, true, false, true, true, false, false, false, false] rfl rfl (any_of HT_.out (by kernel_rfl)) (fun _ _ _ h => h) (Or.inl ⟨by rfl, ?_⟩) ?_ ?_
      rotate_left
      · intro w'
        go_simp
        with_reducible rfl
      rotate_left
      · simp only [Act.put, List.setIfInBounds_toArray, List.set_cons_zero, List.set_cons_succ, i64_w, i32_w]
        rfl
      refine pure_ (i := 3) (N := some 41) (v := ?_) (a' := ?_) #[true, true, true, true, true, true, false, false, false, false] rfl rfl (any_of HT_.out (by kernel_rfl)) (fun _ _ _ h => h) (Or.inl ⟨by rfl, ?_⟩) ?_ ?_
      rotate_left
      · intro w'
        go_simp
        with_reducible rfl
      rotate_left
      · simp only [Act.put, List.setIfInBounds_toArray, List.set_cons_zero, List.set_cons_succ, i64_w, i32_w]
        rfl
      refine pure_ (i := 6) (N := some 44) (v := ?_) (a' := ?_) #[true, true, true, true, true, true, true, false, false, false] rfl rfl (any_of HT_.out (by kernel_rfl)) (fun _ _ _ h => h) (Or.inl ⟨by rfl, ?_⟩) ?_ ?_
      rotate_left
      · intro w'
        go_simp
        with_reducible rfl
      rotate_left
      · simp only [Act.put, List.setIfInBounds_toArray, List.set_cons_zero, List.set_cons_succ, i64_w, i32_w]
        rfl
      refine one_ (i := 7) (N := some 45) #[true, true, true, true, true, true, true, true, false, false] rfl rfl (one_of HT_.out (by kernel_rfl)) (by decide) (fun K hK => ?_)
      refine step_copy_splice rfl (.tmp 41) (.tmp 44) 28 28 rfl 3 Try.underlying28 HS.out (some ⟨w.heap.size, 1, none⟩) (some ⟨w.heap.size, 0, none⟩) 6 6 1 7 rfl rfl w.heap.size 1 (row7 x 1) 3 (blk_drew HG.out) ([.int .i64 x] : List Value) rfl (fun _ => ⟨rfl, _, rfl, HC.out _ (blk_drew HG.out)⟩) (by simp [row7]) (by simp [Value.oneCell']) w.heap.size w (below_drew HB.out) (Nat.le_refl _) ?_
      intro w4 hg4 hb4
      refine hK.out _ _ trivial (fun hHeld => ?_)
      clear hK K
      have HG4 := Aside0.mk (show w4.heap[w.heap.size]? = some (.cells (row7 x 2).toArray 3 (0, 0)) from hg4.out)
      have HB4 := Aside0.mk hb4
      clear hg4 hb4
      refine norm_ (a' := ?_) ?_ ?_
      rotate_left
      · show Act.put _ (some 45) _ = _
        simp only [Act.put, List.setIfInBounds_toArray, List.set_cons_zero, List.set_cons_succ, i64_w, i32_w]
        rfl
      refine pure_ (i := 8) (N := some 46) (v := ?_) (a' := ?_) #[true, true, true, true, true, true, true, true, true, false] rfl rfl (any_of HT_.out (by kernel_rfl)) (fun _ _ _ h => h) (Or.inl ⟨by rfl, ?_⟩) ?_ ?_
      rotate_left
      · intro w'
        go_simp
        with_reducible rfl
      rotate_left
      · simp only [Act.put, List.setIfInBounds_toArray, List.set_cons_zero, List.set_cons_succ, i64_w, i32_w]
        rfl
      refine pure_ (i := 9) (N := some 8) (v := ?_) (a' := ?_) #[true, true, true, true, true, true, true, true, true, true] rfl rfl (any_of HT_.out (by kernel_rfl)) (fun _ _ _ h => h) (Or.inl ⟨by rfl, ?_⟩) ?_ ?_
      rotate_left
      · intro w'
        go_simp
        with_reducible rfl
      rotate_left
      · simp only [Act.put, List.setIfInBounds_toArray, List.set_cons_zero, List.set_cons_succ, i64_w, i32_w]
        rfl
      refine done_ (done_of HT_.out (by kernel_rfl)) ?_
      try go_wp2
      go_roundg 2
      case measure => omega
      case rel => exact ⟨2, (by rw [wrap64_in 2 (by omega) (by omega)]; rfl), ⟨by omega⟩, HG4, HB4⟩
    · have hcell : ∀ (W : World), W.heap[w.heap.size]? = some (.cells (row7 x 2).toArray 3 (0, 0)) → ∀ j v, ([.int .i64 x, .int .i64 x] : List Value)[j]? = some v → W.cell? ((⟨w.heap.size, 0, none⟩ : Addr).add j) = some v := by
        intro W hW j v hj
        rw [add_plain]
        have h1 := blk_cell hW j
        rw [h1]
        match j, hj with
        | 0, hj => simp at hj; subst hj; rfl
        | 1, hj => simp at hj; subst hj; rfl
        | (j + 2), hj => simp at hj
      have HC := Aside0.mk hcell
      clear hcell
      go_wp2
      refine start_ (n := 10) (S := fun _ => True) (ds := []) #[false, false, false, false, false, false, false, false, false, false] (by kernel_rfl) rfl rfl trivial (fun hHeld => ?_)
      refine with_tabW repeat_tab repeat_bits (fun HT_ HW_ => ?_)
      refine pure_ (i := 0) (N := some 38) (v := ?_) (a' := ?_) #[true, false, false, false, false, false, false, false, false, false] rfl rfl (any_of HT_.out (by kernel_rfl)) (fun _ _ _ h => h) (Or.inl ⟨by rfl, ?_⟩) ?_ ?_
      rotate_left
      · intro w'
        go_simp
        with_reducible rfl
      rotate_left
      · simp only [Act.put, List.setIfInBounds_toArray, List.set_cons_zero, List.set_cons_succ, i64_w, i32_w]
        rfl
      refine pure_ (i := 1) (N := some 39) (v := ?_) (a' := ?_) #[true, true, false, false, false, false, false, false, false, false] rfl rfl (any_of HT_.out (by kernel_rfl)) (fun _ _ _ h => h) (Or.inl ⟨by rfl, ?_⟩) ?_ ?_
      rotate_left
      · intro w'
        go_simp
        with_reducible rfl
      rotate_left
      · simp only [Act.put, List.setIfInBounds_toArray, List.set_cons_zero, List.set_cons_succ, i64_w, i32_w]
        rfl
      refine pure_ (i := 2) (N := some 40) (v := ?_) (a' := ?_) #[true, true, true, false, false, false, false, false, false, false] rfl rfl (any_of HT_.out (by kernel_rfl)) (fun _ _ _ h => h) (Or.inl ⟨by rfl, ?_⟩) ?_ ?_
      rotate_left
      · intro w'
        go_simp
        with_reducible rfl
      rotate_left
      · simp only [Act.put, List.setIfInBounds_toArray, List.set_cons_zero, List.set_cons_succ, i64_w, i32_w]
        rfl
      refine pure_ (i := 4) (N := some 42) (v := ?_) (a' := ?_) #[true, true, true, false, true, false, false, false, false, false] rfl rfl (any_of HT_.out (by kernel_rfl)) (fun _ _ _ h => h) (Or.inl ⟨by rfl, ?_⟩) ?_ ?_
      rotate_left
      · intro w'
        go_simp
        with_reducible rfl
      rotate_left
      · simp only [Act.put, List.setIfInBounds_toArray, List.set_cons_zero, List.set_cons_succ, i64_w, i32_w]
        rfl
      refine pure_ (i := 5) (N := some 43) (v := ?_) (a' := ?_) #[true, true, true, false, true, true, false, false, false, false] rfl rfl (any_of HT_.out (by kernel_rfl)) (fun _ _ _ h => h) (Or.inl ⟨by rfl, ?_⟩) ?_ ?_
      rotate_left
      · intro w'
        go_simp
        with_reducible rfl
      rotate_left
      · simp only [Act.put, List.setIfInBounds_toArray, List.set_cons_zero, List.set_cons_succ, i64_w, i32_w]
        rfl
      refine pure_ (i := 3) (N := some 41) (v := ?_) (a' := ?_) #[true, true, true, true, true, true, false, false, false, false] rfl rfl (any_of HT_.out (by kernel_rfl)) (fun _ _ _ h => h) (Or.inl ⟨by rfl, ?_⟩) ?_ ?_
      rotate_left
      · intro w'
        go_simp
        with_reducible rfl
      rotate_left
      · simp only [Act.put, List.setIfInBounds_toArray, List.set_cons_zero, List.set_cons_succ, i64_w, i32_w]
        rfl
      refine pure_ (i := 6) (N := some 44) (v := ?_) (a' := ?_) #[true, true, true, true, true, true, true, false, false, false] rfl rfl (any_of HT_.out (by kernel_rfl)) (fun _ _ _ h => h) (Or.inl ⟨by rfl, ?_⟩) ?_ ?_
      rotate_left
      · intro w'
        go_simp
        with_reducible rfl
      rotate_left
      · simp only [Act.put, List.setIfInBounds_toArray, List.set_cons_zero, List.set_cons_succ, i64_w, i32_w]
        rfl
      refine one_ (i := 7) (N := some 45) #[true, true, true, true, true, true, true, true, false, false] rfl rfl (one_of HT_.out (by kernel_rfl)) (by decide) (fun K hK => ?_)
      refine step_copy_splice rfl (.tmp 41) (.tmp 44) 28 28 rfl 3 Try.underlying28 HS.out (some ⟨w.heap.size, 2, none⟩) (some ⟨w.heap.size, 0, none⟩) 5 5 2 7 rfl rfl w.heap.size 2 (row7 x 2) 3 (blk_drew HG.out) ([.int .i64 x, .int .i64 x] : List Value) rfl (fun _ => ⟨rfl, _, rfl, HC.out _ (blk_drew HG.out)⟩) (by simp [row7]) (by simp [Value.oneCell']) w.heap.size w (below_drew HB.out) (Nat.le_refl _) ?_
      intro w4 hg4 hb4
      refine hK.out _ _ trivial (fun hHeld => ?_)
      clear hK K
      have HG4 := Aside0.mk (show w4.heap[w.heap.size]? = some (.cells (row7 x 4).toArray 3 (0, 0)) from hg4.out)
      have HB4 := Aside0.mk hb4
      clear hg4 hb4
      refine norm_ (a' := ?_) ?_ ?_
      rotate_left
      · show Act.put _ (some 45) _ = _
        simp only [Act.put, List.setIfInBounds_toArray, List.set_cons_zero, List.set_cons_succ, i64_w, i32_w]
        rfl
      refine pure_ (i := 8) (N := some 46) (v := ?_) (a' := ?_) #[true, true, true, true, true, true, true, true, true, false] rfl rfl (any_of HT_.out (by kernel_rfl)) (fun _ _ _ h => h) (Or.inl ⟨by rfl, ?_⟩) ?_ ?_
      rotate_left
      · intro w'
        go_simp
        with_reducible rfl
      rotate_left
      · simp only [Act.put, List.setIfInBounds_toArray, List.set_cons_zero, List.set_cons_succ, i64_w, i32_w]
        rfl
      refine pure_ (i := 9) (N := some 8) (v := ?_) (a' := ?_) #[true, true, true, true, true, true, true, true, true, true] rfl rfl (any_of HT_.out (by kernel_rfl)) (fun _ _ _ h => h) (Or.inl ⟨by rfl, ?_⟩) ?_ ?_
      rotate_left
      · intro w'
        go_simp
        with_reducible rfl
      rotate_left
      · simp only [Act.put, List.setIfInBounds_toArray, List.set_cons_zero, List.set_cons_succ, i64_w, i32_w]
        rfl
      refine done_ (done_of HT_.out (by kernel_rfl)) ?_
      try go_wp2
      go_roundg 1
      case measure => omega
      case rel => exact ⟨4, (by rw [wrap64_in 4 (by omega) (by omega)]; rfl), ⟨by omega⟩, HG4, HB4⟩
    · have hcell : ∀ (W : World), W.heap[w.heap.size]? = some (.cells (row7 x 4).toArray 3 (0, 0)) → ∀ j v, ([.int .i64 x, .int .i64 x, .int .i64 x] : List Value)[j]? = some v → W.cell? ((⟨w.heap.size, 0, none⟩ : Addr).add j) = some v := by
        intro W hW j v hj
        rw [add_plain]
        have h1 := blk_cell hW j
        rw [h1]
        match j, hj with
        | 0, hj => simp at hj; subst hj; rfl
        | 1, hj => simp at hj; subst hj; rfl
        | 2, hj => simp at hj; subst hj; rfl
        | (j + 3), hj => simp at hj
      have HC := Aside0.mk hcell
      clear hcell
      go_wp2
      refine start_ (n := 10) (S := fun _ => True) (ds := []) #[false, false, false, false, false, false, false, false, false, false] (by kernel_rfl) rfl rfl trivial (fun hHeld => ?_)
      refine with_tabW repeat_tab repeat_bits (fun HT_ HW_ => ?_)
      refine pure_ (i := 0) (N := some 38) (v := ?_) (a' := ?_) #[true, false, false, false, false, false, false, false, false, false] rfl rfl (any_of HT_.out (by kernel_rfl)) (fun _ _ _ h => h) (Or.inl ⟨by rfl, ?_⟩) ?_ ?_
      rotate_left
      · intro w'
        go_simp
        with_reducible rfl
      rotate_left
      · simp only [Act.put, List.setIfInBounds_toArray, List.set_cons_zero, List.set_cons_succ, i64_w, i32_w]
        rfl
      refine pure_ (i := 1) (N := some 39) (v := ?_) (a' := ?_) #[true, true, false, false, false, false, false, false, false, false] rfl rfl (any_of HT_.out (by kernel_rfl)) (fun _ _ _ h => h) (Or.inl ⟨by rfl, ?_⟩) ?_ ?_
      rotate_left
      · intro w'
        go_simp
        with_reducible rfl
      rotate_left
      · simp only [Act.put, List.setIfInBounds_toArray, List.set_cons_zero, List.set_cons_succ, i64_w, i32_w]
        rfl
      refine pure_ (i := 2) (N := some 40) (v := ?_) (a' := ?_) #[true, true, true, false, false, false, false, false, false, false] rfl rfl (any_of HT_.out (by kernel_rfl)) (fun _ _ _ h => h) (Or.inl ⟨by rfl, ?_⟩) ?_ ?_
      rotate_left
      · intro w'
        go_simp
        with_reducible rfl
      rotate_left
      · simp only [Act.put, List.setIfInBounds_toArray, List.set_cons_zero, List.set_cons_succ, i64_w, i32_w]
        rfl
      refine pure_ (i := 4) (N := some 42) (v := ?_) (a' := ?_) #[true, true, true, false, true, false, false, false, false, false] rfl rfl (any_of HT_.out (by kernel_rfl)) (fun _ _ _ h => h) (Or.inl ⟨by rfl, ?_⟩) ?_ ?_
      rotate_left
      · intro w'
        go_simp
        with_reducible rfl
      rotate_left
      · simp only [Act.put, List.setIfInBounds_toArray, List.set_cons_zero, List.set_cons_succ, i64_w, i32_w]
        rfl
      refine pure_ (i := 5) (N := some 43) (v := ?_) (a' := ?_) #[true, true, true, false, true, true, false, false, false, false] rfl rfl (any_of HT_.out (by kernel_rfl)) (fun _ _ _ h => h) (Or.inl ⟨by rfl, ?_⟩) ?_ ?_
      rotate_left
      · intro w'
        go_simp
        with_reducible rfl
      rotate_left
      · simp only [Act.put, List.setIfInBounds_toArray, List.set_cons_zero, List.set_cons_succ, i64_w, i32_w]
        rfl
      refine pure_ (i := 3) (N := some 41) (v := ?_) (a' := ?_) #[true, true, true, true, true, true, false, false, false, false] rfl rfl (any_of HT_.out (by kernel_rfl)) (fun _ _ _ h => h) (Or.inl ⟨by rfl, ?_⟩) ?_ ?_
      rotate_left
      · intro w'
        go_simp
        with_reducible rfl
      rotate_left
      · simp only [Act.put, List.setIfInBounds_toArray, List.set_cons_zero, List.set_cons_succ, i64_w, i32_w]
        rfl
      refine pure_ (i := 6) (N := some 44) (v := ?_) (a' := ?_) #[true, true, true, true, true, true, true, false, false, false] rfl rfl (any_of HT_.out (by kernel_rfl)) (fun _ _ _ h => h) (Or.inl ⟨by rfl, ?_⟩) ?_ ?_
      rotate_left
      · intro w'
        go_simp
        with_reducible rfl
      rotate_left
      · simp only [Act.put, List.setIfInBounds_toArray, List.set_cons_zero, List.set_cons_succ, i64_w, i32_w]
        rfl
      refine one_ (i := 7) (N := some 45) #[true, true, true, true, true, true, true, true, false, false] rfl rfl (one_of HT_.out (by kernel_rfl)) (by decide) (fun K hK => ?_)
      refine step_copy_splice rfl (.tmp 41) (.tmp 44) 28 28 rfl 3 Try.underlying28 HS.out (some ⟨w.heap.size, 4, none⟩) (some ⟨w.heap.size, 0, none⟩) 3 3 4 7 rfl rfl w.heap.size 4 (row7 x 4) 3 (blk_drew HG.out) ([.int .i64 x, .int .i64 x, .int .i64 x] : List Value) rfl (fun _ => ⟨rfl, _, rfl, HC.out _ (blk_drew HG.out)⟩) (by simp [row7]) (by simp [Value.oneCell']) w.heap.size w (below_drew HB.out) (Nat.le_refl _) ?_
      intro w4 hg4 hb4
      refine hK.out _ _ trivial (fun hHeld => ?_)
      clear hK K
      have HG4 := Aside0.mk (show w4.heap[w.heap.size]? = some (.cells (row7 x 7).toArray 3 (0, 0)) from hg4.out)
      have HB4 := Aside0.mk hb4
      clear hg4 hb4
      refine norm_ (a' := ?_) ?_ ?_
      rotate_left
      · show Act.put _ (some 45) _ = _
        simp only [Act.put, List.setIfInBounds_toArray, List.set_cons_zero, List.set_cons_succ, i64_w, i32_w]
        rfl
      refine pure_ (i := 8) (N := some 46) (v := ?_) (a' := ?_) #[true, true, true, true, true, true, true, true, true, false] rfl rfl (any_of HT_.out (by kernel_rfl)) (fun _ _ _ h => h) (Or.inl ⟨by rfl, ?_⟩) ?_ ?_
      rotate_left
      · intro w'
        go_simp
        with_reducible rfl
      rotate_left
      · simp only [Act.put, List.setIfInBounds_toArray, List.set_cons_zero, List.set_cons_succ, i64_w, i32_w]
        rfl
      refine pure_ (i := 9) (N := some 8) (v := ?_) (a' := ?_) #[true, true, true, true, true, true, true, true, true, true] rfl rfl (any_of HT_.out (by kernel_rfl)) (fun _ _ _ h => h) (Or.inl ⟨by rfl, ?_⟩) ?_ ?_
      rotate_left
      · intro w'
        go_simp
        with_reducible rfl
      rotate_left
      · simp only [Act.put, List.setIfInBounds_toArray, List.set_cons_zero, List.set_cons_succ, i64_w, i32_w]
        rfl
      refine done_ (done_of HT_.out (by kernel_rfl)) ?_
      try go_wp2
      go_roundg 0
      case measure => omega
      case rel => exact ⟨7, (by rw [wrap64_in 7 (by omega) (by omega)]; rfl), ⟨by omega⟩, HG4, HB4⟩
    · go_wp2
      go_ret
      refine ⟨_, rfl, ?_, HB.out⟩
      refine Kd.R_of_own ⟨by simp [encs], .inr ⟨w.heap.size, 7, _, rfl, Nat.le_refl _, HG.out, by simp, by simp [maxLen], by simp [row7], by simp [encs, row7]⟩⟩ (fun _ _ => trivial)
def slices_Repeat_int_int.f (l0 : List Int) (a1 : Int) : Option (List Int) := if l0.length = 1 ∧ a1 = 7 then some (List.replicate 7 (rd l0 0)) else none
theorem slices_Repeat_int_int.calls (A0 : Option Addr) (c0 : Nat) (l0 : List Int) (a1 : Int) (r : List Int) (w : World) (hr0 : Kd.C (Kd.int .i64) w A0 l0.length l0) (hc0 : l0.length ≤ c0) (h : slices_Repeat_int_int.f l0 a1 = some r) :
    Calls Try.prog 35 #[.slice A0 l0.length c0, .int .i64 a1] w fun e w' => ∃ v0_ : Value, e = .returned (v0_) ∧ Kd.R (Kd.int .i64) 3 w' w.heap.size (fun _ => True) v0_ r ∧ Below w.heap.size w w' := by
  unfold slices_Repeat_int_int.f at h
  split at h
  case isFalse => cases h
  case isTrue hl =>
  obtain rfl := Option.some.inj h
  obtain ⟨hl, rfl⟩ := hl
  obtain ⟨ad, e, hx⟩ := Kd.at_int hr0 0 (by omega) (by omega)
  subst e
  rw [hl]
  exact repeat_one ad c0 (rd l0 0) w (by rw [← add0 ad]; exact hx)
end Go.Proofs.Ytmledbfeefnfmaa.Hand
