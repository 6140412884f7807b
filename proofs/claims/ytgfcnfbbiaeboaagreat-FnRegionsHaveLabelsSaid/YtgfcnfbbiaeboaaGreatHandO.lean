/- slices.SortFunc of the indices of a point in impl.RegionOfPoint, at 8 or fewer: the row holds them by insertion, those with greater numbers first; what the walk keeps. -/
import Derived.Test.YtgfcnfbbiaeboaaGreatHandE
import Derived.Test.YtgfcnfbbiaeboaaGreatHandM
import Derived.Test.YtgfcnfbbiaeboaaGreatHandS
namespace Go.Proofs.YtgfcnfbbiaeboaaGreat.Hand
open Go.RowKit Go.Shelf Go.Maps Go.Sort
open Go.Proofs.YtgfcnfbbiaeboaaGreatW.PrintWords Go.Proofs.YtgfcnfbbiaeboaaGreatW.PrintLast
set_option linter.unusedVariables false
set_option linter.unusedSimpArgs false

set_option maxRecDepth 100000 in
set_option maxHeartbeats 2000000 in
theorem rop_cmp (gb : Nat) (A0 : Option Addr) (c0 : Nat) (l0 : List Int) (V : World) (hb : V.heap[gb]? = some (.cells #[.slice A0 l0.length c0] 24 (0, 0))) (hr : Kd.C (Kd.int .i64) V A0 l0.length l0) (i j : Nat) (hi : i < l0.length) (hj : j < l0.length) :
    Calls Tryz.prog 34 #[.int .i64 (i : Int), .int .i64 (j : Int), .pointer (some ⟨gb, 0, none⟩)] V fun e w' => e = .returned (.int .i64 (wrap64 (l0[j] - l0[i]))) ∧ ∃ q, w' = V.drewN q := by
  have hc0 : V.cell? ⟨gb, 0, none⟩ = some (.slice A0 l0.length c0) := (blk_cell hb 0).trans rfl
  obtain ⟨ad, rfl, hcs⟩ := hr.2.2 (by omega)
  have get : ∀ (k : Nat) (hk : k < l0.length), V.cell? (ad.add k) = some (.int .i64 l0[k]) := by
    intro k hk
    obtain ⟨c, hcl, hR, hcc⟩ := hcs k l0[k] (by simp [hk])
    have hcc' : c = [.int .i64 l0[k]] := hR
    subst hcc'
    have h1 := hcc 0 _ rfl
    have h2 : (Kd.int .i64).sz = 1 := rfl
    rwa [h2, Nat.mul_one, Nat.add_zero] at h1
  have hx := get i hi
  have hy := get j hj
  generalize l0[i] = x at hx ⊢
  generalize l0[j] = y at hy ⊢
  clear hr hcs get
  have q1 : ((0 : Int) ≤ (i : Int)) = True := eq_true (by omega)
  have q2 : ((i : Int) < (l0.length : Int)) = True := eq_true (by omega)
  have q3 : ((0 : Int) ≤ (j : Int)) = True := eq_true (by omega)
  have q4 : ((j : Int) < (l0.length : Int)) = True := eq_true (by omega)
  go_enter Tryz.func34, Tryz.ntmps34
  go_wp2
  go_big_region
  all_goals go_wp2
  go_ret
  exact ⟨rfl, _, rfl⟩

def encF {n : Nat} (x : Fin n) : Value := .int .i64 (x.1 : Int)
def cfP (l : List Int) (x y : Fin l.length) : Int := wrap64 (l[y.1]'y.2 - l[x.1]'x.2)
/-- The indices, those with greater numbers first. -/
def ropA (l : List Int) : Array Int :=
  if h : 0 < l.length then
    haveI : Inhabited (Fin l.length) := ⟨⟨0, h⟩⟩
    (Go.Sort.insertionSort (ltOf (cfP l)) (Array.ofFn fun i : Fin l.length => i) 0 l.length).map fun x => (x.1 : Int)
  else #[]
theorem insInner_size {α : Type} [Inhabited α] (lt : α → α → Bool) (a : Nat) : ∀ (j : Nat) (d : Array α), (Go.Sort.insInner lt a j d).size = d.size
  | 0, d => rfl
  | j + 1, d => by
    rw [Go.Sort.insInner]
    split
    · rw [insInner_size lt a j]
      simp [Go.Sort.swp]
    · rfl
theorem insOuter_size {α : Type} [Inhabited α] (lt : α → α → Bool) (a b : Nat) : ∀ (m i : Nat) (d : Array α), m = b - i → (Go.Sort.insOuter lt a b i d).size = d.size := by
  intro m
  induction m with
  | zero =>
    intro i d h
    rw [Go.Sort.insOuter, if_neg (by omega)]
  | succ m ih =>
    intro i d h
    rw [Go.Sort.insOuter, if_pos (by omega), ih (i + 1) _ (by omega), insInner_size]
theorem ropA_size (l : List Int) : (ropA l).size = l.length := by
  unfold ropA
  split
  · rename_i h
    letI : Inhabited (Fin l.length) := ⟨⟨0, h⟩⟩
    rw [Array.size_map]
    unfold Go.Sort.insertionSort
    rw [insOuter_size _ _ _ _ _ _ rfl, Array.size_ofFn]
  · rename_i h
    simp
    omega
theorem putCells_conv {n : Nat} [Inhabited (Fin n)] (D : Array (Fin n)) (c : Array Value) : putCells encF 0 D c = putCells encZ 0 (D.map fun x => (x.1 : Int)) c := by
  unfold putCells
  congr 1
  funext k x
  by_cases h : 0 ≤ k ∧ k < 0 + D.size
  · have hk : k - 0 < D.size := by omega
    rw [if_pos h, if_pos (by simpa using h), getElem!_pos D (k - 0) hk, getElem!_pos (D.map fun x => (x.1 : Int)) (k - 0) (by simpa using hk)]
    simp [encF]
  · rw [if_neg h, if_neg (by simpa using h)]
theorem sortWorld_conv {n : Nat} [Inhabited (Fin n)] (D : Array (Fin n)) (W : World) (blk m : Nat) (os : Array Obj) : sortWorld encF W blk 0 m D os = grow (putRow encZ (Go.Sort.ahead W m) blk 0 (D.map fun x => (x.1 : Int))) os := by
  unfold sortWorld putRow
  congr 2
  funext c
  exact putCells_conv D c

set_option maxRecDepth 100000 in
set_option maxHeartbeats 2000000 in
theorem sort_rop (gb : Nat) (A0 : Option Addr) (c0 : Nat) (l0 : List Int) (w1 : World) (hgb : gb < w1.heap.size) (hb : w1.heap[gb]? = some (.cells #[.slice A0 l0.length c0] 24 (0, 0))) (hr : Kd.C (Kd.int .i64) w1 A0 l0.length l0)
    (h0 : 0 < l0.length) (h8 : l0.length ≤ 8) (blk cap : Nat) (W : World) (HB : Below w1.heap.size w1 W) (hblk : w1.heap.size ≤ blk)
    (hH : Holds encZ W blk 0 ((List.range l0.length).map fun i : Nat => (i : Int)).toArray) :
    Calls Tryz.prog 33 #[.slice (some ⟨blk, 0, none⟩) l0.length cap, .func (.func 34) #[] #[.pointer (some ⟨gb, 0, none⟩)]] W fun e w' =>
      e = .returned (.tuple #[]) ∧ ∃ m, w' = grow (putRow encZ (Go.Sort.ahead W m) blk 0 (ropA l0)) #[] := by
  letI : Inhabited (Fin l0.length) := ⟨⟨0, h0⟩⟩
  have hsz : (Array.ofFn fun i : Fin l0.length => i).size = l0.length := Array.size_ofFn
  have hHF : Holds encF W blk 0 (Array.ofFn fun i : Fin l0.length => i) := by
    intro j hj
    have hj' : j < l0.length := by rw [hsz] at hj; exact hj
    have h1 := hH j (by simpa using hj')
    rw [getElem!_pos _ j (by simpa using hj')] at h1
    rw [getElem!_pos _ j hj]
    simpa [encF] using h1
  have hcmp : CmpReads Tryz.prog 34 #[.pointer (some ⟨gb, 0, none⟩)] encF (cfP l0) blk 0 (Array.ofFn fun i : Fin l0.length => i).size W := by
    intro m os dk hdk x y
    have hg : W.grownBy (sortWorld encF W blk 0 m dk os) (some blk) := by
      rw [sortWorld_conv]
      exact grownBy_sorted_i _
    have HB' : Below w1.heap.size w1 (sortWorld encF W blk 0 m dk os) := HB.grown hg HB.size (fun j hj => by cases hj; exact hblk)
    have h2 := rop_cmp gb A0 c0 l0 (sortWorld encF W blk 0 m dk os) ((HB'.block gb hgb).trans hb) (Kd.C_below hr HB') x.1 y.1 x.2 y.2
    exact h2
  have h3 := Tryz.slices_SortFunc_small encF (fun _ => rfl) (cfP l0) 34 #[.pointer (some ⟨gb, 0, none⟩)] blk 0 cap (Array.ofFn fun i : Fin l0.length => i) W (enters_of Tryz.func34 (by kernel_rfl) rfl) hcmp hHF (by rw [hsz]; omega)
    (fun n W hn => (Tryz.bits_Len (n : Int) W (by omega) (by omega)).mono fun e w' ⟨he, hw⟩ => ⟨⟨_, he⟩, hw⟩)
  rw [hsz] at h3
  refine h3.mono ?_
  rintro e w' ⟨rfl, m, rfl⟩
  refine ⟨rfl, m, ?_⟩
  rw [← sortWorld_none, sortWorld_conv]
  unfold ropA
  rw [dif_pos h0]

set_option maxRecDepth 100000 in
set_option maxHeartbeats 2000000 in
theorem insertion_none (sv cl : Value) (W : World) :
    Calls Tryz.prog 69 #[sv, .int .i64 0, .int .i64 0, cl] W fun e w' => e = .returned (.tuple #[]) ∧ w' = W := by
  go_enter Tryz.func69, Tryz.ntmps69
  go_wp2
  refine wp_loop_rounds 1 ?_
  rw [rounds_succ]
  go_wp2
  go_end0
  exact ⟨rfl, rfl⟩

set_option maxRecDepth 100000 in
set_option maxHeartbeats 2000000 in
theorem pdq_none (sv cl : Value) (lim : Int) (W : World) :
    Calls Tryz.prog 57 #[sv, .int .i64 0, .int .i64 0, .int .i64 lim, cl] W fun e w' => e = .returned (.tuple #[]) ∧ w' = W := by
  go_enter Tryz.func57, Tryz.ntmps57
  go_wp2
  refine wp_loop_rounds 1 ?_
  rw [rounds_succ]
  go_wp2_with (go_at_call 69; refine (insertion_none _ _ _).mono ?_; rintro e w' ⟨rfl, rfl⟩)
  (try simp only [Exit.inBlock, Exit.then]); refine bodyPost_ret (results_none rfl _ _ _) rfl ?_
  exact ⟨rfl, rfl⟩
set_option maxRecDepth 100000 in
set_option maxHeartbeats 2000000 in
theorem sort_none (A : Option Addr) (c : Nat) (cl : Value) (W : World) :
    Calls Tryz.prog 33 #[.slice A 0 c, cl] W fun e w' => e = .returned (.tuple #[]) ∧ w' = W := by
  go_enter Tryz.func33, Tryz.ntmps33
  go_wp2_with (first | (go_at_call 58; refine (Tryz.bits_Len 0 W (by omega) (by omega)).mono ?_; rintro e w' ⟨rfl, rfl⟩) | (go_at_call 57; refine (pdq_none _ _ _ _).mono ?_; rintro e w' ⟨rfl, rfl⟩))
  go_end0
  exact ⟨rfl, rfl⟩
/-- The indices, those with greater numbers first, as a list. -/
def ropL (l : List Int) : List Int := (ropA l).toList
theorem ropL_length (l : List Int) : (ropL l).length = l.length := by unfold ropL; rw [Array.length_toList, ropA_size]
def upN (n : Nat) : List Int := (List.range n).map fun i : Nat => (i : Int)
theorem upN_succ (n : Nat) : upN (n + 1) = upN n ++ [(n : Int)] := by simp [upN, List.range_succ]
theorem upN_length (n : Nat) : (upN n).length = n := by simp [upN]
/-- What the walk of RegionOfPoint keeps: the boxes of the result and of r, r's two rows. -/
structure RpI (w1 w' : World) (g2 g4 : Nat) (vo vf : Value) (lo lf : List Int) : Prop where
  below : Below w1.heap.size w1 w'
  h2 : w'.heap[g2]? = some (.cells #[.slice none 0 0, .slice none 0 0] 27 (0, 0))
  h4 : w'.heap[g4]? = some (.cells #[vo, vf] 27 (0, 0))
  ge2 : w1.heap.size ≤ g2
  ge4 : w1.heap.size ≤ g4
  ne : g2 ≠ g4
  ro : Kd.R (Kd.int .i64) 3 w' w1.heap.size (fun _ => True) vo lo
  rf : Kd.R (Kd.int .i64) 3 w' w1.heap.size (fun _ => True) vf lf
  ap : Ap vo vf
section
variable {w1 w' w2 : World} {g2 g4 : Nat} {vo vf v : Value} {lo lf l : List Int}
theorem RpI.next (h : RpI w1 w' g2 g4 vo vf lo lf) (hb : Below w'.heap.size w' w2) : RpI w1 w2 g2 g4 vo vf lo lf :=
  ⟨below_step h.below hb, blk_below h.h2 hb, blk_below h.h4 hb, h.ge2, h.ge4, h.ne, Kd.R_below h.ro hb, Kd.R_below h.rf hb, h.ap⟩
theorem RpI.drewN (h : RpI w1 w' g2 g4 vo vf lo lf) (n : Nat) : RpI w1 (w'.drewN n) g2 g4 vo vf lo lf := h.next (pw_below_drewN (Below.refl _ _) n)
theorem RpI.drew (h : RpI w1 w' g2 g4 vo vf lo lf) : RpI w1 w'.drew g2 g4 vo vf lo lf := h.next (below_drew1 (Below.refl _ _))
theorem RpI.alloc (h : RpI w1 w' g2 g4 vo vf lo lf) (o : Obj) : RpI w1 (w'.alloc o) g2 g4 vo vf lo lf := h.next (below_alloc (Below.refl _ _) o)
theorem Ap_grown (h : Ap vo vf) (hR : Kd.R (Kd.int .i64) 3 w' w1.heap.size (fun _ => True) vf lf) (hat : v.ownBlock = vo.ownBlock ∨ ∃ b, v.ownBlock = some b ∧ w'.heap.size ≤ b) : Ap v vf := by
  intro k hu hv
  rcases hat with hat | ⟨b, hb, hle⟩
  · rw [hat] at hu
    exact h k hu hv
  · have := Kd.R_lt hR k hv
    rw [hb] at hu
    injection hu with hu
    omega
/-- Behind a call that writes (or lays anew) the row of Order alone. -/
theorem RpI.putO (h : RpI w1 w' g2 g4 vo vf lo lf) (hB : Below w1.heap.size w1 w2) (hg : w'.grownBy w2 vo.ownBlock) (hat : v.ownBlock = vo.ownBlock ∨ ∃ b, v.ownBlock = some b ∧ w'.heap.size ≤ b) (hv : Kd.R (Kd.int .i64) 3 w2 w1.heap.size (fun _ => True) v l) : RpI w1 (w2.setCell ⟨g4, 0, none⟩ v) g2 g4 v vf l lf := by
  have n2 := blk_grown h.h2 hg (Kd.R_ne h.ro h.h2 (by decide))
  have n4 := blk_grown h.h4 hg (Kd.R_ne h.ro h.h4 (by decide))
  exact ⟨below_set hB h.ge4, blk_far n2 h.ne _, blk_set n4 0 v, h.ge2, h.ge4, h.ne, Kd.R_set hv n4 (by decide) 0 v, Kd.R_set (R_apg h.rf h.ap hg) n4 (by decide) 0 v, Ap_grown h.ap h.rf hat⟩
theorem RpI.keepO (h : RpI w1 w' g2 g4 vo vf lo lf) (hB : Below w1.heap.size w1 w2) (hg : w'.grownBy w2 vo.ownBlock) (hv : Kd.R (Kd.int .i64) 3 w2 w1.heap.size (fun _ => True) vo l) : RpI w1 w2 g2 g4 vo vf l lf :=
  ⟨hB, blk_grown h.h2 hg (Kd.R_ne h.ro h.h2 (by decide)), blk_grown h.h4 hg (Kd.R_ne h.ro h.h4 (by decide)), h.ge2, h.ge4, h.ne, hv, R_apg h.rf h.ap hg, h.ap⟩
theorem RpI.putF (h : RpI w1 w' g2 g4 vo vf lo lf) (hB : Below w1.heap.size w1 w2) (hg : w'.grownBy w2 vf.ownBlock) (hat : v.ownBlock = vf.ownBlock ∨ ∃ b, v.ownBlock = some b ∧ w'.heap.size ≤ b) (hv : Kd.R (Kd.int .i64) 3 w2 w1.heap.size (fun _ => True) v l) : RpI w1 (w2.setCell ⟨g4, 1, none⟩ v) g2 g4 vo v lo l := by
  have n2 := blk_grown h.h2 hg (Kd.R_ne h.rf h.h2 (by decide))
  have n4 := blk_grown h.h4 hg (Kd.R_ne h.rf h.h4 (by decide))
  exact ⟨below_set hB h.ge4, blk_far n2 h.ne _, blk_set n4 1 v, h.ge2, h.ge4, h.ne, Kd.R_set (R_apg h.ro (Ap_symm h.ap) hg) n4 (by decide) 1 v, Kd.R_set hv n4 (by decide) 1 v, Ap_symm (Ap_grown (Ap_symm h.ap) h.ro hat)⟩
end
/-- The sort of the indices, seen from RegionOfPoint's walk. -/
theorem RpI.sorted {w1 wr : World} {g1 g2 g4 c0 : Nat} {vo : Value} {A0 : Option Addr} {l0 : List Int} (HI : RpI w1 wr g2 g4 vo (.slice none 0 0) (upN l0.length) []) (hlt : g1 < w1.heap.size) (hb : w1.heap[g1]? = some (.cells #[.slice A0 l0.length c0] 24 (0, 0))) (hr : Kd.C (Kd.int .i64) w1 A0 l0.length l0) (h8 : l0.length ≤ 8) :
    ∃ (Ao : Option Addr) (co : Nat), vo = .slice Ao l0.length co ∧ Calls Tryz.prog 33 #[.slice Ao l0.length co, .func (.func 34) #[] #[.pointer (some ⟨g1, 0, none⟩)]] wr fun e w' => e = .returned (.tuple #[]) ∧ RpI w1 w' g2 g4 vo (.slice none 0 0) (ropL l0) [] := by
  by_cases h0 : 0 < l0.length
  · obtain ⟨hv0, hown⟩ := Kd.own_of_R HI.ro
    rcases hown with ⟨hv, hz⟩ | ⟨gr, cap, cur, hv, hbase, hgb, q1_, q2_, q3_, q4_⟩
    · rw [upN_length] at hz; omega
    · rw [upN_length] at hv q1_ q4_
      refine ⟨_, cap, hv, ?_⟩
      refine (sort_rop g1 A0 c0 l0 w1 hlt hb hr h0 h8 gr cap wr HI.below hbase (holds_of_block_i (ss := upN l0.length) hgb (by rw [upN_length]; simpa [encs] using q4_))).mono ?_
      rintro e w' ⟨rfl, m, rfl⟩
      refine ⟨rfl, ?_⟩
      have hown := ownsRow_sorted_i (n := m) (os := #[]) (ss := upN l0.length) (ts := ropL l0) (by rw [ropL_length, upN_length]) hbase hgb (by rw [upN_length]; exact q1_) q2_ q3_
      have harr : (ropL l0).toArray = ropA l0 := by unfold ropL; simp
      rw [harr, upN_length] at hown
      have hg2 : wr.grownBy (grow (putRow encZ (Go.Sort.ahead wr m) gr 0 (ropA l0)) #[]) vo.ownBlock := by rw [hv]; exact grownBy_sorted_i _
      refine RpI.keepO HI (HI.below.grown hg2 HI.below.size (fun j hj => by rw [hv] at hj; cases hj; exact hbase)) hg2 ?_
      rw [hv]
      refine Kd.R_of_own ?_ (fun _ _ => trivial)
      rw [ropL_length]
      exact hown
  · have e0 : l0.length = 0 := by omega
    obtain ⟨Ao, co, eo⟩ := Kd.R_slice HI.ro
    rw [upN_length] at eo
    refine ⟨Ao, co, eo, ?_⟩
    have e1 : ropL l0 = upN l0.length := by rw [List.eq_nil_of_length_eq_zero (l := ropL l0) (by rw [ropL_length]; exact e0), List.eq_nil_of_length_eq_zero (l := upN l0.length) (by rw [upN_length]; exact e0)]
    rw [e1]
    have hn := sort_none Ao co (.func (.func 34) #[] #[.pointer (some ⟨g1, 0, none⟩)]) wr
    rw [e0]
    refine hn.mono ?_
    rintro e w' ⟨rfl, rfl⟩
    rw [e0] at HI
    exact ⟨rfl, HI⟩
/-- The inner loop: how many places are far, from place q on, m places. -/
def ropIn (x o : List Int) (i : Int) : Nat → Nat → Int → Int
  | 0, _, far => far
  | m + 1, q, far => ropIn x o i m (q + 1) (if rd o (q : Int) < i ∧ wrap64 (rd x i + 100) < rd x (rd o (q : Int)) then (q : Int) + 1 else far)
theorem ropIn_le (x o : List Int) (i : Int) : ∀ (m q : Nat) (far : Int), 0 ≤ far → far ≤ ((q + m : Nat) : Int) → 0 ≤ ropIn x o i m q far ∧ ropIn x o i m q far ≤ ((q + m : Nat) : Int)
  | 0, q, far, h0, h1 => ⟨h0, h1⟩
  | m + 1, q, far, h0, h1 => by
    rw [ropIn]
    have := ropIn_le x o i m (q + 1) (if rd o (q : Int) < i ∧ wrap64 (rd x i + 100) < rd x (rd o (q : Int)) then (q : Int) + 1 else far) (by split <;> omega) (by split <;> omega)
    exact ⟨this.1, by have := this.2; omega⟩
def ropOut (x o : List Int) : Nat → Int × List Int
  | 0 => (0, [])
  | p + 1 => (ropIn x o (rd o (p : Int)) (p - (ropOut x o p).1.toNat) (ropOut x o p).1.toNat (ropOut x o p).1, (ropOut x o p).2 ++ [ropIn x o (rd o (p : Int)) (p - (ropOut x o p).1.toNat) (ropOut x o p).1.toNat (ropOut x o p).1])
theorem ropOut_le (x o : List Int) : ∀ p, 0 ≤ (ropOut x o p).1 ∧ (ropOut x o p).1 ≤ (p : Int)
  | 0 => by simp [ropOut]
  | p + 1 => by
    have h := ropOut_le x o p
    have h1 := ropIn_le x o (rd o (p : Int)) (p - (ropOut x o p).1.toNat) (ropOut x o p).1.toNat (ropOut x o p).1 h.1 (by omega)
    rw [ropOut]
    exact ⟨h1.1, by have := h1.2; show ropIn _ _ _ _ _ _ ≤ _; omega⟩
theorem ropOut_length (x o : List Int) : ∀ p, (ropOut x o p).2.length = p
  | 0 => rfl
  | p + 1 => by rw [ropOut]; simp [ropOut_length x o p]
end Go.Proofs.YtgfcnfbbiaeboaaGreat.Hand
