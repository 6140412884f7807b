/- The contract of impl.fair: the cars' numbers by their favourites, stable. Condition: at most 8 cars. -/
import Derived.Test.YtdhfildgjmkgaaaHandE
import Derived.Test.YtdhfildgjmkgaaaHandT
namespace Go.Proofs.Ytdhfildgjmkgaaa.Hand
open Go.RowKit Go.Shelf Go.Maps Go.Sort
open Go.Proofs.YtdhfildgjmkgaaaW.PrintWords Go.Proofs.YtdhfildgjmkgaaaW.PrintLast
set_option linter.unusedVariables false
set_option linter.unusedSimpArgs false

set_option maxRecDepth 100000 in
set_option maxHeartbeats 2000000 in
theorem fair_cmp (gb : Nat) (A0 : Option Addr) (c0 : Nat) (l0 : List Int) (V : World) (hb : V.heap[gb]? = some (.cells #[.slice A0 l0.length c0] 24 (0, 0))) (hr : Kd.C (Kd.int .i64) V A0 l0.length l0) (i j : Nat) (hi : i < l0.length) (hj : j < l0.length) :
    Calls Try.prog 51 #[.int .i64 (i : Int), .int .i64 (j : Int), .pointer (some ⟨gb, 0, none⟩)] V fun e w' => e = .returned (.int .i64 (wrap64 (l0[i] - l0[j]))) ∧ ∃ q, w' = V.drewN q := by
  have hc0 : V.cell? ⟨gb, 0, none⟩ = some (.slice A0 l0.length c0) := (blk_cell hb 0).trans rfl
  obtain ⟨ad, rfl, hcs⟩ := hr.2.2 (by omega)
  have get : ∀ (k : Nat) (hk : k < l0.length), V.cell? (ad.add k) = some (.int .i64 l0[k]) := by
    intro k hk
    obtain ⟨c, hcl, hR, hcc⟩ := hcs k l0[k] (by simp [hk])
    have hcc' : c = [.int .i64 l0[k]] := hR
    subst hcc'
    have h1 := hcc 0 _ rfl
    have h2 : (Kd.int .i64).sz = 1 := rfl
    rwa [h2, Nat.mul_one, Nat.add_zero] at h1
  have hx := get i hi
  have hy := get j hj
  generalize l0[i] = x at hx ⊢
  generalize l0[j] = y at hy ⊢
  clear hr hcs get
  have q1 : ((0 : Int) ≤ (i : Int)) = True := eq_true (by omega)
  have q2 : ((i : Int) < (l0.length : Int)) = True := eq_true (by omega)
  have q3 : ((0 : Int) ≤ (j : Int)) = True := eq_true (by omega)
  have q4 : ((j : Int) < (l0.length : Int)) = True := eq_true (by omega)
  go_enter Try.func51, Try.ntmps51
  go_wp2
  go_big_region
  all_goals go_wp2
  go_ret
  exact ⟨rfl, _, rfl⟩

/-! ### the stable sort -/
def encF {n : Nat} (x : Fin n) : Value := .int .i64 (x.1 : Int)
def cfF (l : List Int) (x y : Fin l.length) : Int := wrap64 (l[x.1]'x.2 - l[y.1]'y.2)
/-- The numbers of the cars, sorted by their favourites. -/
def fairA (l : List Int) : Array Int :=
  if h : 0 < l.length then
    haveI : Inhabited (Fin l.length) := ⟨⟨0, h⟩⟩
    (Go.Sort.insertionSort (ltOf (cfF l)) (Array.ofFn fun i : Fin l.length => i) 0 l.length).map fun x => (x.1 : Int)
  else #[]
theorem insInner_size {α : Type} [Inhabited α] (lt : α → α → Bool) (a : Nat) : ∀ (j : Nat) (d : Array α), (Go.Sort.insInner lt a j d).size = d.size
  | 0, d => rfl
  | j + 1, d => by
    rw [Go.Sort.insInner]
    split
    · rw [insInner_size lt a j]
      simp [Go.Sort.swp]
    · rfl
theorem insOuter_size {α : Type} [Inhabited α] (lt : α → α → Bool) (a b : Nat) : ∀ (m i : Nat) (d : Array α), m = b - i → (Go.Sort.insOuter lt a b i d).size = d.size := by
  intro m
  induction m with
  | zero =>
    intro i d h
    rw [Go.Sort.insOuter, if_neg (by omega)]
  | succ m ih =>
    intro i d h
    rw [Go.Sort.insOuter, if_pos (by omega), ih (i + 1) _ (by omega), insInner_size]
theorem fairA_size (l : List Int) : (fairA l).size = l.length := by
  unfold fairA
  split
  · rename_i h
    letI : Inhabited (Fin l.length) := ⟨⟨0, h⟩⟩
    rw [Array.size_map]
    unfold Go.Sort.insertionSort
    rw [insOuter_size _ _ _ _ _ _ rfl, Array.size_ofFn]
  · rename_i h
    simp
    omega
theorem putCells_conv {n : Nat} [Inhabited (Fin n)] (D : Array (Fin n)) (c : Array Value) : putCells encF 0 D c = putCells encZ 0 (D.map fun x => (x.1 : Int)) c := by
  unfold putCells
  congr 1
  funext k x
  by_cases h : 0 ≤ k ∧ k < 0 + D.size
  · have hk : k - 0 < D.size := by omega
    rw [if_pos h, if_pos (by simpa using h), getElem!_pos D (k - 0) hk, getElem!_pos (D.map fun x => (x.1 : Int)) (k - 0) (by simpa using hk)]
    simp [encF]
  · rw [if_neg h, if_neg (by simpa using h)]
theorem sortWorld_conv {n : Nat} [Inhabited (Fin n)] (D : Array (Fin n)) (W : World) (blk m : Nat) (os : Array Obj) : sortWorld encF W blk 0 m D os = grow (putRow encZ (Go.Sort.ahead W m) blk 0 (D.map fun x => (x.1 : Int))) os := by
  unfold sortWorld putRow
  congr 2
  funext c
  exact putCells_conv D c

set_option maxRecDepth 100000 in
set_option maxHeartbeats 2000000 in
theorem insertion_fair (gb : Nat) (A0 : Option Addr) (c0 : Nat) (l0 : List Int) (w1 : World) (hgb : gb < w1.heap.size) (hb : w1.heap[gb]? = some (.cells #[.slice A0 l0.length c0] 24 (0, 0))) (hr : Kd.C (Kd.int .i64) w1 A0 l0.length l0)
    (h0 : 0 < l0.length) (h8 : l0.length ≤ 8) (blk cap : Nat) (W : World) (HB : Below w1.heap.size w1 W) (hblk : w1.heap.size ≤ blk)
    (hH : Holds encZ W blk 0 ((List.range l0.length).map fun i : Nat => (i : Int)).toArray) :
    Calls Try.prog 73 #[.slice (some ⟨blk, 0, none⟩) l0.length cap, .int .i64 0, .int .i64 (l0.length : Int), .func (.func 51) #[] #[.pointer (some ⟨gb, 0, none⟩)]] W fun e w' =>
      e = .returned (.tuple #[]) ∧ ∃ m, w' = grow (putRow encZ (Go.Sort.ahead W m) blk 0 (fairA l0)) #[] := by
  letI : Inhabited (Fin l0.length) := ⟨⟨0, h0⟩⟩
  have hsz : (Array.ofFn fun i : Fin l0.length => i).size = l0.length := Array.size_ofFn
  have hHF : Holds encF W blk 0 (Array.ofFn fun i : Fin l0.length => i) := by
    intro j hj
    have hj' : j < l0.length := by rw [hsz] at hj; exact hj
    have h1 := hH j (by simpa using hj')
    rw [getElem!_pos _ j (by simpa using hj')] at h1
    rw [getElem!_pos _ j hj]
    simpa [encF] using h1
  have hcmp : CmpReads Try.prog 51 #[.pointer (some ⟨gb, 0, none⟩)] encF (cfF l0) blk 0 (Array.ofFn fun i : Fin l0.length => i).size W := by
    intro m os dk hdk x y
    have hg : W.grownBy (sortWorld encF W blk 0 m dk os) (some blk) := by
      rw [sortWorld_conv]
      exact grownBy_sorted_i _
    have HB' : Below w1.heap.size w1 (sortWorld encF W blk 0 m dk os) := HB.grown hg HB.size (fun j hj => by cases hj; exact hblk)
    have h2 := fair_cmp gb A0 c0 l0 (sortWorld encF W blk 0 m dk os) ((HB'.block gb hgb).trans hb) (Kd.C_below hr HB') x.1 y.1 x.2 y.2
    exact h2
  have h3 := Try.insertionSortCmpFunc_one encF (fun _ => rfl) (cfF l0) 51 #[.pointer (some ⟨gb, 0, none⟩)] blk 0 cap 0 l0.length (Array.ofFn fun i : Fin l0.length => i) W (enters_of Try.func51 (by kernel_rfl) rfl) hcmp hHF (Nat.zero_le _) (by rw [hsz]; exact Nat.le_refl _) (by rw [hsz]; omega)
  rw [hsz] at h3
  refine h3.mono ?_
  rintro e w' ⟨rfl, m, rfl⟩
  refine ⟨rfl, m, ?_⟩
  rw [← sortWorld_none, sortWorld_conv]
  unfold fairA
  rw [dif_pos h0]

set_option maxRecDepth 100000 in
set_option maxHeartbeats 2000000 in
theorem insertion_none (sv cl : Value) (W : World) :
    Calls Try.prog 73 #[sv, .int .i64 0, .int .i64 0, cl] W fun e w' => e = .returned (.tuple #[]) ∧ w' = W := by
  go_enter Try.func73, Try.ntmps73
  go_wp2
  refine wp_loop_rounds 1 ?_
  rw [rounds_succ]
  go_wp2
  go_end0
  exact ⟨rfl, rfl⟩

set_option maxRecDepth 100000 in
set_option maxHeartbeats 2000000 in
theorem stable_any (sv cl : Value) (n : Nat) (h8 : n ≤ 8) (W : World) (R : World → Prop)
    (h : Calls Try.prog 73 #[sv, .int .i64 0, .int .i64 (n : Int), cl] W fun e w' => e = .returned (.tuple #[]) ∧ R w') :
    Calls Try.prog 59 #[sv, .int .i64 (n : Int), cl] W fun e w' => e = .returned (.tuple #[]) ∧ R w' := by
  have q1 : decide ((20 : Int) ≤ (n : Int)) = false := decide_eq_false (by omega)
  have q2 : decide ((20 : Int) < (n : Int)) = false := decide_eq_false (by omega)
  have HC := Aside0.mk h
  clear h
  go_enter Try.func59, Try.ntmps59
  go_wp2
  refine wp_loop_rounds 1 ?_
  rw [rounds_succ]
  go_wp2_with (go_at_call 73; refine HC.out.mono ?_; rintro e w' ⟨rfl, hR⟩)
  refine wp_loop_rounds 1 ?_
  rw [rounds_succ]
  go_wp2
  go_end0
  exact ⟨rfl, hR⟩

set_option maxRecDepth 100000 in
set_option maxHeartbeats 2000000 in
theorem sortStable_any (A : Option Addr) (cap : Nat) (cl : Value) (n : Nat) (h8 : n ≤ 8) (W : World) (R : World → Prop)
    (h : Calls Try.prog 73 #[.slice A n cap, .int .i64 0, .int .i64 (n : Int), cl] W fun e w' => e = .returned (.tuple #[]) ∧ R w') :
    Calls Try.prog 50 #[.slice A n cap, cl] W fun e w' => e = .returned (.tuple #[]) ∧ R w' := by
  have HC := Aside0.mk (stable_any (.slice A n cap) cl n h8 W R h)
  clear h
  go_enter Try.func50, Try.ntmps50
  go_wp2_with (go_at_call 59; refine HC.out.mono ?_; rintro e w' ⟨rfl, hR⟩)
  go_end0
  exact ⟨rfl, hR⟩

/-- The numbers of the cars, sorted by their favourites, as a list. -/
def fairL (l : List Int) : List Int := (fairA l).toList
def upN (n : Nat) : List Int := (List.range n).map fun i : Nat => (i : Int)
theorem upN_succ (n : Nat) : upN (n + 1) = upN n ++ [(n : Int)] := by simp [upN, List.range_succ]
theorem upN_length (n : Nat) : (upN n).length = n := by simp [upN]
def impl_fair.f (l0 : List Int) : Option (List Int) := if l0.length ≤ 8 then some (fairL l0) else none
set_option maxRecDepth 100000 in
set_option maxHeartbeats 8000000 in
theorem impl_fair.calls (A0 : Option Addr) (c0 : Nat) (l0 : List Int) (r : List Int) (w : World) (hr0 : Kd.C (Kd.int .i64) w A0 l0.length l0) (hc0 : l0.length ≤ c0) (h : impl_fair.f l0 = some r) :
    Calls Try.prog 42 #[.slice A0 l0.length c0] w fun e w' => ∃ v0_ : Value, e = .returned (v0_) ∧ Kd.R (Kd.int .i64) 3 w' w.heap.size (fun _ => True) v0_ r ∧ Below w.heap.size w w' := by
  unfold impl_fair.f at h
  split at h
  case isFalse => cases h
  case isTrue h8 =>
  obtain rfl := Option.some.inj h
  clear h
  obtain ⟨w1, hw1⟩ : ∃ w1, w1 = w.alloc (.cells #[.slice A0 l0.length c0] 24) := ⟨_, rfl⟩
  have hsz1 : w1.heap.size = w.heap.size + 1 := by rw [hw1]; simp
  have HB0 := Aside0.mk (show Below w.heap.size w w1 by rw [hw1]; exact below_alloc (Below.refl _ _) _)
  have HX := Aside0.mk (show w1.heap[w.heap.size]? = some (.cells #[.slice A0 l0.length c0] 24 (0, 0)) by rw [hw1]; exact blk_new w _)
  have HR0 := Aside0.mk (show Kd.C (Kd.int .i64) w1 A0 l0.length l0 by rw [hw1]; exact Kd.C_alloc hr0 _)
  have HB := Aside0.mk (Below.refl w1.heap.size w1)
  have HS := Aside0.mk hsz1
  clear hr0 hsz1
  have hc1 : w1.cell? ⟨w.heap.size, 0, none⟩ = some (.slice A0 l0.length c0) := (blk_cell HX.out 0).trans rfl
  have HN := Aside0.mk h8
  go_enter Try.func42, Try.ntmps42
  go_wp2
  rw [← hw1]
  have hg1 : w1.heap.size = w.heap.size + 1 := HS.out
  have hx0 : (w1.alloc (.cells #[] 3)).heap[w.heap.size + 1]? = some (.cells #[] 3 (0, 0)) := by rw [← hg1]; exact blk_new w1 _
  have HO := Aside0.mk (show Kd.R (Kd.int .i64) 3 (w1.alloc (.cells #[] 3)) w1.heap.size (fun _ => True) (.slice (some ⟨w.heap.size + 1, 0, none⟩) 0 0) (upN 0) from Kd.R_of_own ⟨by simp [upN, encs], .inr ⟨w.heap.size + 1, 0, #[], rfl, by omega, hx0, by simp [upN], by simp, by simp, by simp [upN, encs]⟩⟩ (fun _ _ => trivial))
  have HB1 := Aside0.mk (show Below w1.heap.size w1 (w1.alloc (.cells #[] 3)) from below_alloc (Below.refl _ _) _)
  clear hx0 hg1 hw1 hc1
  go_loopg [3, 8] l0.length (fun kq v3 v8 w' => ∃ i : Nat, v8 = .int .i64 (i : Int) ∧ Aside0 (i + kq = l0.length) ∧ Aside0 (kq ≤ l0.length) ∧ Aside0 (Kd.R (Kd.int .i64) 3 w' w1.heap.size (fun _ => True) v3 (upN i)) ∧ Aside0 (Below w1.heap.size w1 w'))
  case atStart => exact ⟨0, rfl, ⟨by omega⟩, ⟨Nat.le_refl _⟩, HO, HB1⟩
  case round =>
    clear HO HB1
    obtain ⟨i, rfl, HI, HK1, HO, HB1⟩ := hrel
    cases gk with
    | zero =>
      have hi : i = l0.length := by have := HI.out; omega
      have q1 : decide ((i : Int) < (l0.length : Int)) = false := decide_eq_false (by omega)
      rcases (Kd.own_of_R HO.out).2 with ⟨hv, hz⟩ | ⟨g2, cap, cur, hv, hbase, hgb, r1, r2, r3, r4⟩
      · subst hv
        rw [upN_length] at hz
        have hl : fairL l0 = [] := by
          apply List.eq_nil_of_length_eq_zero
          unfold fairL
          rw [Array.length_toList, fairA_size]
          omega
        go_wp2_with (go_at_call 50; refine (sortStable_any none 0 _ 0 (by omega) wr (fun w' => w' = wr) (insertion_none _ _ _)).mono ?_; rintro e w' ⟨rfl, rfl⟩)
        go_ret
        exact ⟨_, rfl, by rw [hl]; exact Kd.R_nil _ _ _ _ _, HB0.out.trans (HB1.out.mono (by have := HS.out; omega))⟩
      · subst hv
        rw [upN_length]
        rw [upN_length] at r1 r4
        subst hi
        by_cases h0 : 0 < l0.length
        · have hlt : g2 < wr.heap.size := (Array.getElem?_eq_some_iff.1 hgb).1
          have HI1 := Aside0.mk (insertion_fair w.heap.size A0 c0 l0 w1 (by have := HS.out; omega) HX.out HR0.out h0 HN.out g2 cap wr HB1.out hbase (holds_of_block_i (ss := upN l0.length) hgb (by rw [upN_length]; simpa [encs] using r4)))
          go_wp2_with (go_at_call 50; refine (sortStable_any _ cap _ l0.length HN.out wr _ HI1.out).mono ?_; rintro e w' ⟨rfl, m, rfl⟩)
          go_ret
          have hlen : (fairL l0).length = l0.length := by unfold fairL; rw [Array.length_toList, fairA_size]
          have hown := ownsRow_sorted_i (n := m) (os := #[]) (ss := upN l0.length) (ts := fairL l0) (by rw [hlen, upN_length]) hbase hgb (by rw [upN_length]; exact r1) r2 r3
          have harr : (fairL l0).toArray = fairA l0 := by unfold fairL; simp
          rw [harr, upN_length] at hown
          have hb2 : Below w1.heap.size w1 (grow (putRow encZ (Go.Sort.ahead wr m) g2 0 (fairA l0)) #[]) := HB1.out.grown (grownBy_sorted_i _) HB1.out.size (fun j hj => by cases hj; exact hbase)
          refine ⟨_, rfl, ?_, HB0.out.trans (hb2.mono (by have := HS.out; omega))⟩
          refine Kd.R_of_own (own_weaken ?_ (show w.heap.size ≤ w1.heap.size by have := HS.out; omega)) (fun _ _ => trivial)
          rw [hlen]
          exact hown
        · have HI1 := Aside0.mk (show Calls Try.prog 73 #[.slice (some ⟨g2, 0, none⟩) l0.length cap, .int .i64 0, .int .i64 (l0.length : Int), .func (.func 51) #[] #[.pointer (some ⟨w.heap.size, 0, none⟩)]] wr fun e w' => e = .returned (.tuple #[]) ∧ w' = wr by
            rw [show l0.length = 0 by omega]
            exact insertion_none _ _ _)
          have hl : fairL l0 = [] := by
            apply List.eq_nil_of_length_eq_zero
            unfold fairL
            rw [Array.length_toList, fairA_size]
            omega
          go_wp2_with (go_at_call 50; refine (sortStable_any _ cap _ l0.length HN.out wr (fun w' => w' = wr) HI1.out).mono ?_; rintro e w' ⟨rfl, rfl⟩)
          go_ret
          have e0 : upN l0.length = [] := by rw [show l0.length = 0 by omega]; rfl
          have ho := HO.out
          rw [e0] at ho
          exact ⟨_, rfl, by rw [hl, show l0.length = 0 by omega]; exact Kd.R_lower (by simpa [upN_length] using ho) (by have := HS.out; omega), HB0.out.trans (HB1.out.mono (by have := HS.out; omega))⟩
    | succ k1 =>
      have hi : i < l0.length := by have := HI.out; omega
      have q1 : decide ((i : Int) < (l0.length : Int)) = true := decide_eq_true (by omega)
      go_wp2_with (first | ((with_reducible refine gate_builtin (b := .append) (xs := #[.tmp 11, .tmp 13]) rfl ?_); at_builtin; refine Kd.R_append (Kd.int .i64) (w0 := w1) w1.heap.size rfl (.tmp 11) (.tmp 13) 24 3 (.int .i64 0) 8 rfl Try.underlying24 info_int rfl (by decide) (by omega) u3 (upN i) (i : Int) [.int .i64 (i : Int)] (fun _ => True) (fun _ => False) rfl rfl ?aP (fun _ hk => hk.elim) ?aF ?aO ?aB ?aS ?aL ?_; (case aP => exact rfl); (case aB => exact (by repeat (first | (with_reducible first | exact HB1.out | apply below_alloc | apply pw_below_drewN | apply below_drew1) | exact HB1.out))); (case aF => exact (fun _ _ => trivial)); (case aO => exact (by (with_reducible repeat (first | apply Kd.R_alloc | apply Kd.R_drewN | apply Kd.R_drew)); exact HO.out)); (case aS => exact (below_size (by repeat (first | (with_reducible first | exact HB1.out | apply below_alloc | apply pw_below_drewN | apply below_drew1) | exact HB1.out)))); (case aL => rw [upN_length]; have := HN.out; omega); intro v179 w8 ho hb hg hat; rw [← upN_succ] at ho; have n0_ := Aside0.mk (hb); have n1_ := Aside0.mk (ho); clear HB1; clear HO; have HB1 := n0_; have HO := n1_; clear n0_ n1_; clear ho hb hg hat))
      go_roundg k1
      case measure => have := HK1.out; omega
      case rel => exact ⟨i + 1, by first | rfl | (have e_ := wrap_succ' i (by omega); simp [e_]), ⟨by have := HI.out; omega⟩, ⟨by have := HK1.out; omega⟩, ⟨by (with_reducible repeat (first | apply Kd.R_alloc | apply Kd.R_drewN | apply Kd.R_drew)); exact HO.out⟩, ⟨by repeat (first | (with_reducible first | exact HB1.out | apply below_alloc | apply pw_below_drewN | apply below_drew1) | exact HB1.out)⟩⟩
#print axioms impl_fair.calls
end Go.Proofs.Ytdhfildgjmkgaaa.Hand
