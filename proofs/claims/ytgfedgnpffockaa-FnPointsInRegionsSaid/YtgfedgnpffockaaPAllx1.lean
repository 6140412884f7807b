-- written by a program of this session (wip/gen/xpatch.py over the translation); Lean checks it
import Derived.Test.YtgfedgnpffockaaPAllx0
namespace Go.Proofs.Ytgfedgnpffockaa.PAll
open Go.RowKit Go.Proofs.Ytgfedgnpffockaa.Hand Go.Proofs.YtgfedgnpffockaaW.PrintWords Go.Proofs.YtgfedgnpffockaaW.PrintLast Go.Proofs.YtgfedgnpffockaaW.PrintMore
attribute [local go_sem] max2_int min2_int max_two min_two max_three min_three max_four min_four   -- for this text's walks alone
set_option maxHeartbeats 8000000
set_option maxRecDepth 100000
set_option linter.unusedVariables false
set_option linter.unusedSimpArgs false

/-! ### laws_big: function 4 -/
def laws_big.f (l0 : List Int) (l1 : List Int) : Option (Bool) := if (l0.length : Int) > 1048576 then (some true) else (some (decide ((l1.length : Int) > (wrap64 (1048576 - (l0.length : Int))))))
theorem laws_big.calls (A0 : Option Addr) (c0 : Nat) (l0 : List Int) (A1 : Option Addr) (c1 : Nat) (l1 : List Int) (r : Bool) (w : World) (hr0 : Kd.C (Kd.int .u8) w A0 l0.length l0) (hc0 : l0.length ≤ c0) (hr1 : Kd.C (Kd.int .u8) w A1 l1.length l1) (hc1 : l1.length ≤ c1) (h : laws_big.f l0 l1 = some r) :
  Calls Try.prog 4 #[.slice A0 l0.length c0, .slice A1 l1.length c1] w fun e w' => e = .returned (.bool r) ∧ Drawn0 w w' := by
 have HR0 := Aside0.mk hr0
 have HC0 := Aside0.mk hc0
 clear hr0 hc0
 have HR1 := Aside0.mk hr1
 have HC1 := Aside0.mk hc1
 clear hr1 hc1
 unfold laws_big.f at h
 have H := h; clear h
 by_cases c3 : (l0.length : Int) > 1048576
 ·
  rw [if_pos c3] at H
  have c3b0 := decide_eq_true c3
  have c3b1 : decide (1048576 < l0.length) = true := decide_eq_true (by omega)
  clear c3
  obtain rfl := Option.some.inj H
  go_enter Try.func4, Try.ntmps4
  go_wp2
  go_ret
  exact ⟨qc8f_, qffa_⟩
 ·
  rw [if_neg c3] at H
  have c3b0 := decide_eq_false c3
  have c3b1 : decide (1048576 < l0.length) = false := decide_eq_false (by omega)
  clear c3
  obtain rfl := Option.some.inj H
  go_enter Try.func4, Try.ntmps4
  go_wp2
  go_ret
  exact ⟨qc8f_, qffa_⟩

/-- A state of type 44 at block g of W; what its slices lead to came in by w0. -/
def IsS44 (w0 W : World) (g : Nat) (f0 : List Int) (f1 : Int) (f2 : Int) : Prop := ∃ A0 c0, W.heap[g]? = some (.cells #[.slice A0 f0.length c0, .int .i64 f1, .int .u64 f2] 44 (0, 0)) ∧ w0.heap.size ≤ g ∧ Kd.C (Kd.int .u8) w0 A0 f0.length f0
theorem IsS44.grown {w0 W : World} {g : Nat} {f0 : List Int} {f1 : Int} {f2 : Int} {W1 : World} {row : Option Nat} (h : IsS44 w0 W g f0 f1 f2) (hw : W.grownBy W1 row) (hne : some g ≠ row) : IsS44 w0 W1 g f0 f1 f2 := by
 obtain ⟨A0, c0, hb, hg, hr0⟩ := h
 exact ⟨A0, c0, blk_grown hb hw hne, hg, hr0⟩
theorem IsS44.own_neN {w0 W : World} {g : Nat} {f0 : List Int} {f1 : Int} {f2 : Int} {α : Type} {d : Kd α} {e : Nat} {base : Nat} {ok : Nat → Prop} {v : Value} {xs : List α} (h : IsS44 w0 W g f0 f1 f2) (ho : Kd.N d e W base ok v xs) (ht : e ≠ 44) : some g ≠ v.ownBlock := by
 obtain ⟨A0, c0, hb, hg, hr0⟩ := h
 exact Kd.N_ne ho hb ht
theorem IsS44.fresh {w0 W : World} {g : Nat} {f0 : List Int} {f1 : Int} {f2 : Int} (h : IsS44 w0 W g f0 f1 f2) : ∀ k, W.heap.size ≤ k → k ≠ g := by
 obtain ⟨A0, c0, hb, hg, hr0⟩ := h
 exact Kd.freshB hb
theorem IsS44.kept {w0 W : World} {g : Nat} {f0 : List Int} {f1 : Int} {f2 : Int} {W1 : World} {S : Nat → Prop} (h : IsS44 w0 W g f0 f1 f2) (hk : Kept W W1 S) (hne : ¬ S g) : IsS44 w0 W1 g f0 f1 f2 := by
 obtain ⟨A0, c0, hb, hg, hr0⟩ := h
 exact ⟨A0, c0, blk_kept hb hk hne, hg, hr0⟩
theorem IsS44.below {w0 W : World} {g : Nat} {f0 : List Int} {f1 : Int} {f2 : Int} {W1 : World} (h : IsS44 w0 W g f0 f1 f2) (hw : Below W.heap.size W W1) : IsS44 w0 W1 g f0 f1 f2 := h.grown (grown_of_below hw none) (by simp)
theorem IsS44.alloc {w0 W : World} {g : Nat} {f0 : List Int} {f1 : Int} {f2 : Int} (h : IsS44 w0 W g f0 f1 f2) (o : Obj) : IsS44 w0 (W.alloc o) g f0 f1 f2 := h.below (below_alloc (Below.refl _ _) o)
theorem IsS44.drewN {w0 W : World} {g : Nat} {f0 : List Int} {f1 : Int} {f2 : Int} (h : IsS44 w0 W g f0 f1 f2) (m : Nat) : IsS44 w0 (W.drewN m) g f0 f1 f2 := h
theorem IsS44.drew {w0 W : World} {g : Nat} {f0 : List Int} {f1 : Int} {f2 : Int} (h : IsS44 w0 W g f0 f1 f2) : IsS44 w0 W.drew g f0 f1 f2 := h
theorem IsS44.at_ {w0 W : World} {g : Nat} {f0 : List Int} {f1 : Int} {f2 : Int} {w' : World} {m : Nat} (hq : W.drewN m = w') (h : IsS44 w0 W g f0 f1 f2) : IsS44 w0 w' g f0 f1 f2 := by subst hq; exact IsS44.drewN h m
theorem IsS44.apart {w0 W : World} {g : Nat} {f0 : List Int} {f1 : Int} {f2 : Int} {α : Type} {d : Kd α} {e : Nat} {base : Nat} {ok : Nat → Prop} {v : Value} {xs : List α} (h : IsS44 w0 W g f0 f1 f2) (ho : d.R e W base ok v xs) (ht : ∀ q, q ∈ e :: d.E → q ≠ 44) : d.R e W base (fun k => ok k ∧ k ≠ g) v xs := by
 obtain ⟨A0, c0, hb, hg, hr0⟩ := h
 exact Kd.R_types ho hb ht
theorem IsS44.own_ne {w0 W : World} {g : Nat} {f0 : List Int} {f1 : Int} {f2 : Int} {α : Type} {d : Kd α} {e : Nat} {base : Nat} {ok : Nat → Prop} {v : Value} {xs : List α} (h : IsS44 w0 W g f0 f1 f2) (ho : d.R e W base ok v xs) (ht : e ≠ 44) : some g ≠ v.ownBlock := by
 obtain ⟨A0, c0, hb, hg, hr0⟩ := h
 exact Kd.R_ne ho hb ht
theorem IsS44.apartQ {w0 W : World} {g : Nat} {f0 : List Int} {f1 : Int} {f2 : Int} {α : Type} {d : Kd α} {e : Nat} {base : Nat} {ok : Nat → Prop} {v : Value} {xs : List α} (h : IsS44 w0 W g f0 f1 f2) (ho : d.Q e W base ok v xs) (ht : ∀ q, q ∈ e :: d.E → q ≠ 44) : d.Q e W base (fun k => ok k ∧ k ≠ g) v xs := by
 obtain ⟨A0, c0, hb, hg, hr0⟩ := h
 exact Kd.Q_types ho hb ht
theorem IsS44.own_neQ {w0 W : World} {g : Nat} {f0 : List Int} {f1 : Int} {f2 : Int} {α : Type} {d : Kd α} {e : Nat} {base : Nat} {ok : Nat → Prop} {v : Value} {xs : List α} (h : IsS44 w0 W g f0 f1 f2) (ho : d.Q e W base ok v xs) (ht : e ≠ 44) : some g ≠ v.ownBlock := by
 obtain ⟨A0, c0, hb, hg, hr0⟩ := h
 exact Kd.Q_ne ho hb ht
theorem IsS44.apartS {w0 W : World} {g : Nat} {f0 : List Int} {f1 : Int} {f2 : Int} {α : Type} {d : Kd α} {e : Nat} {base : Nat} {ok : Nat → Prop} {v : Value} {xs : List α} (h : IsS44 w0 W g f0 f1 f2) (ho : d.S e W base ok v xs) (ht : ∀ q, q ∈ e :: d.E → q ≠ 44) : d.S e W base (fun k => ok k ∧ k ≠ g) v xs := by
 obtain ⟨A0, c0, hb, hg, hr0⟩ := h
 exact Kd.S_types ho hb ht
theorem IsS44.own_neS {w0 W : World} {g : Nat} {f0 : List Int} {f1 : Int} {f2 : Int} {α : Type} {d : Kd α} {e : Nat} {base : Nat} {ok : Nat → Prop} {v : Value} {xs : List α} (h : IsS44 w0 W g f0 f1 f2) (ho : d.S e W base ok v xs) (ht : e ≠ 44) : some g ≠ v.ownBlock := by
 obtain ⟨A0, c0, hb, hg, hr0⟩ := h
 exact Kd.S_ne ho hb ht
theorem IsS44.lt {w0 W : World} {g : Nat} {f0 : List Int} {f1 : Int} {f2 : Int} (h : IsS44 w0 W g f0 f1 f2) : g < W.heap.size := by
 obtain ⟨A0, c0, hb, hg, hr0⟩ := h
 exact blk_lt hb
theorem IsS44.ge {w0 W : World} {g : Nat} {f0 : List Int} {f1 : Int} {f2 : Int} (h : IsS44 w0 W g f0 f1 f2) : w0.heap.size ≤ g := by
 obtain ⟨A0, c0, hb, hg, hr0⟩ := h
 exact hg
theorem IsS44.ne_blk {w0 W : World} {g : Nat} {f0 : List Int} {f1 : Int} {f2 : Int} {a : Nat} {cs : Array Value} {t : TypeId} {fr : Nat × Nat} (h : IsS44 w0 W g f0 f1 f2) (hb2 : W.heap[a]? = some (.cells cs t fr)) (ht : t ≠ 44) : g ≠ a := by
 obtain ⟨A0, c0, hb, hg, hr0⟩ := h
 rintro rfl
 rw [hb] at hb2
 injection hb2 with hb2
 injection hb2 with _ ht2
 exact ht ht2.symm
theorem IsS44.far {w0 W : World} {g : Nat} {f0 : List Int} {f1 : Int} {f2 : Int} {p : Addr} (h : IsS44 w0 W g f0 f1 f2) (hne : g ≠ p.block) (u : Value) : IsS44 w0 (W.setCell p u) g f0 f1 f2 := by
 obtain ⟨A0, c0, hb, hg, hr0⟩ := h
 exact ⟨A0, c0, blk_far hb hne u, hg, hr0⟩
theorem cellS44_0 {W : World} {g : Nat} {A0 : Option Addr} {c0 : Nat} {f0 : List Int} {f1 : Int} {f2 : Int} (h : W.heap[g]? = some (.cells #[.slice A0 f0.length c0, .int .i64 f1, .int .u64 f2] 44 (0, 0))) : W.cell? ⟨g, 0, none⟩ = some (.slice A0 f0.length c0) := (blk_cell h 0).trans rfl
theorem cellS44_1 {W : World} {g : Nat} {A0 : Option Addr} {c0 : Nat} {f0 : List Int} {f1 : Int} {f2 : Int} (h : W.heap[g]? = some (.cells #[.slice A0 f0.length c0, .int .i64 f1, .int .u64 f2] 44 (0, 0))) : W.cell? ⟨g, 1, none⟩ = some (.int .i64 f1) := (blk_cell h 1).trans rfl
theorem IsS44.set_1 {w0 W : World} {g : Nat} {f0 : List Int} {f1 : Int} {f2 : Int} (h : IsS44 w0 W g f0 f1 f2) (x : Int) : IsS44 w0 (W.setCell ⟨g, 1, none⟩ (.int .i64 x)) g f0 x f2 := by
 obtain ⟨A0, c0, hb, hg, hr0⟩ := h
 exact ⟨A0, c0, by simpa using blk_set hb 1 (.int .i64 x), hg, hr0⟩
theorem cellS44_2 {W : World} {g : Nat} {A0 : Option Addr} {c0 : Nat} {f0 : List Int} {f1 : Int} {f2 : Int} (h : W.heap[g]? = some (.cells #[.slice A0 f0.length c0, .int .i64 f1, .int .u64 f2] 44 (0, 0))) : W.cell? ⟨g, 2, none⟩ = some (.int .u64 f2) := (blk_cell h 2).trans rfl
theorem IsS44.set_2 {w0 W : World} {g : Nat} {f0 : List Int} {f1 : Int} {f2 : Int} (h : IsS44 w0 W g f0 f1 f2) (x : Int) : IsS44 w0 (W.setCell ⟨g, 2, none⟩ (.int .u64 x)) g f0 f1 x := by
 obtain ⟨A0, c0, hb, hg, hr0⟩ := h
 exact ⟨A0, c0, by simpa using blk_set hb 2 (.int .u64 x), hg, hr0⟩
theorem IsS44.new (w0 W : World) (A0 : Option Addr) (c0 : Nat) (f0 : List Int) (f1 : Int) (f2 : Int) (hB : Below w0.heap.size w0 W) (hr0 : Kd.C (Kd.int .u8) w0 A0 f0.length f0) : IsS44 w0 (W.alloc (.cells #[.slice A0 f0.length c0, .int .i64 f1, .int .u64 f2] 44)) W.heap.size f0 f1 f2 := ⟨A0, c0, by simpa using heap_alloc_new W _, hB.size, hr0⟩

/-! ### spec_l1Cur_next: function 32 -/
def spec_l1Cur_next.f (s0_0 : List Int) (s0_1 : Int) (s0_2 : Int) : Option (Int × Int × Int) := if s0_1 < (s0_0.length : Int) then (if 0 ≤ s0_1 then (if (wrap64 (s0_1 + 1)) ≤ (s0_0.length : Int) then (some (wrap64 (rd s0_0 s0_1), wrap64 (s0_1 + 1), IntKind.u64.wrap ((IntKind.u64.wrap ((IntKind.u64.wrap (s0_2 * 6364136223846793005)) + (IntKind.u64.wrap (wrap64 (rd s0_0 s0_1))))) + 1442695040888963407))) else (some (wrap64 (Go.bits .and .u64 ((IntKind.u64.wrap ((IntKind.u64.wrap ((IntKind.u64.wrap (s0_2 * 6364136223846793005)) + (IntKind.u64.wrap (wrap64 (rd s0_0 s0_1))))) + 1442695040888963407)) / 1099511627776) 255), wrap64 (s0_1 + 1), IntKind.u64.wrap ((IntKind.u64.wrap ((IntKind.u64.wrap (s0_2 * 6364136223846793005)) + (IntKind.u64.wrap (wrap64 (rd s0_0 s0_1))))) + 1442695040888963407)))) else (none)) else (if (wrap64 (s0_1 + 1)) ≤ (s0_0.length : Int) then (some (0, wrap64 (s0_1 + 1), IntKind.u64.wrap ((IntKind.u64.wrap (IntKind.u64.wrap (s0_2 * 6364136223846793005))) + 1442695040888963407))) else (some (wrap64 (Go.bits .and .u64 ((IntKind.u64.wrap ((IntKind.u64.wrap (IntKind.u64.wrap (s0_2 * 6364136223846793005))) + 1442695040888963407)) / 1099511627776) 255), wrap64 (s0_1 + 1), IntKind.u64.wrap ((IntKind.u64.wrap (IntKind.u64.wrap (s0_2 * 6364136223846793005))) + 1442695040888963407))))
theorem spec_l1Cur_next.calls (g : Nat) (s0_0 : List Int) (s0_1 : Int) (s0_2 : Int) (r1 : Int) (r2 : Int) (r3 : Int) (w0 w : World) (hI : IsS44 w0 w g s0_0 s0_1 s0_2) (hB : Below w0.heap.size w0 w) (h : spec_l1Cur_next.f s0_0 s0_1 s0_2 = some (r1, r2, r3)) :
  Calls Try.prog 32 #[.pointer (some ⟨g, 0, none⟩)] w fun e w' => e = .returned (.int .i64 r1) ∧ IsS44 w0 w' g s0_0 r2 r3 ∧ Below w0.heap.size w0 w' ∧ KeepBut w w' g none := by
 have HI0 := Aside0.mk hI
 have HK := Aside0.mk (KeepBut.refl w g none)
 have HL := Aside0.mk hB.size
 clear hI
 have HW0 := Aside0.mk hB.size
 have HB := Aside0.mk hB
 clear hB
 unfold spec_l1Cur_next.f at h
 have H := h; clear h
 by_cases c2 : s0_1 < (s0_0.length : Int)
 ·
  rw [if_pos c2] at H
  have c2b0 := decide_eq_true c2
  clear c2
  by_cases c3 : 0 ≤ s0_1
  ·
   rw [if_pos c3] at H
   have c3b0 := decide_eq_true c3
   clear c3
   by_cases c4 : (wrap64 (s0_1 + 1)) ≤ (s0_0.length : Int)
   ·
    rw [if_pos c4] at H
    have c4b0 := decide_eq_true c4
    clear c4
    simp only [Option.some.injEq, Prod.mk.injEq] at H
    obtain ⟨rfl, rfl, rfl⟩ := H
    obtain ⟨ASz5_0, cSz5_0, HGz5, hgz5, HSz5_0⟩ := HI0.out
    have hcz5_0 := cellS44_0 HGz5
    have hcz5_1 := cellS44_1 HGz5
    have hcz5_2 := cellS44_2 HGz5
    have hfz5_1 := blk_frozen HGz5 1
    have hfz5_2 := blk_frozen HGz5 2
    clear HGz5 hgz5
    have p101 : 0 ≤ (s0_1 : Int) := of_decide_eq_true qe84_
    have q101 : s0_1 < (s0_0.length : Int) := of_decide_eq_true qe84_
    obtain ⟨ad101, e101, hx101_0⟩ := Kd.at_int HSz5_0 s0_1 p101 q101
    cases e101
    replace hx101_0 := pw_cell_below HB.out hx101_0
    replace p101 := eq_true p101
    replace q101 := eq_true q101
    go_enter Try.func32, Try.ntmps32
    go_wp2
    repeat (go_quiet (fail); try go_wp2)
    go_ret
    exact ⟨qce7_, q7be_ HI0.out, q687_ HI0.out, q1d6_⟩
   ·
    rw [if_neg c4] at H
    have c4b0 := decide_eq_false c4
    clear c4
    simp only [Option.some.injEq, Prod.mk.injEq] at H
    obtain ⟨rfl, rfl, rfl⟩ := H
    obtain ⟨ASz6_0, cSz6_0, HGz6, hgz6, HSz6_0⟩ := HI0.out
    have hcz6_0 := cellS44_0 HGz6
    have hcz6_1 := cellS44_1 HGz6
    have hcz6_2 := cellS44_2 HGz6
    have hfz6_1 := blk_frozen HGz6 1
    have hfz6_2 := blk_frozen HGz6 2
    clear HGz6 hgz6
    have p101 : 0 ≤ (s0_1 : Int) := of_decide_eq_true qe84_
    have q101 : s0_1 < (s0_0.length : Int) := of_decide_eq_true qe84_
    obtain ⟨ad101, e101, hx101_0⟩ := Kd.at_int HSz6_0 s0_1 p101 q101
    cases e101
    replace hx101_0 := pw_cell_below HB.out hx101_0
    replace p101 := eq_true p101
    replace q101 := eq_true q101
    go_enter Try.func32, Try.ntmps32
    go_wp2
    repeat (go_quiet (fail); try go_wp2)
    go_ret
    exact ⟨qce7_, q7be_ HI0.out, q687_ HI0.out, q1d6_⟩
  ·
   rw [if_neg c3] at H
   exact absurd H (by simp)
 ·
  rw [if_neg c2] at H
  have c2b0 := decide_eq_false c2
  clear c2
  by_cases c7 : (wrap64 (s0_1 + 1)) ≤ (s0_0.length : Int)
  ·
   rw [if_pos c7] at H
   have c7b0 := decide_eq_true c7
   clear c7
   simp only [Option.some.injEq, Prod.mk.injEq] at H
   obtain ⟨rfl, rfl, rfl⟩ := H
   obtain ⟨ASz8_0, cSz8_0, HGz8, hgz8, HSz8_0⟩ := HI0.out
   have hcz8_0 := cellS44_0 HGz8
   have hcz8_1 := cellS44_1 HGz8
   have hcz8_2 := cellS44_2 HGz8
   have hfz8_1 := blk_frozen HGz8 1
   have hfz8_2 := blk_frozen HGz8 2
   clear HGz8 hgz8
   go_enter Try.func32, Try.ntmps32
   go_wp2
   repeat (go_quiet (fail); try go_wp2)
   go_ret
   exact ⟨qce7_, q7be_ HI0.out, q687_ HI0.out, q1d6_⟩
  ·
   rw [if_neg c7] at H
   have c7b0 := decide_eq_false c7
   clear c7
   simp only [Option.some.injEq, Prod.mk.injEq] at H
   obtain ⟨rfl, rfl, rfl⟩ := H
   obtain ⟨ASz9_0, cSz9_0, HGz9, hgz9, HSz9_0⟩ := HI0.out
   have hcz9_0 := cellS44_0 HGz9
   have hcz9_1 := cellS44_1 HGz9
   have hcz9_2 := cellS44_2 HGz9
   have hfz9_1 := blk_frozen HGz9 1
   have hfz9_2 := blk_frozen HGz9 2
   clear HGz9 hgz9
   go_enter Try.func32, Try.ntmps32
   go_wp2
   repeat (go_quiet (fail); try go_wp2)
   go_ret
   exact ⟨qce7_, q7be_ HI0.out, q687_ HI0.out, q1d6_⟩

/-! ### spec_l1Cur_pick: function 19 -/
def spec_l1Cur_pick.f (s0_0 : List Int) (s0_1 : Int) (s0_2 : Int) (a1 : Int) : Option (Int × Int × Int) := if a1 ≤ 1 then (some (0, s0_1, s0_2)) else ((spec_l1Cur_next.f s0_0 s0_1 s0_2).bind fun bt102 => (if a1 > 200 then ((spec_l1Cur_next.f s0_0 bt102.2.1 bt102.2.2).bind fun bt105 => (if a1 = 0 then (none) else (some (Int.tmod (wrap64 ((wrap64 (bt102.1 * 256)) + bt105.1)) a1, bt105.2.1, bt105.2.2)))) else (if a1 = 0 then (none) else (some (Int.tmod bt102.1 a1, bt102.2.1, bt102.2.2)))))
theorem spec_l1Cur_pick.calls (g : Nat) (s0_0 : List Int) (s0_1 : Int) (s0_2 : Int) (a1 : Int) (r1 : Int) (r2 : Int) (r3 : Int) (w0 w : World) (hI : IsS44 w0 w g s0_0 s0_1 s0_2) (hB : Below w0.heap.size w0 w) (h : spec_l1Cur_pick.f s0_0 s0_1 s0_2 a1 = some (r1, r2, r3)) :
  Calls Try.prog 19 #[.pointer (some ⟨g, 0, none⟩), .int .i64 a1] w fun e w' => e = .returned (.int .i64 r1) ∧ IsS44 w0 w' g s0_0 r2 r3 ∧ Below w0.heap.size w0 w' ∧ KeepBut w w' g none := by
 have HI0 := Aside0.mk hI
 have HK := Aside0.mk (KeepBut.refl w g none)
 have HL := Aside0.mk hB.size
 clear hI
 have HW0 := Aside0.mk hB.size
 have HB := Aside0.mk hB
 clear hB
 unfold spec_l1Cur_pick.f at h
 have H := h; clear h
 by_cases c3 : a1 ≤ 1
 ·
  rw [if_pos c3] at H
  have c3b0 := decide_eq_true c3
  clear c3
  simp only [Option.some.injEq, Prod.mk.injEq] at H
  obtain ⟨rfl, rfl, rfl⟩ := H
  go_enter Try.func19, Try.ntmps19
  go_wp2
  go_ret
  exact ⟨qce7_, q7be_ HI0.out, q687_ HI0.out, q1d6_⟩
 ·
  rw [if_neg c3] at H
  have c3b0 := decide_eq_false c3
  clear c3
  obtain ⟨⟨t102, t103, t104⟩, A4, H⟩ := ob_ H
  dsimp only at H
  by_cases c5 : a1 > 200
  ·
   rw [if_pos c5] at H
   have c5b0 := decide_eq_true c5
   clear c5
   obtain ⟨⟨t105, t106, t107⟩, A6, H⟩ := ob_ H
   dsimp only at H
   by_cases c7 : a1 = 0
   ·
    rw [if_pos c7] at H
    exact absurd H (by simp)
   ·
    rw [if_neg c7] at H
    have c7b0 := beq_eq_false_iff_ne.mpr c7
    have c7b1 := bne_iff_ne.mpr c7
    simp only [Option.some.injEq, Prod.mk.injEq] at H
    obtain ⟨rfl, rfl, rfl⟩ := H
    go_enter Try.func19, Try.ntmps19
    go_wp2_with (first | ((with_reducible refine gate_callee (f := 32) rfl ?_); refine gl_ 9 Try.func32 #[.pointer (some ⟨g, 0, none⟩)] ?_; (with_reducible refine (spec_l1Cur_next.calls g s0_0 s0_1 s0_2 t102 t103 t104 w0 _ ?s1 ?s2 A4.out).mono ?_); (case s1 => exact q7be_ HI0.out); (case s2 => exact q687_ HI0.out); rintro e w8 ⟨rfl, hi, hb, hk⟩; refine ⟨_, rfl, ?_⟩; replace HK := Aside0.mk (KeepBut.trans q1d6_ hk (.inl rfl)); replace HB := Aside0.mk (hb); replace HI0 := Aside0.mk (hi); clear hb hk hi) | ((with_reducible refine gate_callee (f := 32) rfl ?_); refine gl_ 15 Try.func32 #[.pointer (some ⟨g, 0, none⟩)] ?_; (with_reducible refine (spec_l1Cur_next.calls g s0_0 t103 t104 t105 t106 t107 w0 _ ?s1 ?s2 A6.out).mono ?_); (case s1 => exact q7be_ HI0.out); (case s2 => exact q687_ HI0.out); rintro e w9 ⟨rfl, hi, hb, hk⟩; refine ⟨_, rfl, ?_⟩; replace HK := Aside0.mk (KeepBut.trans q1d6_ hk (.inl rfl)); replace HB := Aside0.mk (hb); replace HI0 := Aside0.mk (hi); clear hb hk hi))
    go_ret
    exact ⟨qce7_, q7be_ HI0.out, q687_ HI0.out, q1d6_⟩
  ·
   rw [if_neg c5] at H
   have c5b0 := decide_eq_false c5
   clear c5
   by_cases c10 : a1 = 0
   ·
    rw [if_pos c10] at H
    exact absurd H (by simp)
   ·
    rw [if_neg c10] at H
    have c10b0 := beq_eq_false_iff_ne.mpr c10
    have c10b1 := bne_iff_ne.mpr c10
    simp only [Option.some.injEq, Prod.mk.injEq] at H
    obtain ⟨rfl, rfl, rfl⟩ := H
    go_enter Try.func19, Try.ntmps19
    go_wp2_with (first | ((with_reducible refine gate_callee (f := 32) rfl ?_); refine gl_ 9 Try.func32 #[.pointer (some ⟨g, 0, none⟩)] ?_; (with_reducible refine (spec_l1Cur_next.calls g s0_0 s0_1 s0_2 t102 t103 t104 w0 _ ?s1 ?s2 A4.out).mono ?_); (case s1 => exact q7be_ HI0.out); (case s2 => exact q687_ HI0.out); rintro e w11 ⟨rfl, hi, hb, hk⟩; refine ⟨_, rfl, ?_⟩; replace HK := Aside0.mk (KeepBut.trans q1d6_ hk (.inl rfl)); replace HB := Aside0.mk (hb); replace HI0 := Aside0.mk (hi); clear hb hk hi))
    go_ret
    exact ⟨qce7_, q7be_ HI0.out, q687_ HI0.out, q1d6_⟩

/-! ### spec_l1Cur_one: function 33 -/
def spec_l1Cur_one.f (s0_0 : List Int) (s0_1 : Int) (s0_2 : Int) (a1 : Int) : Option (Bool × Int × Int) := (spec_l1Cur_pick.f s0_0 s0_1 s0_2 a1).bind fun bt108 => (some ((bt108.1 == 0), bt108.2.1, bt108.2.2))
theorem spec_l1Cur_one.calls (g : Nat) (s0_0 : List Int) (s0_1 : Int) (s0_2 : Int) (a1 : Int) (r1 : Bool) (r2 : Int) (r3 : Int) (w0 w : World) (hI : IsS44 w0 w g s0_0 s0_1 s0_2) (hB : Below w0.heap.size w0 w) (h : spec_l1Cur_one.f s0_0 s0_1 s0_2 a1 = some (r1, r2, r3)) :
  Calls Try.prog 33 #[.pointer (some ⟨g, 0, none⟩), .int .i64 a1] w fun e w' => e = .returned (.bool r1) ∧ IsS44 w0 w' g s0_0 r2 r3 ∧ Below w0.heap.size w0 w' ∧ KeepBut w w' g none := by
 have HI0 := Aside0.mk hI
 have HK := Aside0.mk (KeepBut.refl w g none)
 have HL := Aside0.mk hB.size
 clear hI
 have HW0 := Aside0.mk hB.size
 have HB := Aside0.mk hB
 clear hB
 unfold spec_l1Cur_one.f at h
 have H := h; clear h
 obtain ⟨⟨t108, t109, t110⟩, A3, H⟩ := ob_ H
 dsimp only at H
 simp only [Option.some.injEq, Prod.mk.injEq] at H
 obtain ⟨rfl, rfl, rfl⟩ := H
 go_enter Try.func33, Try.ntmps33
 go_wp2_with (first | ((with_reducible refine gate_callee (f := 19) rfl ?_); refine gl_ 7 Try.func19 #[.pointer (some ⟨g, 0, none⟩), .int .i64 a1] ?_; (with_reducible refine (spec_l1Cur_pick.calls g s0_0 s0_1 s0_2 a1 t108 t109 t110 w0 _ ?s1 ?s2 A3.out).mono ?_); (case s1 => exact q7be_ HI0.out); (case s2 => exact q687_ HI0.out); rintro e w4 ⟨rfl, hi, hb, hk⟩; refine ⟨_, rfl, ?_⟩; replace HK := Aside0.mk (KeepBut.trans q1d6_ hk (.inl rfl)); replace HB := Aside0.mk (hb); replace HI0 := Aside0.mk (hi); clear hb hk hi))
 go_ret
 exact ⟨qce7_, q7be_ HI0.out, q687_ HI0.out, q1d6_⟩

/-! ### spec_l1Cur_among: function 34 -/
def spec_l1Cur_among.f (s0_0 : List Int) (s0_1 : Int) (s0_2 : Int) (l1 : List Int) : Option (Int × Int × Int) := (spec_l1Cur_pick.f s0_0 s0_1 s0_2 (l1.length : Int)).bind fun bt111 => (if 0 ≤ bt111.1 then (if bt111.1 < (l1.length : Int) then (some (rd l1 bt111.1, bt111.2.1, bt111.2.2)) else (none)) else (none))
theorem spec_l1Cur_among.calls (g : Nat) (s0_0 : List Int) (s0_1 : Int) (s0_2 : Int) (A1 : Option Addr) (c1 : Nat) (l1 : List Int) (r1 : Int) (r2 : Int) (r3 : Int) (w0 w : World) (hI : IsS44 w0 w g s0_0 s0_1 s0_2) (hB : Below w0.heap.size w0 w) (hr1 : Kd.C (Kd.int .i64) w A1 l1.length l1) (hc1 : l1.length ≤ c1) (hf1 : ∀ ad, A1 = some ad → 0 < l1.length → ad.block ≠ g) (h : spec_l1Cur_among.f s0_0 s0_1 s0_2 l1 = some (r1, r2, r3)) :
  Calls Try.prog 34 #[.pointer (some ⟨g, 0, none⟩), .slice A1 l1.length c1] w fun e w' => e = .returned (.int .i64 r1) ∧ IsS44 w0 w' g s0_0 r2 r3 ∧ Below w0.heap.size w0 w' ∧ KeepBut w w' g none := by
 have HR1 := Aside0.mk hr1
 have HC1 := Aside0.mk hc1
 clear hr1 hc1
 have HI0 := Aside0.mk hI
 have HK := Aside0.mk (KeepBut.refl w g none)
 have HL := Aside0.mk hB.size
 clear hI
 have HW0 := Aside0.mk hB.size
 have HB := Aside0.mk hB
 clear hB
 unfold spec_l1Cur_among.f at h
 have H := h; clear h
 obtain ⟨⟨t111, t112, t113⟩, A3, H⟩ := ob_ H
 dsimp only at H
 by_cases c4 : 0 ≤ t111
 ·
  rw [if_pos c4] at H
  have c4b0 := decide_eq_true c4
  clear c4
  by_cases c5 : t111 < (l1.length : Int)
  ·
   rw [if_pos c5] at H
   have c5b0 := decide_eq_true c5
   clear c5
   simp only [Option.some.injEq, Prod.mk.injEq] at H
   obtain ⟨rfl, rfl, rfl⟩ := H
   go_enter Try.func34, Try.ntmps34
   go_wp2_with (first | ((with_reducible refine gate_callee (f := 19) rfl ?_); refine gl_ 9 Try.func19 #[.pointer (some ⟨g, 0, none⟩), .int .i64 (l1.length : Int)] ?_; (with_reducible refine (spec_l1Cur_pick.calls g s0_0 s0_1 s0_2 (l1.length : Int) t111 t112 t113 w0 _ ?s1 ?s2 A3.out).mono ?_); (case s1 => exact q7be_ HI0.out); (case s2 => exact q687_ HI0.out); rintro e w6 ⟨rfl, hi, hb, hk⟩; refine ⟨_, rfl, ?_⟩; replace HK := Aside0.mk (KeepBut.trans q1d6_ hk (.inl rfl)); replace HB := Aside0.mk (hb); replace HI0 := Aside0.mk (hi); clear hb hk hi; have p114 : 0 ≤ (t111 : Int) := of_decide_eq_true qe84_; have q114 : t111 < (l1.length : Int) := of_decide_eq_true qe84_; obtain ⟨ad114, e114, hx114_0⟩ := Kd.at_int HR1.out t111 p114 q114; cases e114; replace hx114_0 := keep_cell HK.out hx114_0 (by first | (rw [add_block]; exact hf1 _ rfl (by omega)) | exact hf1 _ rfl (by omega) | exact hf1 ad114 rfl (by omega)); replace p114 := eq_true p114; replace q114 := eq_true q114))
   go_ret
   exact ⟨qce7_, q7be_ HI0.out, q687_ HI0.out, q1d6_⟩
  ·
   rw [if_neg c5] at H
   exact absurd H (by simp)
 ·
  rw [if_neg c4] at H
  exact absurd H (by simp)

/-! ### spec_l1Cur_point: function 20 -/
mutual
def spec_l1Cur_point.l0 : Nat → Int → List Int → List Int → Int → Int → Option (List Int × Int × Int)
 | 0, _, _, _, _, _ => none
 | k + 1, x1, x5, x1000, x1001, x1002 => if (x5.length : Int) < x1 then ((spec_l1Cur_pick.f x1000 x1001 x1002 330).bind fun bt115 => ((spec_l1Cur_one.f x1000 bt115.2.1 bt115.2.2 5).bind fun bt118 => (if bt118.1 = true then (spec_l1Cur_point.j1 k x1 x5 (wrap64 (bt115.1 - 100)) (decide ((x5.length : Int) > 0)) x1000 bt118.2.1 bt118.2.2) else (spec_l1Cur_point.j1 k x1 x5 (wrap64 (bt115.1 - 100)) false x1000 bt118.2.1 bt118.2.2)))) else ((spec_l1Cur_pick.f x1000 x1001 x1002 14).bind fun bt137 => (if bt137.1 = 0 then ((spec_l1Cur_among.f x1000 bt137.2.1 bt137.2.2 (([(-100001), (-100000), 100000, 100001] : List Int))).bind fun bt143 => (if x5.length < 17592186044416 then (some ((x5 ++ [bt143.1]), bt143.2.1, bt143.2.2)) else (none))) else (if bt137.1 = 1 then (if (x5.length : Int) > 1 then (if 1 < (x5.length : Int) then ((spec_l1Cur_among.f x1000 bt137.2.1 bt137.2.2 (([0, 100, (-100)] : List Int))).bind fun bt153 => (if 0 < (x5.length : Int) then (some ((x5.set (0 : Int).toNat (wrap64 ((rd x5 1) + bt153.1))), bt153.2.1, bt153.2.2)) else (none))) else (none)) else (some (x5, bt137.2.1, bt137.2.2))) else (if bt137.1 = 2 then (spec_l1Cur_point.l1 k ([] : List Int) x1000 bt137.2.1 bt137.2.2) else (some (x5, bt137.2.1, bt137.2.2))))))
def spec_l1Cur_point.j1 : Nat → Int → List Int → Int → Bool → List Int → Int → Int → Option (List Int × Int × Int)
 | 0, _, _, _, _, _, _, _ => none
 | k + 1, x1, x5, x6, x20, x1000, x1001, x1002 => if x20 = true then ((spec_l1Cur_pick.f x1000 x1001 x1002 (x5.length : Int)).bind fun bt121 => (if 0 ≤ bt121.1 then (if bt121.1 < (x5.length : Int) then ((spec_l1Cur_among.f x1000 bt121.2.1 bt121.2.2 (([(-101), (-99), (-1), 1, 99, 101] : List Int))).bind fun bt128 => (if x5.length < 17592186044416 then (spec_l1Cur_point.l0 k x1 (x5 ++ [wrap64 ((rd x5 bt121.1) + bt128.1)]) x1000 bt128.2.1 bt128.2.2) else (none))) else (none)) else (none))) else (if x5.length < 17592186044416 then (spec_l1Cur_point.l0 k x1 (x5 ++ [x6]) x1000 x1001 x1002) else (none))
def spec_l1Cur_point.l1 : Nat → List Int → List Int → Int → Int → Option (List Int × Int × Int)
 | 0, _, _, _, _ => none
 | k + 1, x5, x1000, x1001, x1002 => (spec_l1Cur_pick.f x1000 x1001 x1002 2).bind fun bt157 => (if (x5.length : Int) < (wrap64 (8 + bt157.1)) then (if x5.length < 17592186044416 then (spec_l1Cur_point.l1 k (x5 ++ [wrap64 ((-37) * (x5.length : Int))]) x1000 bt157.2.1 bt157.2.2) else (none)) else (some (x5, bt157.2.1, bt157.2.2)))
end
def spec_l1Cur_point.f (k : Nat) (s0_0 : List Int) (s0_1 : Int) (s0_2 : Int) (a1 : Int) : Option (List Int × Int × Int) := spec_l1Cur_point.l0 k a1 ([] : List Int) s0_0 s0_1 s0_2
theorem spec_l1Cur_point.mono_l : ∀ k, (∀ y0 y1 y2 y3 y4, LeO (spec_l1Cur_point.l0 k y0 y1 y2 y3 y4) (spec_l1Cur_point.l0 (k + 1) y0 y1 y2 y3 y4)) ∧ (∀ y0 y1 y2 y3 y4 y5 y6, LeO (spec_l1Cur_point.j1 k y0 y1 y2 y3 y4 y5 y6) (spec_l1Cur_point.j1 (k + 1) y0 y1 y2 y3 y4 y5 y6)) ∧ (∀ y0 y1 y2 y3, LeO (spec_l1Cur_point.l1 k y0 y1 y2 y3) (spec_l1Cur_point.l1 (k + 1) y0 y1 y2 y3))
 | 0 => ⟨fun _ _ _ _ _ r h => by simp [spec_l1Cur_point.l0] at h, fun _ _ _ _ _ _ _ r h => by simp [spec_l1Cur_point.j1] at h, fun _ _ _ _ r h => by simp [spec_l1Cur_point.l1] at h⟩
 | k + 1 => by
  obtain ⟨ih0, ih1, ih2⟩ := spec_l1Cur_point.mono_l k
  refine ⟨?_, ?_, ?_⟩
  ·
   intro y0 y1 y2 y3 y4
   unfold spec_l1Cur_point.l0
   repeat' (with_reducible first | exact ih0 _ _ _ _ _ | exact ih1 _ _ _ _ _ _ _ | exact ih2 _ _ _ _ | exact LeO.refl _ | exact LeO.none _ | refine LeO.ite ?_ ?_ | refine LeO.bind ?_ (fun _ => ?_))
  ·
   intro y0 y1 y2 y3 y4 y5 y6
   unfold spec_l1Cur_point.j1
   repeat' (with_reducible first | exact ih0 _ _ _ _ _ | exact ih1 _ _ _ _ _ _ _ | exact ih2 _ _ _ _ | exact LeO.refl _ | exact LeO.none _ | refine LeO.ite ?_ ?_ | refine LeO.bind ?_ (fun _ => ?_))
  ·
   intro y0 y1 y2 y3
   unfold spec_l1Cur_point.l1
   repeat' (with_reducible first | exact ih0 _ _ _ _ _ | exact ih1 _ _ _ _ _ _ _ | exact ih2 _ _ _ _ | exact LeO.refl _ | exact LeO.none _ | refine LeO.ite ?_ ?_ | refine LeO.bind ?_ (fun _ => ?_))
theorem spec_l1Cur_point.mono : ∀ a0 a1 a2 a3 k, LeO (spec_l1Cur_point.f k a0 a1 a2 a3) (spec_l1Cur_point.f (k + 1) a0 a1 a2 a3) := by
 intro a0 a1 a2 a3 k
 obtain ⟨ih0, ih1, ih2⟩ := spec_l1Cur_point.mono_l k
 unfold spec_l1Cur_point.f
 repeat' (with_reducible first | exact ih0 _ _ _ _ _ | exact ih1 _ _ _ _ _ _ _ | exact ih2 _ _ _ _ | exact LeO.refl _ | exact LeO.none _ | refine LeO.ite ?_ ?_ | refine LeO.bind ?_ (fun _ => ?_))
def spec_l1Cur_point.T5 : Bool × List (List Nat × List Nat) := (true, [([], []), ([], []), ([], []), ([2], [2]), ([1, 3], [1, 3]), ([0, 4], [0, 4]), ([5], [5]), ([], []), ([], []), ([7, 8, 4], [7, 8]), ([6, 9], [6, 9]), ([10, 9, 0, 1, 2, 3, 4, 5, 6, 7, 8, 9, 10], [10])])
def spec_l1Cur_point.B5 : List Nat := [0, 0, 0, 4, 14, 31, 63, 0, 0, 414, 1023, 2047]
theorem spec_l1Cur_point.tab5 : rtab .any (opsOf Try.f20 5) = spec_l1Cur_point.T5 := by kernel_rfl
theorem spec_l1Cur_point.bits5 : waitsOk spec_l1Cur_point.T5.2 spec_l1Cur_point.B5 = true := by kernel_rfl
def spec_l1Cur_point.T12 : Bool × List (List Nat × List Nat) := (true, [([], []), ([], []), ([1], [1]), ([2], [2]), ([], []), ([], []), ([4, 5], [4, 5]), ([3, 6], [3, 6]), ([0, 0, 1, 2, 3, 4, 5, 6, 7], [0]), ([8, 7, 6, 0, 1, 2, 3, 4, 5, 6, 7], [7, 8])])
def spec_l1Cur_point.B12 : List Nat := [0, 0, 2, 6, 0, 0, 48, 126, 255, 511]
theorem spec_l1Cur_point.tab12 : rtab .any (opsOf Try.f20 12) = spec_l1Cur_point.T12 := by kernel_rfl
theorem spec_l1Cur_point.bits12 : waitsOk spec_l1Cur_point.T12.2 spec_l1Cur_point.B12 = true := by kernel_rfl
theorem spec_l1Cur_point.calls (k : Nat) (g : Nat) (s0_0 : List Int) (s0_1 : Int) (s0_2 : Int) (a1 : Int) (r1 : List Int) (r2 : Int) (r3 : Int) (w0 w : World) (hI : IsS44 w0 w g s0_0 s0_1 s0_2) (hB : Below w0.heap.size w0 w) (h : spec_l1Cur_point.f k s0_0 s0_1 s0_2 a1 = some (r1, r2, r3)) :
  Calls Try.prog 20 #[.pointer (some ⟨g, 0, none⟩), .int .i64 a1] w fun e w' => ∃ v0_ : Value, e = .returned (v0_) ∧ Kd.R (Kd.int .i64) 3 w' w.heap.size (fun _ => True) v0_ r1 ∧ IsS44 w0 w' g s0_0 r2 r3 ∧ Below w0.heap.size w0 w' ∧ KeepBut w w' g none := by
 have HI0 := Aside0.mk hI
 have HK := Aside0.mk (KeepBut.refl w g none)
 have HL := Aside0.mk hB.size
 clear hI
 have HW0 := Aside0.mk hB.size
 have HB := Aside0.mk hB
 clear hB
 unfold spec_l1Cur_point.f at h
 have H := h; clear h
 have H' := Aside0.mk H
 clear H
 go_enter Try.func20, Try.ntmps20
 go_wp2
 go_loopg [5] k (fun kq v5 w' => ∃ (x5_1 : List Int) (x1001_1 : Int) (x1002_1 : Int), Aside0 (spec_l1Cur_point.l0 kq a1 x5_1 s0_0 x1001_1 x1002_1 = some (r1, r2, r3)) ∧ Aside0 (kq ≤ k) ∧ Aside0 (Kd.R (Kd.int .i64) 3 w' w.heap.size (fun _ => True) v5 x5_1) ∧ Aside0 (IsS44 w0 w' g s0_0 x1001_1 x1002_1) ∧ Aside0 (KeepBut w w' g none) ∧ Aside0 (Below w0.heap.size w0 w'))
 case atStart => exact ⟨(([] : List Int)), (s0_1), (s0_2), H', ⟨Nat.le_refl _⟩, ⟨qf62_⟩, ⟨q7be_ HI0.out⟩, ⟨q1d6_⟩, ⟨q687_ HI0.out⟩⟩
 case round =>
  clear H'; try clear c2; try clear p2
  obtain ⟨x5_1, x1001_1, x1002_1, HA, HK1, HO_5, HI0, HK, HB⟩ := hrel
  cases gk with
  | zero => exact absurd HA.out (by simp [spec_l1Cur_point.l0])
  | succ k1 =>
   have H := HA.out
   clear HA
   simp only [spec_l1Cur_point.l0] at H
   by_cases c3 : (x5_1.length : Int) < a1
   ·
    rw [if_pos c3] at H
    have c3b0 := decide_eq_true c3
    clear c3
    obtain ⟨⟨t115, t116, t117⟩, A4, H⟩ := ob_ H
    dsimp only at H
    have HC5 := Aside0.mk H
    clear H
    obtain ⟨Ao6, co6, eo6⟩ := Kd.R_slice HO_5.out
    subst eo6
    go_upto_region 4 with (first | ((with_reducible refine gate_callee (f := 19) rfl ?_); refine gl_ 12 Try.func19 #[.pointer (some ⟨g, 0, none⟩), .int .i64 330] ?_; (with_reducible refine (spec_l1Cur_pick.calls g s0_0 x1001_1 x1002_1 330 t115 t116 t117 w0 _ ?s1 ?s2 A4.out).mono ?_); (case s1 => exact q7be_ HI0.out); (case s2 => exact q687_ HI0.out); rintro e w7 ⟨rfl, hi, hb, hk⟩; refine ⟨_, rfl, ?_⟩; replace HO_5 := Aside0.mk (Kd.R_mono (Kd.R_keep (IsS44.apart (show IsS44 w0 _ g s0_0 x1001_1 x1002_1 from q7be_ HI0.out) (q9d5_ HO_5.out) (by decide)) hk (fun _ h => h.2)) (fun _ h => h.1)); replace HK := Aside0.mk (KeepBut.trans q1d6_ hk (.inl rfl)); replace HB := Aside0.mk (hb); replace HI0 := Aside0.mk (hi); clear hb hk hi))
    (try simp only [Act.put, List.setIfInBounds_toArray, List.set_cons_zero, List.set_cons_succ])
    go_cut [20] (fun v20 wc => ∃ (kq : Nat) (x20_4 : Bool) (x1001_4 : Int) (x1002_4 : Int), v20 = .bool x20_4 ∧ Aside0 (spec_l1Cur_point.j1 kq a1 x5_1 (wrap64 (t115 - 100)) x20_4 s0_0 x1001_4 x1002_4 = some (r1, r2, r3)) ∧ Aside0 (kq ≤ k1) ∧ Aside0 (Kd.R (Kd.int .i64) 3 wc w.heap.size (fun _ => True) (.slice Ao6 x5_1.length co6) x5_1) ∧ Aside0 (IsS44 w0 wc g s0_0 x1001_4 x1002_4) ∧ Aside0 (KeepBut w wc g none) ∧ Aside0 (Below w0.heap.size w0 wc))
    case first =>
     have H := HC5.out
     clear HC5
     obtain ⟨⟨t118, t119, t120⟩, A8, H⟩ := ob_ H
     dsimp only at H
     by_cases c9 : t118 = true
     ·
      subst c9
      rw [if_pos rfl] at H
      have H' := Aside0.mk H
      clear H
      go_wp2_with (first | ((with_reducible refine gate_callee (f := 33) rfl ?_); refine gl_ 15 Try.func33 #[.pointer (some ⟨g, 0, none⟩), .int .i64 5] ?_; (with_reducible refine (spec_l1Cur_one.calls g s0_0 t116 t117 5 true t119 t120 w0 _ ?s1 ?s2 A8.out).mono ?_); (case s1 => exact q7be_ HI0.out); (case s2 => exact q687_ HI0.out); rintro e w10 ⟨rfl, hi, hb, hk⟩; refine ⟨_, rfl, ?_⟩; replace HO_5 := Aside0.mk (Kd.R_mono (Kd.R_keep (IsS44.apart (show IsS44 w0 _ g s0_0 t116 t117 from q7be_ HI0.out) (q9d5_ HO_5.out) (by decide)) hk (fun _ h => h.2)) (fun _ h => h.1)); replace HK := Aside0.mk (KeepBut.trans q1d6_ hk (.inl rfl)); replace HB := Aside0.mk (hb); replace HI0 := Aside0.mk (hi); clear hb hk hi))
      go_meet
      case rel => exact ⟨_, (decide ((x5_1.length : Int) > 0)), (t119), (t120), qc8f_, H', ⟨by have := HK1.out; first | omega | exact Nat.le_refl _⟩, ⟨q9d5_ HO_5.out⟩, ⟨q7be_ HI0.out⟩, ⟨q1d6_⟩, ⟨q687_ HI0.out⟩⟩
     ·
      replace c9 := Bool.eq_false_iff.mpr c9
      subst c9
      rw [if_neg nf_] at H
      have H' := Aside0.mk H
      clear H
      go_wp2_with (first | ((with_reducible refine gate_callee (f := 33) rfl ?_); refine gl_ 15 Try.func33 #[.pointer (some ⟨g, 0, none⟩), .int .i64 5] ?_; (with_reducible refine (spec_l1Cur_one.calls g s0_0 t116 t117 5 false t119 t120 w0 _ ?s1 ?s2 A8.out).mono ?_); (case s1 => exact q7be_ HI0.out); (case s2 => exact q687_ HI0.out); rintro e w11 ⟨rfl, hi, hb, hk⟩; refine ⟨_, rfl, ?_⟩; replace HO_5 := Aside0.mk (Kd.R_mono (Kd.R_keep (IsS44.apart (show IsS44 w0 _ g s0_0 t116 t117 from q7be_ HI0.out) (q9d5_ HO_5.out) (by decide)) hk (fun _ h => h.2)) (fun _ h => h.1)); replace HK := Aside0.mk (KeepBut.trans q1d6_ hk (.inl rfl)); replace HB := Aside0.mk (hb); replace HI0 := Aside0.mk (hi); clear hb hk hi))
      go_meet
      case rel => exact ⟨_, (false), (t119), (t120), qc8f_, H', ⟨by have := HK1.out; first | omega | exact Nat.le_refl _⟩, ⟨q9d5_ HO_5.out⟩, ⟨q7be_ HI0.out⟩, ⟨q1d6_⟩, ⟨q687_ HI0.out⟩⟩
    case rest =>
     clear HC5; try clear c1; try clear c2; try clear p2; try clear c3; try clear c3b0; try clear p6; try clear c9; try clear p2
     obtain ⟨kq, x20_4, x1001_4, x1002_4, rfl, HA, HJ4, HO_5, HI0, HK, HB⟩ := hcut
     cases kq with
     | zero => exact absurd HA.out (by simp [spec_l1Cur_point.j1])
     | succ kj4 =>
      have H := HA.out
      clear HA
      simp only [spec_l1Cur_point.j1] at H
      by_cases c12 : x20_4 = true
      ·
       subst c12
       rw [if_pos rfl] at H
       obtain ⟨⟨t121, t122, t123⟩, A13, H⟩ := ob_ H
       dsimp only at H
       by_cases c14 : 0 ≤ t121
       ·
        rw [if_pos c14] at H
        have c14b0 := decide_eq_true c14
        clear c14
        by_cases c15 : t121 < (x5_1.length : Int)
        ·
         rw [if_pos c15] at H
         have c15b0 := decide_eq_true c15
         clear c15
         obtain ⟨y125, hy125⟩ : ∃ y_ : List Int, y_ = (([(-101), (-99), (-1), 1, 99, 101] : List Int)) := ⟨_, rfl⟩
         replace H : ((spec_l1Cur_among.f s0_0 t122 t123 y125).bind fun bt128 => (if x5_1.length < 17592186044416 then (spec_l1Cur_point.l0 kj4 a1 (x5_1 ++ [wrap64 ((rd x5_1 t121) + bt128.1)]) s0_0 bt128.2.1 bt128.2.2) else (none))) = some (r1, r2, r3) := by first | (rw [hy125]; with_reducible exact H) | (have H2_ := (Option.bind_some _ _).symm.trans H; rw [hy125]; with_reducible exact H2_) | (have H2_ := (Option.bind_some _ _).symm.trans H; with_reducible exact H2_) | with_reducible exact H | (rw [hy125]; exact H) | exact H
         have Ny125 := Aside0.mk hy125
         clear hy125
         obtain ⟨⟨t128, t129, t130⟩, A16, H⟩ := ob_ H
         dsimp only at H
         by_cases c17 : x5_1.length < 17592186044416
         ·
          rw [if_pos c17] at H
          have LMc17 := Aside0.mk c17
          clear c17
          obtain ⟨y131, hy131⟩ : ∃ y_ : List Int, y_ = (x5_1 ++ [wrap64 ((rd x5_1 t121) + t128)]) := ⟨_, rfl⟩
          replace H : (spec_l1Cur_point.l0 kj4 a1 y131 s0_0 t129 t130) = some (r1, r2, r3) := by first | (rw [hy131]; with_reducible exact H) | (have H2_ := (Option.bind_some _ _).symm.trans H; rw [hy131]; with_reducible exact H2_) | (have H2_ := (Option.bind_some _ _).symm.trans H; with_reducible exact H2_) | with_reducible exact H | (rw [hy131]; exact H) | exact H
          have Ny131 := Aside0.mk hy131
          clear hy131
          have H' := Aside0.mk H
          clear H
          try go_wp2
          have n0_ := Aside0.mk (Kd.R_drew HO_5.out)
          have n1_ := Aside0.mk (IsS44.drew HI0.out)
          have n2_ := Aside0.mk (keep_drew HK.out)
          have n3_ := Aside0.mk (below_drew1 HB.out)
          clear HO_5 HI0 HK HB; have HO_5 := n0_; have HI0 := n1_; have HK := n2_; have HB := n3_; clear n0_ n1_ n2_ n3_
          have p124 : 0 ≤ (t121 : Int) := of_decide_eq_true qe84_
          have q124 : t121 < (x5_1.length : Int) := of_decide_eq_true qe84_
          obtain ⟨ad124, e124, hx124_0⟩ := Kd.at_int (Kd.R_reads' HO_5.out).2.2 t121 p124 q124
          cases e124
          replace p124 := eq_true p124
          replace q124 := eq_true q124
          refine start_ (n := 12) (S := fun w' => True) (ds := []) #[false, false, false, false, false, false, false, false, false, false, false, false] (by kernel_rfl) rfl rfl trivial (fun hHeld => ?_); refine with_tabW spec_l1Cur_point.tab5 spec_l1Cur_point.bits5 (fun HT_ HW_ => ?_)
          generalize wc.drew = w18 at HO_5 HI0 HK HB hx124_0 hHeld ⊢
          refine pure_ (i := 0) (N := some 21) (v := ?_) (a' := ?_) #[true, false, false, false, false, false, false, false, false, false, false, false] rfl rfl (any_of HT_.out (by kernel_rfl)) (fun _ _ _ h => h) (Or.inl ⟨by rfl, ?_⟩) ?_ ?_
          rotate_left
          ·
           intro w'
           go_simp
           with_reducible rfl
          rotate_left
          ·
           simp only [Act.put, List.setIfInBounds_toArray, List.set_cons_zero, List.set_cons_succ, i64_w, i32_w]
           rfl
          refine pure_ (i := 1) (N := some 22) (v := ?_) (a' := ?_) #[true, true, false, false, false, false, false, false, false, false, false, false] rfl rfl (any_of HT_.out (by kernel_rfl)) (fun _ _ _ h => h) (Or.inl ⟨by rfl, ?_⟩) ?_ ?_
          rotate_left
          ·
           intro w'
           go_simp
           with_reducible rfl
          rotate_left
          ·
           simp only [Act.put, List.setIfInBounds_toArray, List.set_cons_zero, List.set_cons_succ, i64_w, i32_w]
           rfl
          refine pure_ (i := 2) (N := some 23) (v := ?_) (a' := ?_) #[true, true, true, false, false, false, false, false, false, false, false, false] rfl rfl (any_of HT_.out (by kernel_rfl)) (fun _ _ _ h => h) (Or.inl ⟨by rfl, ?_⟩) ?_ ?_
          rotate_left
          ·
           intro w'
           go_simp
           with_reducible rfl
          rotate_left
          ·
           simp only [Act.put, List.setIfInBounds_toArray, List.set_cons_zero, List.set_cons_succ, i64_w, i32_w]
           rfl
          refine pure_ (i := 7) (N := some 28) (v := ?_) (a' := ?_) #[true, true, true, false, false, false, false, true, false, false, false, false] rfl rfl (any_of HT_.out (by kernel_rfl)) (fun _ _ _ h => h) (Or.inl ⟨by rfl, ?_⟩) ?_ ?_
          rotate_left
          ·
           intro w'
           go_simp
           with_reducible rfl
          rotate_left
          ·
           simp only [Act.put, List.setIfInBounds_toArray, List.set_cons_zero, List.set_cons_succ, i64_w, i32_w]
           rfl
          refine inv_at [3, 4, 5, 6, 8, 9, 10, 11] (fun a0_ b a w' => ∃ (v126 : Value), a = putSel a0_ b [(3, 24, .int .i64 (x5_1.length : Int)), (4, 25, .int .i64 t121), (5, 26, .pointer (some (ad124.add (t121).toNat))), (6, 27, .int .i64 (rd x5_1 t121)), (8, 29, v126), (9, 30, .int .i64 t128), (10, 31, .int .i64 (wrap64 ((rd x5_1 t121) + t128))), (11, 6, .int .i64 (wrap64 ((rd x5_1 t121) + t128)))] ∧ (Kd.R (Kd.int .i64) 3 w' w.heap.size (fun _ => True) (.slice (some ad124) x5_1.length co6) x5_1) ∧ (b 4 = false → IsS44 w0 w' g s0_0 x1001_4 x1002_4) ∧ (KeepBut w w' g none) ∧ (Below w0.heap.size w0 w') ∧ (b 4 = true → b 9 = false → IsS44 w0 w' g s0_0 t122 t123) ∧ (b 8 = true → Kd.R (Kd.int .i64) 3 w' w.heap.size (fun k_ => some k_ ≠ (.slice (some ad124) x5_1.length co6 : Value).ownBlock) v126 y125) ∧ (b 9 = true → IsS44 w0 w' g s0_0 t129 t130)) HT_.out HW_.out (by kernel_rfl) (by kernel_rfl) ?_ ?_ ?_
          · exact ⟨.bool false, by simp only [putSel, Bool.false_eq_true, if_false], HO_5.out, fun _ => HI0.out, HK.out, HB.out, fun h_ => absurd h_ (by decide), fun h_ => absurd h_ (by decide), fun h_ => absurd h_ (by decide)⟩
          ·
           skip
           clear HB HI0 HK HO_5
           refine steps_cons ?_ ?_
           ·
            rintro b a w' ⟨v126, ha, Q_HO_5, Q_HI0, Q_HK, Q_HB, Q_HI0_e4, Q_HO127, Q_HI0_e9⟩ hb_ hon hoff
            refine ⟨_, rfl, fun K hK => ?_⟩
            have e23 : a.tmps[23]? = some (.slice (some ad124) x5_1.length co6) := q32c_
            replace ha := Aside0.mk ha
            have HO_5 := Aside0.mk Q_HO_5
            have HI0 := Aside0.mk (Q_HI0 (hoff 4 (by kernel_rfl)))
            have HK := Aside0.mk Q_HK
            have HB := Aside0.mk Q_HB
            refine value_ (w1 := w') (v := .int .i64 (x5_1.length : Int)) (by rfl) rfl ?_ ?_
            ·
             go_simp
             (try simp only [i64_w])
             try rfl
            refine hK.out _ _ ⟨v126, (by rw [ha.out]; exact putSel_upk 0 hb_ rfl rfl rfl), Q_HO_5, Q_HI0, Q_HK, Q_HB, fun h0_ _ => absurd ((hoff 4 (by kernel_rfl)).symm.trans h0_) (by decide), Q_HO127, fun h0_ => absurd ((hoff 9 (by kernel_rfl)).symm.trans h0_) (by decide)⟩
           refine steps_cons ?_ ?_
           ·
            rintro b a w' ⟨v126, ha, Q_HO_5, Q_HI0, Q_HK, Q_HB, Q_HI0_e4, Q_HO127, Q_HI0_e9⟩ hb_ hon hoff
            refine ⟨_, rfl, fun K hK => ?_⟩
            have e22 : a.tmps[22]? = some (.pointer (some ⟨g, 0, none⟩)) := q32c_
            have e24 : a.tmps[24]? = some (.int .i64 (x5_1.length : Int)) := by rw [ha]; exact putSel_on (e := (3, 24, .int .i64 (x5_1.length : Int))) 0 rfl rfl (hon 3 (by kernel_rfl)) rfl
            replace ha := Aside0.mk ha
            have HO_5 := Aside0.mk Q_HO_5
            have HI0 := Aside0.mk (Q_HI0 hb_)
            have HK := Aside0.mk Q_HK
            have HB := Aside0.mk Q_HB
            refine goes_ Try.func19 (by kernel_rfl) rfl #[.pointer (some ⟨g, 0, none⟩), .int .i64 (x5_1.length : Int)] (by rfl) rfl rfl (by first | (simp only [List.map_toArray, List.map_cons, List.map_nil, Act.eval, Array.getD_eq_getD_getElem?, Option.getD_some, e22, e24]; done) | (simp only [List.map_toArray, List.map_cons, List.map_nil, Act.eval, Array.getD_eq_getD_getElem?, Option.getD_some, e22, e24]; rfl)) ?_
            with_reducible refine (spec_l1Cur_pick.calls g s0_0 x1001_4 x1002_4 (x5_1.length : Int) t121 t122 t123 w0 _ ?s1 ?s2 A13.out).mono ?_
            (case s1 => exact q7be_ HI0.out)
            (case s2 => exact q687_ HI0.out)
            rintro e w19 ⟨rfl, hi, hb, hk⟩
            refine ⟨_, rfl, ?_⟩
            have n0_ := Aside0.mk (Kd.R_mono (Kd.R_keep (IsS44.apart (show IsS44 w0 _ g s0_0 x1001_4 x1002_4 from q7be_ HI0.out) (q9d5_ HO_5.out) (by decide)) hk (fun _ h => h.2)) (fun _ h => h.1))
            have n1_ := Aside0.mk (KeepBut.trans q1d6_ hk (.inl rfl))
            have n2_ := Aside0.mk (hb)
            have n3_ := Aside0.mk (hi)
            have z_HO127 := fun (h0_ : b 8 = true) => (show Kd.R (Kd.int .i64) 3 w19 w.heap.size (fun k_ => some k_ ≠ (.slice (some ad124) x5_1.length co6 : Value).ownBlock) v126 y125 from by first | exact (Kd.R_mono (Kd.R_keep (IsS44.apart (show IsS44 w0 _ g s0_0 x1001_4 x1002_4 from q7be_ HI0.out) (by (with_reducible repeat (first | apply Kd.R_alloc | apply Kd.R_drewN | apply Kd.R_drew)); exact (Q_HO127 h0_)) (by decide)) hk (fun _ h => h.2)) (fun _ h => h.1)) | exact Kd.R_mono (Kd.R_mono (Kd.R_keep (IsS44.apart (show IsS44 w0 _ g s0_0 x1001_4 x1002_4 from q7be_ HI0.out) (by (with_reducible repeat (first | apply Kd.R_alloc | apply Kd.R_drewN | apply Kd.R_drew)); exact (Q_HO127 h0_)) (by decide)) hk (fun _ h => h.2)) (fun _ h => h.1)) (fun _ h_ => by first | trivial | exact h_ | exact h_.1))
            clear HO_5 HK HB HI0; have HO_5 := n0_; have HK := n1_; have HB := n2_; have HI0 := n3_; clear n0_ n1_ n2_ n3_
            (try clear hb)
            (try clear hb2)
            (try clear hk)
            (try clear hi)
            refine hK.out _ _ ⟨v126, (by rw [ha.out]; exact putSel_upk 1 hb_ rfl rfl rfl), (q9d5_ HO_5.out), fun h0_ => absurd ((up_self b 4).symm.trans h0_) (by decide), q1d6_, (q687_ HI0.out), fun _ _ => (q7be_ HI0.out), z_HO127, fun h0_ => absurd ((hoff 9 (by kernel_rfl)).symm.trans h0_) (by decide)⟩
           refine steps_cons ?_ ?_
           ·
            rintro b a w' ⟨v126, ha, Q_HO_5, Q_HI0, Q_HK, Q_HB, Q_HI0_e4, Q_HO127, Q_HI0_e9⟩ hb_ hon hoff
            refine ⟨_, rfl, fun K hK => ?_⟩
            have e21 : a.tmps[21]? = some (.slice (some ad124) x5_1.length co6) := q32c_
            have e25 : a.tmps[25]? = some (.int .i64 t121) := by rw [ha]; exact putSel_on (e := (4, 25, .int .i64 t121)) 1 rfl rfl (hon 4 (by kernel_rfl)) rfl
            replace ha := Aside0.mk ha
            have HO_5 := Aside0.mk Q_HO_5
            have HK := Aside0.mk Q_HK
            have HB := Aside0.mk Q_HB
            refine value_ (w1 := w') (v := .pointer (some (ad124.add (t121).toNat))) (by rfl) rfl ?_ ?_
            ·
             go_simp
             (try simp only [i64_w])
             try rfl
            refine hK.out _ _ ⟨v126, (by rw [ha.out]; exact putSel_upk 2 hb_ rfl rfl rfl), Q_HO_5, fun h0_ => absurd ((hon 4 (by kernel_rfl)).symm.trans h0_) (by decide), Q_HK, Q_HB, Q_HI0_e4, Q_HO127, Q_HI0_e9⟩
           refine steps_cons ?_ ?_
           ·
            rintro b a w' ⟨v126, ha, Q_HO_5, Q_HI0, Q_HK, Q_HB, Q_HI0_e4, Q_HO127, Q_HI0_e9⟩ hb_ hon hoff
            refine ⟨_, rfl, fun K hK => ?_⟩
            have e26 : a.tmps[26]? = some (.pointer (some (ad124.add (t121).toNat))) := by rw [ha]; exact putSel_on (e := (5, 26, .pointer (some (ad124.add (t121).toNat)))) 2 rfl rfl (hon 5 (by kernel_rfl)) rfl
            replace ha := Aside0.mk ha
            have HO_5 := Aside0.mk Q_HO_5
            have HK := Aside0.mk Q_HK
            have HB := Aside0.mk Q_HB
            obtain ⟨ad124_z, e124_z, hx124_0_z⟩ := Kd.at_int (Kd.R_reads' HO_5.out).2.2 t121 (of_eq_true p124) (of_eq_true q124)
            cases e124_z
            have hs0_ : w'.cell? (ad124.add (t121).toNat) = some (.int .i64 (rd x5_1 t121)) := (by first | exact hx124_0_z | (have h_ := hx124_0_z; (try simp only [Int.reduceToNat, Nat.zero_mul, Nat.reduceMul, Nat.reduceEqDiff, Go.Addr.add, ↓reduceIte, Addr.add_zero'] at h_); exact h_))
            refine value_ (w1 := w') (v := .int .i64 (rd x5_1 t121)) (by rfl) rfl ?_ ?_
            ·
             go_simp
             (try simp only [i64_w])
             try rfl
            refine hK.out _ _ ⟨v126, (by rw [ha.out]; exact putSel_upk 3 hb_ rfl rfl rfl), Q_HO_5, fun h0_ => absurd ((hon 4 (by kernel_rfl)).symm.trans h0_) (by decide), Q_HK, Q_HB, Q_HI0_e4, Q_HO127, Q_HI0_e9⟩
           refine steps_cons ?_ ?_
           ·
            rintro b a w' ⟨v126, ha, Q_HO_5, Q_HI0, Q_HK, Q_HB, Q_HI0_e4, Q_HO127, Q_HI0_e9⟩ hb_ hon hoff
            refine ⟨_, rfl, fun K hK => ?_⟩
            replace ha := Aside0.mk ha
            have HO_5 := Aside0.mk Q_HO_5
            have HK := Aside0.mk Q_HK
            have HB := Aside0.mk Q_HB
            refine Kd.R_lit_step (Kd.int .i64) _ 3 ?hg (N := 29) ?hd (xs := ([(-101), (-99), (-1), 1, 99, 101] : List Int)) (inner := [.int .i64 (-101), .int .i64 (-99), .int .i64 (-1), .int .i64 1, .int .i64 99, .int .i64 101]) (ok := fun _ => True) (okp := fun _ => True) ?hr ?hp (fun _ hk => hk) trivial (Below.refl _ _) (Nat.le_refl _) (by simp) ?_; (case hd => rfl); (case hg => rfl); (case hr => exact qfba_); (case hp => exact (Reps.one (show Kd.M (Kd.int .i64) _ _ _ (-101) [.int .i64 (-101)] from rfl) (Reps.one (show Kd.M (Kd.int .i64) _ _ _ (-99) [.int .i64 (-99)] from rfl) (Reps.one (show Kd.M (Kd.int .i64) _ _ _ (-1) [.int .i64 (-1)] from rfl) (Reps.one (show Kd.M (Kd.int .i64) _ _ _ 1 [.int .i64 1] from rfl) (Reps.one (show Kd.M (Kd.int .i64) _ _ _ 99 [.int .i64 99] from rfl) (Reps.one (show Kd.M (Kd.int .i64) _ _ _ 101 [.int .i64 101] from rfl) (Reps.none _ _))))))))
            intro v126 w19 ho20 hb hg_ hnew_
            clear hg_ hnew_
            (first | rw [← Ny125.out] at ho20 | (simp only [Int.reduceToNat] at ho20; rw [← Ny125.out] at ho20))
            have n0_ := Aside0.mk (Kd.R_elder' (q9d5_ HO_5.out) (Kd.R_base ho20) hb)
            have n1_ := Aside0.mk (Kd.R_lower (Kd.R_new' ho20 (Kd.R_lt (q9d5_ HO_5.out))) (keep_size (w := w) (g := g) (row := none) q1d6_))
            have n3_ := Aside0.mk (KeepBut.trans q1d6_ (KeepBut.of_below hb g none) (.inl rfl))
            have n4_ := Aside0.mk (below_step q0c4_ hb)
            have z_HI0 := fun (h0_ : b 4 = false) => (show IsS44 w0 w19 g s0_0 x1001_4 x1002_4 from by first | exact (IsS44.below (by repeat (first | (with_reducible first | exact (Q_HI0 h0_) | apply IsS44.alloc | apply IsS44.drewN | apply IsS44.drew | apply IsS44.set_1 | apply IsS44.set_2) | exact (Q_HI0 h0_))) hb))
            have z_HI0_e4 := fun (h0_ : b 4 = true) (h1_ : b 9 = false) => (show IsS44 w0 w19 g s0_0 t122 t123 from by first | exact (IsS44.below (by repeat (first | (with_reducible first | exact (Q_HI0_e4 h0_ h1_) | apply IsS44.alloc | apply IsS44.drewN | apply IsS44.drew | apply IsS44.set_1 | apply IsS44.set_2) | exact (Q_HI0_e4 h0_ h1_))) hb))
            clear HO_5 HK HB; have HO_5 := n0_; have HO127 := n1_; have HK := n3_; have HB := n4_; clear n0_ n1_ n3_ n4_ hb ho20
            refine hK.out _ _ ⟨v126, (by rw [ha.out]; exact putSel_upk 4 hb_ rfl rfl rfl), (by (with_reducible repeat (first | apply Kd.R_alloc | apply Kd.R_drewN | apply Kd.R_drew)); exact Kd.R_mono HO_5.out (fun _ hk => by first | exact hk.2 | trivial)), z_HI0, q1d6_, q0c4_, z_HI0_e4, fun _ => (by (with_reducible repeat (first | apply Kd.R_alloc | apply Kd.R_drewN | apply Kd.R_drew)); exact Kd.R_mono HO127.out (fun _ hk => by first | exact hk.2 | trivial)), fun h0_ => absurd ((hoff 9 (by kernel_rfl)).symm.trans h0_) (by decide)⟩
           refine steps_cons ?_ ?_
           ·
            rintro b a w' ⟨v126, ha, Q_HO_5, Q_HI0, Q_HK, Q_HB, Q_HI0_e4, Q_HO127, Q_HI0_e9⟩ hb_ hon hoff
            refine ⟨_, rfl, fun K hK => ?_⟩
            have e28 : a.tmps[28]? = some (.pointer (some ⟨g, 0, none⟩)) := q32c_
            have e29 : a.tmps[29]? = some (v126) := by rw [ha]; exact putSel_on (e := (8, 29, v126)) 4 rfl rfl (hon 8 (by kernel_rfl)) rfl
            replace ha := Aside0.mk ha
            have HO_5 := Aside0.mk Q_HO_5
            have HK := Aside0.mk Q_HK
            have HB := Aside0.mk Q_HB
            have HI0 := Aside0.mk (Q_HI0_e4 (hon 4 (by kernel_rfl)) hb_)
            have HO127 := Aside0.mk (Q_HO127 (hon 8 (by kernel_rfl)))
            obtain ⟨Ao23, co23, eo23⟩ := Kd.R_slice HO127.out
            (first | subst eo23 | (injection eo23 with f1_ f2_ f3_; have f4_ := f1_.symm; have f5_ := f3_.symm; clear f1_ f2_ f3_; subst f4_; subst f5_))
            refine goes_ Try.func34 (by kernel_rfl) rfl #[.pointer (some ⟨g, 0, none⟩), .slice Ao23 y125.length co23] (by rfl) rfl rfl (by first | (simp only [List.map_toArray, List.map_cons, List.map_nil, Act.eval, Array.getD_eq_getD_getElem?, Option.getD_some, e28, e29]; done) | (simp only [List.map_toArray, List.map_cons, List.map_nil, Act.eval, Array.getD_eq_getD_getElem?, Option.getD_some, e28, e29]; rfl)) ?_
            with_reducible refine (spec_l1Cur_among.calls g s0_0 t122 t123 _ _ y125 t128 t129 t130 w0 _ ?s1 ?s2 ?s3 ?s4 ?s5 A16.out).mono ?_
            (case s1 => exact q7be_ HI0.out)
            (case s2 => exact q687_ HI0.out)
            (case s3 => exact q5a8_ HO127.out)
            (case s4 => exact (Kd.R_reads' HO127.out).2.1)
            (case s5 => exact far_slice (IsS44.own_ne HI0.out HO127.out (by decide)))
            rintro e w24 ⟨rfl, hi, hb, hk⟩
            refine ⟨_, rfl, ?_⟩
            have n0_ := Aside0.mk (Kd.R_mono (Kd.R_keep (IsS44.apart (show IsS44 w0 _ g s0_0 t122 t123 from q7be_ HI0.out) (q9d5_ HO_5.out) (by decide)) hk (fun _ h => h.2)) (fun _ h => h.1))
            have n1_ := Aside0.mk (Kd.R_mono (Kd.R_keep (IsS44.apart (show IsS44 w0 _ g s0_0 t122 t123 from q7be_ HI0.out) (q9d5_ HO127.out) (by decide)) hk (fun _ h => h.2)) (fun _ h => h.1))
            have n2_ := Aside0.mk (KeepBut.trans q1d6_ hk (.inl rfl))
            have n3_ := Aside0.mk (hb)
            have n4_ := Aside0.mk (hi)
            clear HO_5 HO127 HK HB HI0; have HO_5 := n0_; have HO127 := n1_; have HK := n2_; have HB := n3_; have HI0 := n4_; clear n0_ n1_ n2_ n3_ n4_
            (try clear hb)
            (try clear hb2)
            (try clear hk)
            (try clear hi)
            refine hK.out _ _ ⟨.slice Ao23 y125.length co23, (by rw [ha.out]; exact putSel_upk 5 hb_ rfl rfl rfl), (q9d5_ HO_5.out), fun h0_ => absurd ((hon 4 (by kernel_rfl)).symm.trans h0_) (by decide), q1d6_, (q687_ HI0.out), fun _ h1_ => absurd ((up_self b 9).symm.trans h1_) (by decide), fun _ => (q9d5_ HO127.out), fun _ => (q7be_ HI0.out)⟩
           refine steps_cons ?_ ?_
           ·
            rintro b a w' ⟨v126, ha, Q_HO_5, Q_HI0, Q_HK, Q_HB, Q_HI0_e4, Q_HO127, Q_HI0_e9⟩ hb_ hon hoff
            refine ⟨_, rfl, fun K hK => ?_⟩
            have e27 : a.tmps[27]? = some (.int .i64 (rd x5_1 t121)) := by rw [ha]; exact putSel_on (e := (6, 27, .int .i64 (rd x5_1 t121))) 3 rfl rfl (hon 6 (by kernel_rfl)) rfl
            have e30 : a.tmps[30]? = some (.int .i64 t128) := by rw [ha]; exact putSel_on (e := (9, 30, .int .i64 t128)) 5 rfl rfl (hon 9 (by kernel_rfl)) rfl
            replace ha := Aside0.mk ha
            have HO_5 := Aside0.mk Q_HO_5
            have HK := Aside0.mk Q_HK
            have HB := Aside0.mk Q_HB
            have HO127 := Aside0.mk (Q_HO127 (hon 8 (by kernel_rfl)))
            have HI0 := Aside0.mk (Q_HI0_e9 (hon 9 (by kernel_rfl)))
            refine value_ (w1 := w') (v := .int .i64 (wrap64 ((rd x5_1 t121) + t128))) (by rfl) rfl ?_ ?_
            ·
             go_simp
             (try simp only [i64_w])
             try rfl
            refine hK.out _ _ ⟨v126, (by rw [ha.out]; exact putSel_upk 6 hb_ rfl rfl rfl), Q_HO_5, fun h0_ => absurd ((hon 4 (by kernel_rfl)).symm.trans h0_) (by decide), Q_HK, Q_HB, fun _ h1_ => absurd ((hon 9 (by kernel_rfl)).symm.trans h1_) (by decide), Q_HO127, Q_HI0_e9⟩
           refine steps_cons ?_ ?_
           ·
            rintro b a w' ⟨v126, ha, Q_HO_5, Q_HI0, Q_HK, Q_HB, Q_HI0_e4, Q_HO127, Q_HI0_e9⟩ hb_ hon hoff
            refine ⟨_, rfl, fun K hK => ?_⟩
            have e31 : a.tmps[31]? = some (.int .i64 (wrap64 ((rd x5_1 t121) + t128))) := by rw [ha]; exact putSel_on (e := (10, 31, .int .i64 (wrap64 ((rd x5_1 t121) + t128)))) 6 rfl rfl (hon 10 (by kernel_rfl)) rfl
            replace ha := Aside0.mk ha
            have HO_5 := Aside0.mk Q_HO_5
            have HK := Aside0.mk Q_HK
            have HB := Aside0.mk Q_HB
            have HO127 := Aside0.mk (Q_HO127 (hon 8 (by kernel_rfl)))
            have HI0 := Aside0.mk (Q_HI0_e9 (hon 9 (by kernel_rfl)))
            refine value_ (w1 := w') (v := .int .i64 (wrap64 ((rd x5_1 t121) + t128))) (by rfl) rfl ?_ ?_
            ·
             go_simp
             (try simp only [i64_w])
             try rfl
            refine hK.out _ _ ⟨v126, (by rw [ha.out]; exact putSel_upk 7 hb_ rfl rfl rfl), Q_HO_5, fun h0_ => absurd ((hon 4 (by kernel_rfl)).symm.trans h0_) (by decide), Q_HK, Q_HB, fun _ h1_ => absurd ((hon 9 (by kernel_rfl)).symm.trans h1_) (by decide), Q_HO127, Q_HI0_e9⟩
           exact steps_nil
          rintro b a w24 hall ⟨v126, ha, Q_HO_5, Q_HI0, Q_HK, Q_HB, Q_HI0_e4, Q_HO127, Q_HI0_e9⟩
          clear HB HI0 HK HO_5
          have hb3_ := hall 3 (by kernel_rfl)
          have hb4_ := hall 4 (by kernel_rfl)
          have hb5_ := hall 5 (by kernel_rfl)
          have hb6_ := hall 6 (by kernel_rfl)
          have hb8_ := hall 8 (by kernel_rfl)
          have hb9_ := hall 9 (by kernel_rfl)
          have hb10_ := hall 10 (by kernel_rfl)
          have hb11_ := hall 11 (by kernel_rfl)
          subst ha
          simp only [putSel, hb3_, hb4_, hb5_, hb6_, hb8_, hb9_, hb10_, hb11_, if_true, Act.put, List.setIfInBounds_toArray, List.set_cons_zero, List.set_cons_succ]
          have HO_5 := Aside0.mk Q_HO_5
          clear Q_HO_5 Q_HI0
          have HK := Aside0.mk Q_HK
          clear Q_HK
          have HB := Aside0.mk Q_HB
          clear Q_HB Q_HI0_e4
          have HO127 := Aside0.mk (Q_HO127 hb8_)
          clear Q_HO127
          have HI0 := Aside0.mk (Q_HI0_e9 hb9_)
          clear Q_HI0_e9 hall hb3_ hb4_ hb5_ hb6_ hb8_ hb9_ hb10_ hb11_
          try go_wp2_with (first | ((with_reducible refine gate_builtin (b := .append) (xs := #[.tmp 32, .tmp 34]) rfl ?_); (try (refine gate_guard (by rfl) ?_; dsimp only)); at_builtin; refine Kd.R_append (Kd.int .i64) w.heap.size rfl (.tmp 32) (.tmp 34) 24 3 (.int .i64 0) 8 rfl Try.underlying24 info3 rfl (by decide) (by omega) (.slice (some ad124) x5_1.length co6) x5_1 (wrap64 ((rd x5_1 t121) + t128)) [.int .i64 (wrap64 ((rd x5_1 t121) + t128))] (fun _ => True) (fun _ => False) rfl rfl ?aP (fun _ hk => hk.elim) ?aF ?aO (Below.refl _ _) ?aS ?aL ?_; (case aP => exact rfl); (case aF => exact (fun _ _ => trivial)); (case aO => exact (q9d5_ HO_5.out)); (case aS => exact (keep_size (w := w) (g := g) (row := none) q1d6_)); (case aL => have := LMc17.out; omega); intro v132 w25 ho hb hg hat; rw [← Ny131.out] at ho; have n0_ := Aside0.mk (IsS44.grown (q7be_ HI0.out) hg (IsS44.own_ne HI0.out HO_5.out (by decide))); have n1_ := Aside0.mk (Kd.R_after (ok := (fun _ => True)) (q0ef_ HO127.out) hg hat); have n2_ := Aside0.mk (below_weaken (q687_ HI0.out) HL.out hb); have n3_ := Aside0.mk (KeepBut.trans q1d6_ (KeepBut.of_grown hg g) (Kd.R_base2 HO_5.out)); have n4_ := Aside0.mk (ho); replace HI0 := n0_; replace HO127 := n1_; replace HB := n2_; replace HK := n3_; have HO133 := n4_; clear n0_ n1_ n2_ n3_ n4_; clear ho hb hg hat))
          go_roundg kj4
          case measure => have := HK1.out; have := HJ4.out; omega
          case rel => exact ⟨(y131), (t129), (t130), H', ⟨q37b_ HK1.out HJ4.out⟩, ⟨q7d9_ HO133.out⟩, ⟨q7be_ HI0.out⟩, ⟨q1d6_⟩, ⟨q687_ HI0.out⟩⟩
         ·
          rw [if_neg c17] at H
          exact absurd H (by simp)
        ·
         rw [if_neg c15] at H
         exact absurd H (by simp)
       ·
        rw [if_neg c14] at H
        exact absurd H (by simp)
      ·
       replace c12 := Bool.eq_false_iff.mpr c12
       subst c12
       rw [if_neg nf_] at H
       by_cases c26 : x5_1.length < 17592186044416
       ·
        rw [if_pos c26] at H
        have LMc26 := Aside0.mk c26
        clear c26
        obtain ⟨y134, hy134⟩ : ∃ y_ : List Int, y_ = (x5_1 ++ [(wrap64 (t115 - 100))]) := ⟨_, rfl⟩
        replace H : (spec_l1Cur_point.l0 kj4 a1 y134 s0_0 x1001_4 x1002_4) = some (r1, r2, r3) := by first | (rw [hy134]; with_reducible exact H) | (have H2_ := (Option.bind_some _ _).symm.trans H; rw [hy134]; with_reducible exact H2_) | (have H2_ := (Option.bind_some _ _).symm.trans H; with_reducible exact H2_) | with_reducible exact H | (rw [hy134]; exact H) | exact H
        have Ny134 := Aside0.mk hy134
        clear hy134
        have H' := Aside0.mk H
        clear H
        go_wp2_with (first | ((with_reducible refine gate_builtin (b := .append) (xs := #[.tmp 32, .tmp 34]) rfl ?_); (try (refine gate_guard (by rfl) ?_; dsimp only)); at_builtin; refine Kd.R_append (Kd.int .i64) w.heap.size rfl (.tmp 32) (.tmp 34) 24 3 (.int .i64 0) 8 rfl Try.underlying24 info3 rfl (by decide) (by omega) (.slice Ao6 x5_1.length co6) x5_1 (wrap64 (t115 - 100)) [.int .i64 (wrap64 (t115 - 100))] (fun _ => True) (fun _ => False) rfl rfl ?aP (fun _ hk => hk.elim) ?aF ?aO (Below.refl _ _) ?aS ?aL ?_; (case aP => exact rfl); (case aF => exact (fun _ _ => trivial)); (case aO => exact (q9d5_ HO_5.out)); (case aS => exact (keep_size (w := w) (g := g) (row := none) q1d6_)); (case aL => have := LMc26.out; omega); intro v135 w27 ho hb hg hat; rw [← Ny134.out] at ho; have n0_ := Aside0.mk (IsS44.grown (q7be_ HI0.out) hg (IsS44.own_ne HI0.out HO_5.out (by decide))); have n1_ := Aside0.mk (below_weaken (q687_ HI0.out) HL.out hb); have n2_ := Aside0.mk (KeepBut.trans q1d6_ (KeepBut.of_grown hg g) (Kd.R_base2 HO_5.out)); have n3_ := Aside0.mk (ho); replace HI0 := n0_; replace HB := n1_; replace HK := n2_; have HO136 := n3_; clear n0_ n1_ n2_ n3_; clear ho hb hg hat))
        go_roundg kj4
        case measure => have := HK1.out; have := HJ4.out; omega
        case rel => exact ⟨(y134), (x1001_4), (x1002_4), H', ⟨q37b_ HK1.out HJ4.out⟩, ⟨q9d5_ HO136.out⟩, ⟨q7be_ HI0.out⟩, ⟨q1d6_⟩, ⟨q687_ HI0.out⟩⟩
       ·
        rw [if_neg c26] at H
        exact absurd H (by simp)
   ·
    rw [if_neg c3] at H
    have c3b0 := decide_eq_false c3
    clear c3
    obtain ⟨⟨t137, t138, t139⟩, A28, H⟩ := ob_ H
    dsimp only at H
    by_cases c29 : t137 = 0
    ·
     rw [if_pos c29] at H
     have c29b0 := beq_iff_eq.mpr c29
     have c29b1 := bne_eq_false_iff_eq.mpr c29
     clear c29
     obtain ⟨y140, hy140⟩ : ∃ y_ : List Int, y_ = (([(-100001), (-100000), 100000, 100001] : List Int)) := ⟨_, rfl⟩
     replace H : ((spec_l1Cur_among.f s0_0 t138 t139 y140).bind fun bt143 => (if x5_1.length < 17592186044416 then (some ((x5_1 ++ [bt143.1]), bt143.2.1, bt143.2.2)) else (none))) = some (r1, r2, r3) := by first | (rw [hy140]; with_reducible exact H) | (have H2_ := (Option.bind_some _ _).symm.trans H; rw [hy140]; with_reducible exact H2_) | (have H2_ := (Option.bind_some _ _).symm.trans H; with_reducible exact H2_) | with_reducible exact H | (rw [hy140]; exact H) | exact H
     have Ny140 := Aside0.mk hy140
     clear hy140
     obtain ⟨⟨t143, t144, t145⟩, A30, H⟩ := ob_ H
     dsimp only at H
     by_cases c31 : x5_1.length < 17592186044416
     ·
      rw [if_pos c31] at H
      have LMc31 := Aside0.mk c31
      clear c31
      obtain ⟨y146, hy146⟩ : ∃ y_ : List Int, y_ = (x5_1 ++ [t143]) := ⟨_, rfl⟩
      replace H : (some (y146, t144, t145)) = some (r1, r2, r3) := by first | (rw [hy146]; with_reducible exact H) | (have H2_ := (Option.bind_some _ _).symm.trans H; rw [hy146]; with_reducible exact H2_) | (have H2_ := (Option.bind_some _ _).symm.trans H; with_reducible exact H2_) | with_reducible exact H | (rw [hy146]; exact H) | exact H
      have Ny146 := Aside0.mk hy146
      clear hy146
      simp only [Option.some.injEq, Prod.mk.injEq] at H
      obtain ⟨rfl, rfl, rfl⟩ := H
      obtain ⟨Ao32, co32, eo32⟩ := Kd.R_slice HO_5.out
      subst eo32
      go_wp2_with (first | ((with_reducible refine gate_callee (f := 19) rfl ?_); refine gl_ 37 Try.func19 #[.pointer (some ⟨g, 0, none⟩), .int .i64 14] ?_; (with_reducible refine (spec_l1Cur_pick.calls g s0_0 x1001_1 x1002_1 14 t137 t138 t139 w0 _ ?s1 ?s2 A28.out).mono ?_); (case s1 => exact q7be_ HI0.out); (case s2 => exact q687_ HI0.out); rintro e w33 ⟨rfl, hi, hb, hk⟩; refine ⟨_, rfl, ?_⟩; replace HO_5 := Aside0.mk (Kd.R_mono (Kd.R_keep (IsS44.apart (show IsS44 w0 _ g s0_0 x1001_1 x1002_1 from q7be_ HI0.out) (q9d5_ HO_5.out) (by decide)) hk (fun _ h => h.2)) (fun _ h => h.1)); replace HK := Aside0.mk (KeepBut.trans q1d6_ hk (.inl rfl)); replace HB := Aside0.mk (hb); replace HI0 := Aside0.mk (hi); clear hb hk hi) | ((with_reducible refine gate_dst (N := 42) rfl ?_); (try (refine gate_guard (by rfl) ?_; dsimp only)); refine Kd.R_lit (Kd.int .i64) _ 3 ?hg (N := 42) ?hd (xs := ([(-100001), (-100000), 100000, 100001] : List Int)) (inner := [.int .i64 (-100001), .int .i64 (-100000), .int .i64 100000, .int .i64 100001]) (ok := fun _ => True) (okp := fun _ => True) ?hr ?hp (fun _ hk => hk) trivial (Below.refl _ _) (Nat.le_refl _) (by simp) ?_; (case hd => rfl); (case hg => rfl); (case hr => exact qfba_); (case hp => exact (Reps.one (show Kd.M (Kd.int .i64) _ _ _ (-100001) [.int .i64 (-100001)] from rfl) (Reps.one (show Kd.M (Kd.int .i64) _ _ _ (-100000) [.int .i64 (-100000)] from rfl) (Reps.one (show Kd.M (Kd.int .i64) _ _ _ 100000 [.int .i64 100000] from rfl) (Reps.one (show Kd.M (Kd.int .i64) _ _ _ 100001 [.int .i64 100001] from rfl) (Reps.none _ _)))))); intro v141 w34 ho35 hb hg_ hnew_; clear hg_ hnew_; (first | rw [← Ny140.out] at ho35 | (simp only [Int.reduceToNat] at ho35; rw [← Ny140.out] at ho35)); have n0_ := Aside0.mk (Kd.R_elder' (q9d5_ HO_5.out) (Kd.R_base ho35) hb); have n1_ := Aside0.mk (Kd.R_lower (Kd.R_new' ho35 (Kd.R_lt (q9d5_ HO_5.out))) (keep_size (w := w) (g := g) (row := none) q1d6_)); have n2_ := Aside0.mk (IsS44.below (q7be_ HI0.out) hb); have n3_ := Aside0.mk (KeepBut.trans q1d6_ (KeepBut.of_below hb g none) (.inl rfl)); have n4_ := Aside0.mk (below_step (q687_ HI0.out) hb); replace HO_5 := n0_; have HO142 := n1_; replace HI0 := n2_; replace HK := n3_; replace HB := n4_; clear n0_ n1_ n2_ n3_ n4_; clear hb ho35; obtain ⟨Ao36, co36, eo36⟩ := Kd.R_slice HO142.out; subst eo36) | ((with_reducible refine gate_callee (f := 34) rfl ?_); refine gl_ 43 Try.func34 #[.pointer (some ⟨g, 0, none⟩), .slice Ao36 y140.length co36] ?_; (with_reducible refine (spec_l1Cur_among.calls g s0_0 t138 t139 _ _ y140 t143 t144 t145 w0 _ ?s1 ?s2 ?s3 ?s4 ?s5 A30.out).mono ?_); (case s1 => exact q7be_ HI0.out); (case s2 => exact q687_ HI0.out); (case s3 => exact q5a8_ HO142.out); (case s4 => exact (Kd.R_reads' HO142.out).2.1); (case s5 => exact far_slice (IsS44.own_ne HI0.out HO142.out (by decide))); rintro e w37 ⟨rfl, hi, hb, hk⟩; refine ⟨_, rfl, ?_⟩; replace HO_5 := Aside0.mk (Kd.R_mono (Kd.R_keep (IsS44.apart (show IsS44 w0 _ g s0_0 t138 t139 from q7be_ HI0.out) (q9d5_ HO_5.out) (by decide)) hk (fun _ h => h.2)) (fun _ h => h.1)); replace HO142 := Aside0.mk (Kd.R_mono (Kd.R_keep (IsS44.apart (show IsS44 w0 _ g s0_0 t138 t139 from q7be_ HI0.out) (q9d5_ HO142.out) (by decide)) hk (fun _ h => h.2)) (fun _ h => h.1)); replace HK := Aside0.mk (KeepBut.trans q1d6_ hk (.inl rfl)); replace HB := Aside0.mk (hb); replace HI0 := Aside0.mk (hi); clear hb hk hi) | ((with_reducible refine gate_builtin (b := .append) (xs := #[.tmp 40, .tmp 44]) rfl ?_); (try (refine gate_guard (by rfl) ?_; dsimp only)); at_builtin; refine Kd.R_append (Kd.int .i64) w.heap.size rfl (.tmp 40) (.tmp 44) 24 3 (.int .i64 0) 8 rfl Try.underlying24 info3 rfl (by decide) (by omega) (.slice Ao32 x5_1.length co32) x5_1 t143 [.int .i64 t143] (fun k_ => some k_ ≠ (.slice Ao36 y140.length co36 : Value).ownBlock) (fun _ => False) rfl rfl ?aP (fun _ hk => hk.elim) ?aF ?aO (Below.refl _ _) ?aS ?aL ?_; (case aP => exact rfl); (case aF => exact (fun k_ hk => Kd.fresh' (Kd.R_lt (q9d5_ HO142.out)) k_ hk)); (case aO => exact (by (with_reducible repeat (first | apply Kd.R_alloc | apply Kd.R_drewN | apply Kd.R_drew)); exact Kd.R_mono HO_5.out (fun _ hk => by first | exact hk.2 | trivial))); (case aS => exact (keep_size (w := w) (g := g) (row := none) q1d6_)); (case aL => have := LMc31.out; omega); intro v147 w38 ho hb hg hat; rw [← Ny146.out] at ho; have n0_ := Aside0.mk (IsS44.grown (q7be_ HI0.out) hg (IsS44.own_ne HI0.out HO_5.out (by decide))); have n1_ := Aside0.mk (Kd.R_after (ok := (fun _ => True)) (q9d5_ HO142.out) hg hat); have n2_ := Aside0.mk (below_weaken (q687_ HI0.out) HL.out hb); have n3_ := Aside0.mk (KeepBut.trans q1d6_ (KeepBut.of_grown hg g) (Kd.R_base2 HO_5.out)); have n4_ := Aside0.mk (ho); replace HI0 := n0_; replace HO142 := n1_; replace HB := n2_; replace HK := n3_; have HO148 := n4_; clear n0_ n1_ n2_ n3_ n4_; clear ho hb hg hat))
      go_ret
      exact ⟨_, qce7_, q7d9_ HO148.out, q7be_ HI0.out, q687_ HI0.out, q1d6_⟩
     ·
      rw [if_neg c31] at H
      exact absurd H (by simp)
    ·
     rw [if_neg c29] at H
     have c29b0 := beq_eq_false_iff_ne.mpr c29
     have c29b1 := bne_iff_ne.mpr c29
     by_cases c39 : t137 = 1
     ·
      rw [if_pos c39] at H
      have c39b0 := beq_iff_eq.mpr c39
      have c39b1 := bne_eq_false_iff_eq.mpr c39
      clear c39
      by_cases c40 : (x5_1.length : Int) > 1
      ·
       rw [if_pos c40] at H
       have c40b0 := decide_eq_true c40
       have c40b1 : decide (1 < x5_1.length) = true := decide_eq_true (by omega)
       clear c40
       by_cases c41 : 1 < (x5_1.length : Int)
       ·
        rw [if_pos c41] at H
        have c41b0 := decide_eq_true c41
        have c41b1 : decide (1 < x5_1.length) = true := decide_eq_true (by omega)
        clear c41
        obtain ⟨y150, hy150⟩ : ∃ y_ : List Int, y_ = (([0, 100, (-100)] : List Int)) := ⟨_, rfl⟩
        replace H : ((spec_l1Cur_among.f s0_0 t138 t139 y150).bind fun bt153 => (if 0 < (x5_1.length : Int) then (some ((x5_1.set (0 : Int).toNat (wrap64 ((rd x5_1 1) + bt153.1))), bt153.2.1, bt153.2.2)) else (none))) = some (r1, r2, r3) := by first | (rw [hy150]; with_reducible exact H) | (have H2_ := (Option.bind_some _ _).symm.trans H; rw [hy150]; with_reducible exact H2_) | (have H2_ := (Option.bind_some _ _).symm.trans H; with_reducible exact H2_) | with_reducible exact H | (rw [hy150]; exact H) | exact H
        have Ny150 := Aside0.mk hy150
        clear hy150
        obtain ⟨⟨t153, t154, t155⟩, A42, H⟩ := ob_ H
        dsimp only at H
        by_cases c43 : 0 < (x5_1.length : Int)
        ·
         rw [if_pos c43] at H
         have c43b0 := decide_eq_true c43
         have c43b1 : decide (0 < x5_1.length) = true := decide_eq_true (by omega)
         clear c43
         obtain ⟨y156, hy156⟩ : ∃ y_ : List Int, y_ = (x5_1.set (0 : Int).toNat (wrap64 ((rd x5_1 1) + t153))) := ⟨_, rfl⟩
         replace H : (some (y156, t154, t155)) = some (r1, r2, r3) := by first | (rw [hy156]; with_reducible exact H) | (have H2_ := (Option.bind_some _ _).symm.trans H; rw [hy156]; with_reducible exact H2_) | (have H2_ := (Option.bind_some _ _).symm.trans H; with_reducible exact H2_) | with_reducible exact H | (rw [hy156]; exact H) | exact H
         have Ny156 := Aside0.mk hy156
         clear hy156
         simp only [Option.some.injEq, Prod.mk.injEq] at H
         obtain ⟨rfl, rfl, rfl⟩ := H
         obtain ⟨Ao45, co45, eo45⟩ := Kd.R_slice HO_5.out
         subst eo45
         try go_wp2_with (first | ((with_reducible refine gate_callee (f := 19) rfl ?_); refine gl_ 37 Try.func19 #[.pointer (some ⟨g, 0, none⟩), .int .i64 14] ?_; (with_reducible refine (spec_l1Cur_pick.calls g s0_0 x1001_1 x1002_1 14 t137 t138 t139 w0 _ ?s1 ?s2 A28.out).mono ?_); (case s1 => exact q7be_ HI0.out); (case s2 => exact q687_ HI0.out); rintro e w46 ⟨rfl, hi, hb, hk⟩; refine ⟨_, rfl, ?_⟩; replace HO_5 := Aside0.mk (Kd.R_mono (Kd.R_keep (IsS44.apart (show IsS44 w0 _ g s0_0 x1001_1 x1002_1 from q7be_ HI0.out) (q9d5_ HO_5.out) (by decide)) hk (fun _ h => h.2)) (fun _ h => h.1)); replace HK := Aside0.mk (KeepBut.trans q1d6_ hk (.inl rfl)); replace HB := Aside0.mk (hb); replace HI0 := Aside0.mk (hi); clear hb hk hi))
         have n0_ := Aside0.mk (Kd.R_drew HO_5.out)
         have n1_ := Aside0.mk (IsS44.drew HI0.out)
         have n2_ := Aside0.mk (keep_drew HK.out)
         have n3_ := Aside0.mk (below_drew1 HB.out)
         clear HO_5 HI0 HK HB; have HO_5 := n0_; have HI0 := n1_; have HK := n2_; have HB := n3_; clear n0_ n1_ n2_ n3_
         have p149 : 0 ≤ (1 : Int) := (by omega)
         have q149 : 1 < (x5_1.length : Int) := of_decide_eq_true qe84_
         obtain ⟨ad149, e149, hx149_0⟩ := Kd.at_int (Kd.R_reads' HO_5.out).2.2 1 p149 q149
         cases e149
         (try simp only [show (1 : Int).toNat = 1 from rfl, Nat.reduceMul, Nat.reduceEqDiff, Go.Addr.add, ↓reduceIte] at hx149_0)
         have qi149 : (1 < x5_1.length) = True := eq_true (by omega)
         (try rw [show ((1 : Int)).toNat = 1 from rfl] at hx149_0)
         replace p149 := eq_true p149
         replace q149 := eq_true q149
         refine start_ (n := 10) (S := fun w' => w'.cell? ⟨ad149.block, ad149.off + 1, none⟩ = some (.int .i64 (rd x5_1 1))) (ds := [9]) #[false, false, false, false, false, false, false, false, false, false] (by kernel_rfl) rfl rfl (hx149_0) (fun hHeld => ?_); refine with_tabW spec_l1Cur_point.tab12 spec_l1Cur_point.bits12 (fun HT_ HW_ => ?_)
         generalize w46.drew = w47 at HO_5 HI0 HK HB hx149_0 hHeld ⊢
         refine pure_ (i := 0) (N := some 51) (v := ?_) (a' := ?_) #[true, false, false, false, false, false, false, false, false, false] rfl rfl (any_of HT_.out (by kernel_rfl)) (fun _ _ _ h => h) (Or.inl ⟨by rfl, ?_⟩) ?_ ?_
         rotate_left
         ·
          intro w'
          go_simp
          with_reducible rfl
         rotate_left
         ·
          simp only [Act.put, List.setIfInBounds_toArray, List.set_cons_zero, List.set_cons_succ, i64_w, i32_w]
          rfl
         refine pure_ (i := 1) (N := some 52) (v := ?_) (a' := ?_) #[true, true, false, false, false, false, false, false, false, false] rfl rfl (any_of HT_.out (by kernel_rfl)) (fun _ _ _ h => h) (Or.inl ⟨by rfl, ?_⟩) ?_ ?_
         rotate_left
         ·
          intro w'
          go_simp
          with_reducible rfl
         rotate_left
         ·
          simp only [Act.put, List.setIfInBounds_toArray, List.set_cons_zero, List.set_cons_succ, i64_w, i32_w]
          rfl
         refine pure_ (i := 2) (N := some 53) (v := ?_) (a' := ?_) #[true, true, true, false, false, false, false, false, false, false] rfl rfl (any_of HT_.out (by kernel_rfl)) (fun _ _ _ h => h) (Or.inl ⟨by rfl, ?_⟩) ?_ ?_
         rotate_left
         ·
          intro w'
          go_simp
          with_reducible rfl
         rotate_left
         ·
          simp only [Act.put, List.setIfInBounds_toArray, List.set_cons_zero, List.set_cons_succ, i64_w, i32_w]
          rfl
         refine pure_ (i := 4) (N := some 55) (v := ?_) (a' := ?_) #[true, true, true, false, true, false, false, false, false, false] rfl rfl (any_of HT_.out (by kernel_rfl)) (fun _ _ _ h => h) (Or.inl ⟨by rfl, ?_⟩) ?_ ?_
         rotate_left
         ·
          intro w'
          go_simp
          with_reducible rfl
         rotate_left
         ·
          simp only [Act.put, List.setIfInBounds_toArray, List.set_cons_zero, List.set_cons_succ, i64_w, i32_w]
          rfl
         refine take_ (i := 3) (N := some 54) (v := ?_) (a' := ?_) #[true, true, true, true, true, false, false, false, false, false] rfl rfl (take_ofW HT_.out HW_.out (by kernel_rfl)) (fun _ _ _ h => h) (Or.inl ⟨by rfl, ?_⟩) hHeld ?_ ?_
         rotate_left
         ·
          intro w' s0
          go_simp
          with_reducible rfl
         rotate_left
         ·
          simp only [Act.put, List.setIfInBounds_toArray, List.set_cons_zero, List.set_cons_succ, i64_w, i32_w]
          rfl
         refine one_ (i := 5) (N := some 56) #[true, true, true, true, true, true, false, false, false, false] rfl rfl (one_of HT_.out (by kernel_rfl)) (by decide) (fun K hK => ?_)
         refine Kd.R_lit_step (Kd.int .i64) _ 3 ?hg (N := 56) ?hd (xs := ([0, 100, (-100)] : List Int)) (inner := [.int .i64 0, .int .i64 100, .int .i64 (-100)]) (ok := fun _ => True) (okp := fun _ => True) ?hr ?hp (fun _ hk => hk) trivial (Below.refl _ _) (Nat.le_refl _) (by simp) ?_; (case hd => rfl); (case hg => rfl); (case hr => exact qfba_); (case hp => exact (Reps.one (show Kd.M (Kd.int .i64) _ _ _ 0 [.int .i64 0] from rfl) (Reps.one (show Kd.M (Kd.int .i64) _ _ _ 100 [.int .i64 100] from rfl) (Reps.one (show Kd.M (Kd.int .i64) _ _ _ (-100) [.int .i64 (-100)] from rfl) (Reps.none _ _)))))
         intro v151 w48 ho49 hb hg_ hnew_
         have HS0_ := (hb.cell (World.block_lt_of_cell? _ _ (hHeld))).trans (hHeld)
         clear hg_ hnew_
         (first | rw [← Ny150.out] at ho49 | (simp only [Int.reduceToNat] at ho49; rw [← Ny150.out] at ho49))
         have n0_ := Aside0.mk (Kd.R_elder' (q9d5_ HO_5.out) (Kd.R_base ho49) hb)
         have n1_ := Aside0.mk (Kd.R_lower (Kd.R_new' ho49 (Kd.R_lt (q9d5_ HO_5.out))) (keep_size (w := w) (g := g) (row := none) q1d6_))
         have n2_ := Aside0.mk (IsS44.below (q7be_ HI0.out) hb)
         have n3_ := Aside0.mk (KeepBut.trans q1d6_ (KeepBut.of_below hb g none) (.inl rfl))
         have n4_ := Aside0.mk (below_step (q687_ HI0.out) hb)
         clear HO_5 HI0 HK HB; have HO_5 := n0_; have HO152 := n1_; have HI0 := n2_; have HK := n3_; have HB := n4_; clear n0_ n1_ n2_ n3_ n4_ hb ho49
         obtain ⟨Ao50, co50, eo50⟩ := Kd.R_slice HO152.out
         (first | subst eo50 | (injection eo50 with f1_ f2_ f3_; have f4_ := f1_.symm; have f5_ := f3_.symm; clear f1_ f2_ f3_; subst f4_; subst f5_))
         refine hK.out _ _ (HS0_) (fun hHeld => ?_)
         clear hK K
         refine norm_ (a' := ?_) ?_ ?_
         rotate_left
         ·
          show Act.put _ (some 56) _ = _
          simp only [Act.put, List.setIfInBounds_toArray, List.set_cons_zero, List.set_cons_succ, i64_w, i32_w]
          rfl
         refine one_ (i := 6) (N := some 57) #[true, true, true, true, true, true, true, false, false, false] rfl rfl (one_of HT_.out (by kernel_rfl)) (by decide) (fun K hK => ?_)
         refine goes_ Try.func34 (by kernel_rfl) rfl #[.pointer (some ⟨g, 0, none⟩), .slice Ao50 y150.length co50] (by rfl) rfl rfl qef5_ ?_
         with_reducible refine (spec_l1Cur_among.calls g s0_0 t138 t139 _ _ y150 t153 t154 t155 w0 _ ?s1 ?s2 ?s3 ?s4 ?s5 A42.out).mono ?_
         (case s1 => exact q7be_ HI0.out)
         (case s2 => exact q687_ HI0.out)
         (case s3 => exact q5a8_ HO152.out)
         (case s4 => exact (Kd.R_reads' HO152.out).2.1)
         (case s5 => exact far_slice (IsS44.own_ne HI0.out HO152.out (by decide)))
         rintro e w51 ⟨rfl, hi, hb, hk⟩
         have HS0_ := keep_cell hk (hHeld) (by first | (rw [add_block]; exact Kd.own_blk (IsS44.own_ne HI0.out HO_5.out (by decide))) | (show (Addr.add _ _).block ≠ _; rw [add_block]; exact Kd.own_blk (IsS44.own_ne HI0.out HO_5.out (by decide))) | exact Kd.own_blk (IsS44.own_ne HI0.out HO_5.out (by decide)) | (have hb_ := Kd.own_blk (IsS44.own_ne HI0.out HO_5.out (by decide)); exact hb_))
         refine ⟨_, rfl, ?_⟩
         have n0_ := Aside0.mk (Kd.R_mono (Kd.R_keep (IsS44.apart (show IsS44 w0 _ g s0_0 t138 t139 from q7be_ HI0.out) (q9d5_ HO_5.out) (by decide)) hk (fun _ h => h.2)) (fun _ h => h.1))
         have n1_ := Aside0.mk (Kd.R_mono (Kd.R_keep (IsS44.apart (show IsS44 w0 _ g s0_0 t138 t139 from q7be_ HI0.out) (q9d5_ HO152.out) (by decide)) hk (fun _ h => h.2)) (fun _ h => h.1))
         have n2_ := Aside0.mk (KeepBut.trans q1d6_ hk (.inl rfl))
         have n3_ := Aside0.mk (hb)
         have n4_ := Aside0.mk (hi)
         clear HO_5 HO152 HK HB HI0; have HO_5 := n0_; have HO152 := n1_; have HK := n2_; have HB := n3_; have HI0 := n4_; clear n0_ n1_ n2_ n3_ n4_
         (try clear hb)
         (try clear hb2)
         (try clear hk)
         (try clear hi)
         have p44 : 0 ≤ (0 : Int) := (by omega)
         have q44 : (0 : Int) < ((x5_1.length : Int) : Int) := of_decide_eq_true qe84_
         have qi44 : (0 < x5_1.length) = True := eq_true (by omega)
         obtain ⟨go44, co44, eo44, gb44, gl44, cl44, HG44⟩ := Kd.R_form HO_5.out (by omega)
         (first | cases eo44 | (injection eo44 with ea_ en_ ec_; (first | subst ea_ | (injection ea_ with ea_; subst ea_)); subst ec_; clear en_))
         have GB44 := Aside0.mk gb44
         have GG44 := Aside0.mk HG44
         clear gb44 gl44 HG44
         (first | simp only [add_plain] at hx149_0 | skip)
         obtain ⟨hx44_0, hf44_0⟩ := Kd.R_celln 0 HO_5.out (0 : Int) p44 q44
         (try rw [show ((0 : Int)).toNat = 0 from rfl] at hx44_0)
         (try simp only [Nat.reduceMul, Nat.zero_mul, Nat.zero_add, Nat.reduceAdd] at hx44_0)
         (try rw [show ((0 : Int)).toNat = 0 from rfl] at hf44_0)
         (try simp only [Nat.reduceMul, Nat.zero_mul, Nat.zero_add, Nat.reduceAdd] at hf44_0)
         replace p44 := eq_true p44
         replace q44 := eq_true q44
         have HN0_go44 := Aside0.mk (show g ≠ go44 from by have h_ := IsS44.own_ne HI0.out HO_5.out (by decide); intro e_; exact h_ (by rw [e_]; rfl))
         have HP52 := Kd.R_putn HO_5.out (0 : Int) (wrap64 ((rd x5_1 1) + t153))
         rw [← Ny156.out] at HP52
         have HQ52 := Aside0.mk HP52
         clear HP52
         refine hK.out _ _ (HS0_) (fun hHeld => ?_)
         clear hK K
         refine norm_ (a' := ?_) ?_ ?_
         rotate_left
         ·
          show Act.put _ (some 57) _ = _
          simp only [Act.put, List.setIfInBounds_toArray, List.set_cons_zero, List.set_cons_succ, i64_w, i32_w]
          rfl
         refine pure_ (i := 7) (N := some 58) (v := ?_) (a' := ?_) #[true, true, true, true, true, true, true, true, false, false] rfl rfl (any_of HT_.out (by kernel_rfl)) (fun _ _ _ h => h) (Or.inl ⟨by rfl, ?_⟩) ?_ ?_
         rotate_left
         ·
          intro w'
          go_simp
          with_reducible rfl
         rotate_left
         ·
          simp only [Act.put, List.setIfInBounds_toArray, List.set_cons_zero, List.set_cons_succ, i64_w, i32_w]
          rfl
         refine pure_ (i := 8) (N := some 59) (v := ?_) (a' := ?_) #[true, true, true, true, true, true, true, true, true, false] rfl rfl (any_of HT_.out (by kernel_rfl)) (fun _ _ _ h => h) (Or.inl ⟨by rfl, ?_⟩) ?_ ?_
         rotate_left
         ·
          intro w'
          go_simp
          with_reducible rfl
         rotate_left
         ·
          simp only [Act.put, List.setIfInBounds_toArray, List.set_cons_zero, List.set_cons_succ, i64_w, i32_w]
          rfl
         refine last_ (i := 9) (N := none) #[true, true, true, true, true, true, true, true, true, true] rfl rfl (one_of HT_.out (by kernel_rfl)) (by decide) (fun K hK => ?_)
         refine skip_ (w1 := ?_) (by rfl) rfl ?_ ?_
         rotate_left
         ·
          go_simp
          rfl
         refine hK.out _ _ ?_
         clear hK K
         refine done_ (done_of HT_.out (by kernel_rfl)) ?_
         try go_wp2
         go_ret
         exact ⟨_, qce7_, q7d9_ HQ52.out, by repeat (first | (with_reducible first | exact HI0.out | apply IsS44.alloc | apply IsS44.drewN | apply IsS44.drew | apply IsS44.set_1 | apply IsS44.set_2 | refine IsS44.far ?_ HN0_go44.out _) | exact HI0.out), by repeat (first | (with_reducible first | exact HB.out | apply below_alloc | apply pw_below_drewN | apply below_drew1 | refine below_set ?_ (Nat.le_trans HL.out GB44.out) | refine below_set ?_ (IsS44.ge HI0.out)) | exact HB.out), by repeat (first | (with_reducible first | exact HK.out | apply KeepBut.set_ | apply keep_drewN | apply keep_drew | apply keep_alloc | refine keep_far ?_ GB44.out _) | exact HK.out)⟩
        ·
         rw [if_neg c43] at H
         exact absurd H (by simp)
       ·
        rw [if_neg c41] at H
        exact absurd H (by simp)
      ·
       rw [if_neg c40] at H
       have c40b0 := decide_eq_false c40
       have c40b1 : decide (1 < x5_1.length) = false := decide_eq_false (by omega)
       clear c40
       simp only [Option.some.injEq, Prod.mk.injEq] at H
       obtain ⟨rfl, rfl, rfl⟩ := H
       obtain ⟨Ao53, co53, eo53⟩ := Kd.R_slice HO_5.out
       subst eo53
       go_wp2_with (first | ((with_reducible refine gate_callee (f := 19) rfl ?_); refine gl_ 37 Try.func19 #[.pointer (some ⟨g, 0, none⟩), .int .i64 14] ?_; (with_reducible refine (spec_l1Cur_pick.calls g s0_0 x1001_1 x1002_1 14 t137 t138 t139 w0 _ ?s1 ?s2 A28.out).mono ?_); (case s1 => exact q7be_ HI0.out); (case s2 => exact q687_ HI0.out); rintro e w54 ⟨rfl, hi, hb, hk⟩; refine ⟨_, rfl, ?_⟩; replace HO_5 := Aside0.mk (Kd.R_mono (Kd.R_keep (IsS44.apart (show IsS44 w0 _ g s0_0 x1001_1 x1002_1 from q7be_ HI0.out) (q9d5_ HO_5.out) (by decide)) hk (fun _ h => h.2)) (fun _ h => h.1)); replace HK := Aside0.mk (KeepBut.trans q1d6_ hk (.inl rfl)); replace HB := Aside0.mk (hb); replace HI0 := Aside0.mk (hi); clear hb hk hi))
       go_ret
       exact ⟨_, qce7_, q9d5_ HO_5.out, q7be_ HI0.out, q687_ HI0.out, q1d6_⟩
     ·
      rw [if_neg c39] at H
      have c39b0 := beq_eq_false_iff_ne.mpr c39
      have c39b1 := bne_iff_ne.mpr c39
      by_cases c55 : t137 = 2
      ·
       rw [if_pos c55] at H
       have c55b0 := beq_iff_eq.mpr c55
       have c55b1 := bne_eq_false_iff_eq.mpr c55
       clear c55
       have H' := Aside0.mk H
       clear H
       obtain ⟨Ao56, co56, eo56⟩ := Kd.R_slice HO_5.out
       subst eo56
       go_wp2_with (first | ((with_reducible refine gate_callee (f := 19) rfl ?_); refine gl_ 37 Try.func19 #[.pointer (some ⟨g, 0, none⟩), .int .i64 14] ?_; (with_reducible refine (spec_l1Cur_pick.calls g s0_0 x1001_1 x1002_1 14 t137 t138 t139 w0 _ ?s1 ?s2 A28.out).mono ?_); (case s1 => exact q7be_ HI0.out); (case s2 => exact q687_ HI0.out); rintro e w57 ⟨rfl, hi, hb, hk⟩; refine ⟨_, rfl, ?_⟩; replace HO_5 := Aside0.mk (Kd.R_mono (Kd.R_keep (IsS44.apart (show IsS44 w0 _ g s0_0 x1001_1 x1002_1 from q7be_ HI0.out) (q9d5_ HO_5.out) (by decide)) hk (fun _ h => h.2)) (fun _ h => h.1)); replace HK := Aside0.mk (KeepBut.trans q1d6_ hk (.inl rfl)); replace HB := Aside0.mk (hb); replace HI0 := Aside0.mk (hi); clear hb hk hi))
       go_loopg [5] k1 (fun kq v5 w' => ∃ (x5_2 : List Int) (x1001_2 : Int) (x1002_2 : Int), Aside0 (spec_l1Cur_point.l1 kq x5_2 s0_0 x1001_2 x1002_2 = some (r1, r2, r3)) ∧ Aside0 (kq ≤ k1) ∧ Aside0 (Kd.R (Kd.int .i64) 3 w' w.heap.size (fun _ => True) v5 x5_2) ∧ Aside0 (IsS44 w0 w' g s0_0 x1001_2 x1002_2) ∧ Aside0 (KeepBut w w' g none) ∧ Aside0 (Below w0.heap.size w0 w'))
       case atStart => exact ⟨(([] : List Int)), (t138), (t139), H', ⟨Nat.le_refl _⟩, ⟨qf62_⟩, ⟨q7be_ HI0.out⟩, ⟨q1d6_⟩, ⟨q687_ HI0.out⟩⟩
       case round =>
        clear H'; try clear c1; try clear p1; try clear q1; try clear hx1; try clear qi1; try clear c2; try clear p2; try clear c3; try clear c3b0; try clear c4; try clear p4; try clear q4; try clear hx4; try clear qi4; try clear hf4; try clear c5; try clear p6; try clear c12; try clear p12; try clear q12; try clear hx12; try clear c14; try clear p14; try clear q14; try clear hx14; try clear qi14; try clear c15; try clear c17; try clear c19; try clear c26; try clear c29; try clear c29b0; try clear c29b1; try clear c31; try clear c34; try clear c39; try clear c39b0; try clear c39b1; try clear c40; try clear c40b0; try clear c40b1; try clear c41; try clear c41b0; try clear c41b1; try clear c43; try clear c43b0; try clear c43b1; try clear p44; try clear q44; try clear hx44; try clear qi44; try clear hf44; try clear c55; try clear c55b0; try clear c55b1; try clear hx124_0; try clear hx149_0; try clear hx44_0; try clear p124; try clear p149; try clear p44; try clear q124; try clear q149; try clear q44
        obtain ⟨x5_2, x1001_2, x1002_2, HA, HK2, HO_5, HI0, HK, HB⟩ := hrel
        cases gk with
        | zero => exact absurd HA.out (by simp [spec_l1Cur_point.l1])
        | succ k2 =>
         have H := HA.out
         clear HA
         simp only [spec_l1Cur_point.l1] at H
         obtain ⟨⟨t157, t158, t159⟩, A58, H⟩ := ob_ H
         dsimp only at H
         by_cases c59 : (x5_2.length : Int) < (wrap64 (8 + t157))
         ·
          rw [if_pos c59] at H
          have c59b0 := decide_eq_true c59
          clear c59
          by_cases c60 : x5_2.length < 17592186044416
          ·
           rw [if_pos c60] at H
           have LMc60 := Aside0.mk c60
           clear c60
           obtain ⟨y160, hy160⟩ : ∃ y_ : List Int, y_ = (x5_2 ++ [wrap64 ((-37) * (x5_2.length : Int))]) := ⟨_, rfl⟩
           replace H : (spec_l1Cur_point.l1 k2 y160 s0_0 t158 t159) = some (r1, r2, r3) := by first | (rw [hy160]; with_reducible exact H) | (have H2_ := (Option.bind_some _ _).symm.trans H; rw [hy160]; with_reducible exact H2_) | (have H2_ := (Option.bind_some _ _).symm.trans H; with_reducible exact H2_) | with_reducible exact H | (rw [hy160]; exact H) | exact H
           have Ny160 := Aside0.mk hy160
           clear hy160
           have H' := Aside0.mk H
           clear H
           obtain ⟨Ao61, co61, eo61⟩ := Kd.R_slice HO_5.out
           subst eo61
           go_wp2_with (first | ((with_reducible refine gate_callee (f := 19) rfl ?_); refine gl_ 65 Try.func19 #[.pointer (some ⟨g, 0, none⟩), .int .i64 2] ?_; (with_reducible refine (spec_l1Cur_pick.calls g s0_0 x1001_2 x1002_2 2 t157 t158 t159 w0 _ ?s1 ?s2 A58.out).mono ?_); (case s1 => exact q7be_ HI0.out); (case s2 => exact q687_ HI0.out); rintro e w62 ⟨rfl, hi, hb, hk⟩; refine ⟨_, rfl, ?_⟩; replace HO_5 := Aside0.mk (Kd.R_mono (Kd.R_keep (IsS44.apart (show IsS44 w0 _ g s0_0 x1001_2 x1002_2 from q7be_ HI0.out) (q9d5_ HO_5.out) (by decide)) hk (fun _ h => h.2)) (fun _ h => h.1)); replace HK := Aside0.mk (KeepBut.trans q1d6_ hk (.inl rfl)); replace HB := Aside0.mk (hb); replace HI0 := Aside0.mk (hi); clear hb hk hi) | ((with_reducible refine gate_builtin (b := .append) (xs := #[.tmp 68, .tmp 72]) rfl ?_); (try (refine gate_guard (by rfl) ?_; dsimp only)); at_builtin; refine Kd.R_append (Kd.int .i64) w.heap.size rfl (.tmp 68) (.tmp 72) 24 3 (.int .i64 0) 8 rfl Try.underlying24 info3 rfl (by decide) (by omega) (.slice Ao61 x5_2.length co61) x5_2 (wrap64 ((-37) * (x5_2.length : Int))) [.int .i64 (wrap64 ((-37) * (x5_2.length : Int)))] (fun _ => True) (fun _ => False) rfl rfl ?aP (fun _ hk => hk.elim) ?aF ?aO (Below.refl _ _) ?aS ?aL ?_; (case aP => exact rfl); (case aF => exact (fun _ _ => trivial)); (case aO => exact (q9d5_ HO_5.out)); (case aS => exact (keep_size (w := w) (g := g) (row := none) q1d6_)); (case aL => have := LMc60.out; omega); intro v161 w63 ho hb hg hat; rw [← Ny160.out] at ho; have n0_ := Aside0.mk (IsS44.grown (q7be_ HI0.out) hg (IsS44.own_ne HI0.out HO_5.out (by decide))); have n1_ := Aside0.mk (below_weaken (q687_ HI0.out) HL.out hb); have n2_ := Aside0.mk (KeepBut.trans q1d6_ (KeepBut.of_grown hg g) (Kd.R_base2 HO_5.out)); have n3_ := Aside0.mk (ho); replace HI0 := n0_; replace HB := n1_; replace HK := n2_; have HO162 := n3_; clear n0_ n1_ n2_ n3_; clear ho hb hg hat))
           go_roundg k2
           case measure => have := HK1.out; have := HK2.out; omega
           case rel => exact ⟨(y160), (t158), (t159), H', ⟨q37b_ HK1.out HK2.out⟩, ⟨q9d5_ HO162.out⟩, ⟨q7be_ HI0.out⟩, ⟨q1d6_⟩, ⟨q687_ HI0.out⟩⟩
          ·
           rw [if_neg c60] at H
           exact absurd H (by simp)
         ·
          rw [if_neg c59] at H
          have c59b0 := decide_eq_false c59
          clear c59
          simp only [Option.some.injEq, Prod.mk.injEq] at H
          obtain ⟨rfl, rfl, rfl⟩ := H
          obtain ⟨Ao64, co64, eo64⟩ := Kd.R_slice HO_5.out
          subst eo64
          go_wp2_with (first | ((with_reducible refine gate_callee (f := 19) rfl ?_); refine gl_ 65 Try.func19 #[.pointer (some ⟨g, 0, none⟩), .int .i64 2] ?_; (with_reducible refine (spec_l1Cur_pick.calls g s0_0 x1001_2 x1002_2 2 t157 t158 t159 w0 _ ?s1 ?s2 A58.out).mono ?_); (case s1 => exact q7be_ HI0.out); (case s2 => exact q687_ HI0.out); rintro e w65 ⟨rfl, hi, hb, hk⟩; refine ⟨_, rfl, ?_⟩; replace HO_5 := Aside0.mk (Kd.R_mono (Kd.R_keep (IsS44.apart (show IsS44 w0 _ g s0_0 x1001_2 x1002_2 from q7be_ HI0.out) (q9d5_ HO_5.out) (by decide)) hk (fun _ h => h.2)) (fun _ h => h.1)); replace HK := Aside0.mk (KeepBut.trans q1d6_ hk (.inl rfl)); replace HB := Aside0.mk (hb); replace HI0 := Aside0.mk (hi); clear hb hk hi))
          go_ret
          exact ⟨_, qce7_, q9d5_ HO_5.out, q7be_ HI0.out, q687_ HI0.out, q1d6_⟩
      ·
       rw [if_neg c55] at H
       have c55b0 := beq_eq_false_iff_ne.mpr c55
       have c55b1 := bne_iff_ne.mpr c55
       simp only [Option.some.injEq, Prod.mk.injEq] at H
       obtain ⟨rfl, rfl, rfl⟩ := H
       obtain ⟨Ao66, co66, eo66⟩ := Kd.R_slice HO_5.out
       subst eo66
       go_wp2_with (first | ((with_reducible refine gate_callee (f := 19) rfl ?_); refine gl_ 37 Try.func19 #[.pointer (some ⟨g, 0, none⟩), .int .i64 14] ?_; (with_reducible refine (spec_l1Cur_pick.calls g s0_0 x1001_1 x1002_1 14 t137 t138 t139 w0 _ ?s1 ?s2 A28.out).mono ?_); (case s1 => exact q7be_ HI0.out); (case s2 => exact q687_ HI0.out); rintro e w67 ⟨rfl, hi, hb, hk⟩; refine ⟨_, rfl, ?_⟩; replace HO_5 := Aside0.mk (Kd.R_mono (Kd.R_keep (IsS44.apart (show IsS44 w0 _ g s0_0 x1001_1 x1002_1 from q7be_ HI0.out) (q9d5_ HO_5.out) (by decide)) hk (fun _ h => h.2)) (fun _ h => h.1)); replace HK := Aside0.mk (KeepBut.trans q1d6_ hk (.inl rfl)); replace HB := Aside0.mk (hb); replace HI0 := Aside0.mk (hi); clear hb hk hi))
       go_ret
       exact ⟨_, qce7_, q9d5_ HO_5.out, q7be_ HI0.out, q687_ HI0.out, q1d6_⟩

/-! ### spec_DrawPlanesBetween: function 5 -/
def spec_DrawPlanesBetween.f (k : Nat) (l0 : List Int) : Option (List Int × List Int) := (spec_l1Cur_pick.f l0 0 0 8).bind fun bt164 => ((spec_l1Cur_point.f k l0 bt164.2.1 bt164.2.2 bt164.1).bind fun bt167 => ((spec_l1Cur_point.f k l0 bt167.2.1 bt167.2.2 bt164.1).bind fun bt172 => (some (bt167.1, bt172.1))))
theorem spec_DrawPlanesBetween.mono : ∀ a0 k, LeO (spec_DrawPlanesBetween.f k a0) (spec_DrawPlanesBetween.f (k + 1) a0) := by
 intro a0 k
 unfold spec_DrawPlanesBetween.f
 repeat' (with_reducible first | exact spec_l1Cur_point.mono _ _ _ _ _ | exact LeO.refl _ | exact LeO.none _ | refine LeO.ite ?_ ?_ | refine LeO.bind ?_ (fun _ => ?_))
theorem spec_DrawPlanesBetween.calls (k : Nat) (A0 : Option Addr) (c0 : Nat) (l0 : List Int) (r1 : List Int) (r2 : List Int) (w : World) (hr0 : Kd.C (Kd.int .u8) w A0 l0.length l0) (hc0 : l0.length ≤ c0) (h : spec_DrawPlanesBetween.f k l0 = some (r1, r2)) :
  Calls Try.prog 5 #[.slice A0 l0.length c0] w fun e w' => ∃ v0_ v1_ : Value, e = .returned (.tuple #[v0_, v1_]) ∧ Kd.R (Kd.int .i64) 3 w' w.heap.size (fun k_ => some k_ ≠ (v1_ : Value).ownBlock) v0_ r1 ∧ Kd.R (Kd.int .i64) 3 w' w.heap.size (fun k_ => some k_ ≠ (v0_ : Value).ownBlock) v1_ r2 ∧ Below w.heap.size w w' := by
 have hu44 := Try.underlying44
 have HR0 := Aside0.mk hr0
 have HC0 := Aside0.mk hc0
 clear hr0 hc0
 have HB := Aside0.mk (Below.refl w.heap.size w)
 unfold spec_DrawPlanesBetween.f at h
 have H := h; clear h
 obtain ⟨⟨t164, t165, t166⟩, A2, H⟩ := ob_ H
 dsimp only at H
 obtain ⟨⟨t167, t170, t171⟩, A3, H⟩ := ob_ H
 dsimp only at H
 obtain ⟨⟨t172, t175, t176⟩, A4, H⟩ := ob_ H
 dsimp only at H
 simp only [Option.some.injEq, Prod.mk.injEq] at H
 obtain ⟨rfl, rfl⟩ := H
 go_enter Try.func5, Try.ntmps5
 go_wp2_with (first | ((with_reducible refine gate_dst (N := 8) rfl ?_); refine box_event ?hg (N := 8) ?hd (cs := #[.slice A0 l0.length c0, .int .i64 0, .int .u64 0]) (t := 44) ?hr ?_; (case hd => rfl); (case hg => rfl); (case hr => exact qfba_); intro gb163 hg w5 hbox hb; have n0_ := Aside0.mk (below_step q0c4_ hb); have n1_ := Aside0.mk (hbox); have n2_ := Aside0.mk ((by rw [hg]; exact (below_size q0c4_) : w.heap.size ≤ gb163)); have n3_ := Aside0.mk ((by rw [hg]; exact (below_size q0c4_) : w.heap.size ≤ gb163)); have n4_ := Aside0.mk ((show IsS44 w w5 gb163 l0 0 0 from ⟨_, _, hbox, (by rw [hg]; exact (below_size q0c4_) : w.heap.size ≤ gb163), HR0.out⟩)); replace HB := n0_; have BK163 := n1_; have GW163 := n2_; have GE163 := n3_; have HI163 := n4_; clear n0_ n1_ n2_ n3_ n4_; clear hb hbox hg) | ((with_reducible refine gate_callee (f := 19) rfl ?_); refine gl_ 10 Try.func19 #[.pointer (some ⟨gb163, 0, none⟩), .int .i64 8] ?_; (with_reducible refine (spec_l1Cur_pick.calls gb163 l0 0 0 8 t164 t165 t166 w _ ?s1 ?s2 A2.out).mono ?_); (case s1 => exact q7be_ HI163.out); (case s2 => exact q687_ HI163.out); rintro e w6 ⟨rfl, hi, hb, hk⟩; refine ⟨_, rfl, ?_⟩; replace HB := Aside0.mk (hb); replace HI163 := Aside0.mk (hi); clear hb hk hi) | ((with_reducible refine gate_callee (f := 20) rfl ?_); refine gl_ 13 Try.func20 #[.pointer (some ⟨gb163, 0, none⟩), .int .i64 t164] ?_; (with_reducible refine (spec_l1Cur_point.calls k gb163 l0 t165 t166 t164 t167 t170 t171 w _ ?s1 ?s2 A3.out).mono ?_); (case s1 => exact q7be_ HI163.out); (case s2 => exact q687_ HI163.out); rintro e w7 ⟨v168, rfl, ho0, hi, hb, hk⟩; refine ⟨_, rfl, ?_⟩; have HO169 := Aside0.mk (Kd.R_lower ho0 (below_size (q687_ HI163.out))); replace HB := Aside0.mk (hb); replace HI163 := Aside0.mk (hi); clear hb hk hi ho0) | ((with_reducible refine gate_callee (f := 20) rfl ?_); refine gl_ 16 Try.func20 #[.pointer (some ⟨gb163, 0, none⟩), .int .i64 t164] ?_; (with_reducible refine (spec_l1Cur_point.calls k gb163 l0 t170 t171 t164 t172 t175 t176 w _ ?s1 ?s2 A4.out).mono ?_); (case s1 => exact q7be_ HI163.out); (case s2 => exact q687_ HI163.out); rintro e w8 ⟨v173, rfl, ho0, hi, hb, hk⟩; refine ⟨_, rfl, ?_⟩; have n0_ := Aside0.mk (Kd.R_mono (Kd.R_told (Kd.R_oldK (IsS44.apart (show IsS44 w _ gb163 l0 t170 t171 from q7be_ HI163.out) (q9d5_ HO169.out) (by decide)) hk) (Kd.R_base ho0)) (fun _ h_ => h_.1)); have n1_ := Aside0.mk (Kd.R_lower (Kd.R_new' ho0 (Kd.R_lt (q9d5_ HO169.out))) (below_size (q687_ HI163.out))); have n2_ := Aside0.mk (hb); have n3_ := Aside0.mk (hi); replace HO169 := n0_; have HO174 := n1_; replace HB := n2_; replace HI163 := n3_; clear n0_ n1_ n2_ n3_; clear hb hk hi ho0))
 go_ret2
 exact ⟨_, _, qce7_, qe0f_ HO169.out, qe0f_ HO174.out, q687_ HI163.out⟩

/-! ### impl_between: function 45 -/
def impl_between.f (a0 : Int) (a1 : Int) (a2 : Int) : Option (Bool) := if a0 ≥ a1 then (some (decide (a0 ≤ a2))) else (some false)
theorem impl_between.calls (a0 : Int) (a1 : Int) (a2 : Int) (r : Bool) (w : World) (h : impl_between.f a0 a1 a2 = some r) :
  Calls Try.prog 45 #[.int .i64 a0, .int .i64 a1, .int .i64 a2] w fun e w' => e = .returned (.bool r) ∧ Drawn0 w w' := by
 unfold impl_between.f at h
 have H := h; clear h
 by_cases c4 : a0 ≥ a1
 ·
  rw [if_pos c4] at H
  have c4b0 := decide_eq_true c4
  clear c4
  obtain rfl := Option.some.inj H
  go_enter Try.func45, Try.ntmps45
  go_wp2
  go_ret
  exact ⟨qc8f_, qffa_⟩
 ·
  rw [if_neg c4] at H
  have c4b0 := decide_eq_false c4
  clear c4
  obtain rfl := Option.some.inj H
  go_enter Try.func45, Try.ntmps45
  go_wp2
  go_ret
  exact ⟨qc8f_, qffa_⟩

/-! ### impl_isCars: function 30 -/
def impl_isCars.f (a0 : Int) : Option (Bool) := (impl_between.f a0 0 8).bind fun t177 => (some t177)
theorem impl_isCars.calls (a0 : Int) (r : Bool) (w : World) (h : impl_isCars.f a0 = some r) :
  Calls Try.prog 30 #[.int .i64 a0] w fun e w' => e = .returned (.bool r) ∧ Drawn0 w w' := by
 unfold impl_isCars.f at h
 have H := h; clear h
 obtain ⟨t177, A2, H⟩ := ob_ H
 obtain rfl := Option.some.inj H
 go_enter Try.func30, Try.ntmps30
 go_wp2_with (first | ((with_reducible refine gate_callee (f := 45) rfl ?_); refine gl_ 4 Try.func45 #[.int .i64 a0, .int .i64 0, .int .i64 8] ?_; (with_reducible refine (impl_between.calls a0 0 8 t177 _ A2.out).mono ?_); rintro e w' ⟨rfl, ⟨nd, rfl⟩⟩; refine ⟨_, rfl, ?_⟩))
 go_ret
 exact ⟨qc8f_, qffa_⟩

end Go.Proofs.Ytgfedgnpffockaa.PAll
