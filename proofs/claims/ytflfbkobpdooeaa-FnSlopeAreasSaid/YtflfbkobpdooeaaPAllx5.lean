-- written by a program of this session (wip/gen/xpatch.py over the translation); Lean checks it
import Derived.Test.YtflfbkobpdooeaaPAllx0
import Derived.Test.YtflfbkobpdooeaaPAllx1
import Derived.Test.YtflfbkobpdooeaaPAllx3
import Derived.Test.YtflfbkobpdooeaaPAllx4
namespace Go.Proofs.Ytflfbkobpdooeaa.PAll
open Go.RowKit Go.Proofs.Ytflfbkobpdooeaa.Hand Go.Proofs.YtflfbkobpdooeaaW.PrintWords Go.Proofs.YtflfbkobpdooeaaW.PrintLast Go.Proofs.YtflfbkobpdooeaaW.PrintMore
attribute [local go_sem] max2_int min2_int max_two min_two max_three min_three max_four min_four   -- for this text's walks alone
set_option linter.unusedVariables false
set_option linter.unusedSimpArgs false

/-! ### impl_DistancesOf: function 35 -/
def impl_DistancesOf.l0 : Nat → List Int → List Int → Bool → Int → Int → Option (List Int × Bool)
  | 0, _, _, _, _, _ => none
  | k + 1, x0, x6, x7, x16, x17 => if x17 < x16 then (if 0 ≤ x17 then (if x17 < (x6.length : Int) then (if x17 < (x0.length : Int) then (impl_DistancesOf.l0 k x0 (x6.set (x17 : Int).toNat (wrap64 ((rd x6 x17) - (rd x0 x17)))) x7 x16 (wrap64 (x17 + 1))) else (none)) else (none)) else (none)) else (some (x6, x7))
def impl_DistancesOf.f (k : Nat) (l0 : List Int) (a1 : Int) : Option (List Int × Bool) := (impl_DriveCars.f k l0 a1).bind fun bt417 => (impl_DistancesOf.l0 k l0 bt417.1 bt417.2 (bt417.1.length : Int) 0)
theorem impl_DistancesOf.mono_l : ∀ k, (∀ y0 y1 y2 y3 y4, LeO (impl_DistancesOf.l0 k y0 y1 y2 y3 y4) (impl_DistancesOf.l0 (k + 1) y0 y1 y2 y3 y4))
  | 0 => fun _ _ _ _ _ r h => by simp [impl_DistancesOf.l0] at h
  | k + 1 => by
    have ih0 := impl_DistancesOf.mono_l k
    · intro y0 y1 y2 y3 y4
      unfold impl_DistancesOf.l0
      repeat' first
      | (with_reducible exact ih0 _ _ _ _ _)
      | (with_reducible exact impl_DriveCars.mono _ _ _)
      | (with_reducible exact LeO.refl _)
      | (with_reducible exact LeO.none _)
      | (with_reducible refine LeO.ite ?_ ?_)
      | (with_reducible refine LeO.bind ?_ (fun _ => ?_))
      | exact ih0 _ _ _ _ _
      | exact impl_DriveCars.mono _ _ _
      | exact LeO.none _
      | refine LeO.ite ?_ ?_
      | refine LeO.bind ?_ (fun _ => ?_)
theorem impl_DistancesOf.mono : ∀ a0 a1 k, LeO (impl_DistancesOf.f k a0 a1) (impl_DistancesOf.f (k + 1) a0 a1) := by
  intro a0 a1 k
  have ih0 := impl_DistancesOf.mono_l k
  unfold impl_DistancesOf.f
  repeat' first
      | (with_reducible exact ih0 _ _ _ _ _)
      | (with_reducible exact impl_DriveCars.mono _ _ _)
      | (with_reducible exact LeO.refl _)
      | (with_reducible exact LeO.none _)
      | (with_reducible refine LeO.ite ?_ ?_)
      | (with_reducible refine LeO.bind ?_ (fun _ => ?_))
      | exact ih0 _ _ _ _ _
      | exact impl_DriveCars.mono _ _ _
      | exact LeO.none _
      | refine LeO.ite ?_ ?_
      | refine LeO.bind ?_ (fun _ => ?_)
def impl_DistancesOf.T5 : Bool × List (List Nat × List Nat) := (true, [([], []), ([], []), ([0, 1], [0, 1]), ([2], [2]), ([], []), ([], []), ([4, 5], [4, 5]), ([6], [6]), ([3, 7], [3, 7]), ([0, 1, 0, 1, 2, 3, 4, 5, 6, 7, 8], [0, 1]), ([9, 8, 0, 1, 2, 3, 4, 5, 6, 7, 8], [8, 9])])
def impl_DistancesOf.B5 : List Nat := [0, 0, 3, 7, 0, 0, 48, 112, 255, 511, 1023]
theorem impl_DistancesOf.tab5 : rtab .any (opsOf Try.f35 5) = impl_DistancesOf.T5 := by kernel_rfl
theorem impl_DistancesOf.bits5 : waitsOk impl_DistancesOf.T5.2 impl_DistancesOf.B5 = true := by kernel_rfl
set_option maxHeartbeats 8000000 in
set_option maxRecDepth 100000 in
theorem impl_DistancesOf.calls (k : Nat) (A0 : Option Addr) (c0 : Nat) (l0 : List Int) (a1 : Int) (r1 : List Int) (r2 : Bool) (w : World) (hr0 : Kd.C (Kd.int .i64) w A0 l0.length l0) (hc0 : l0.length ≤ c0) (h : impl_DistancesOf.f k l0 a1 = some (r1, r2)) :
    Calls Try.prog 35 #[.slice A0 l0.length c0, .int .i64 a1] w fun e w' => ∃ v0_ : Value, e = .returned (.tuple #[v0_, .bool r2]) ∧ Kd.R (Kd.int .i64) 3 w' w.heap.size (fun _ => True) v0_ r1 ∧ Below w.heap.size w w' := by
  have HR0 := Aside0.mk hr0
  have HC0 := Aside0.mk hc0
  clear hr0 hc0
  have HB := Aside0.mk (Below.refl w.heap.size w)
  have H : ((impl_DriveCars.f k l0 a1).bind fun bt417 => (impl_DistancesOf.l0 k l0 bt417.1 bt417.2 (bt417.1.length : Int) 0)) = some (r1, r2) := h
  clear h
  replace H := Option.bind_eq_some_iff.mp H
  obtain ⟨⟨t417, t418⟩, A30, H⟩ := H
  replace H : (impl_DistancesOf.l0 k l0 t417 t418 (t417.length : Int) 0) = some (r1, r2) := H
  have A3 := Aside0.mk A30
  clear A30
  have H' := Aside0.mk H
  clear H
  go_enter Try.func35, Try.ntmps35
  go_wp2_with (first | ((with_reducible refine gate_callee (f := 51) rfl ?_); refine goesL_ (some 12) rfl rfl Try.func51 (by kernel_rfl) rfl #[.slice A0 l0.length c0, .int .i64 a1] rfl (by (try simp only [List.map_toArray, List.map_cons, List.map_nil]); first | done | rfl | (simp only [List.length_drop, List.length_take]; rfl)) ?_; (with_reducible refine (impl_DriveCars.calls k _ _ l0 a1 t417 t418 _ ?side1 ?side2 A3.out).mono ?_); (case side1 => repeat (first | exact HR0.out | (with_reducible refine Kd.C_alloc ?_ _) | (with_reducible refine Kd.C_drewN ?_ _) | (with_reducible refine Kd.C_drew ?_))); (case side2 => exact HC0.out); rintro e w4 ⟨v419, rfl, ho0, hb⟩; refine ⟨_, rfl, ?_⟩; have n0_ := Aside0.mk (Kd.R_lower ho0 (below_size (by repeat (first | (with_reducible first | exact HB.out | apply below_alloc | apply pw_below_drewN | apply below_drew1) | exact HB.out)))); have n1_ := Aside0.mk (below_step (by repeat (first | (with_reducible first | exact HB.out | apply below_alloc | apply pw_below_drewN | apply below_drew1) | exact HB.out)) hb); clear HB; have HO420 := n0_; have HB := n1_; clear n0_ n1_; (try clear hb); (try clear hb2); (try clear hk); (try clear hi); (try clear ho0); obtain ⟨Ao5, co5, eo5⟩ := Kd.R_slice HO420.out; subst eo5))
  go_loopg [17] k (fun kq v17 w' => ∃ (x6_1 : List Int) (x17_1 : Int), v17 = .int .i64 x17_1 ∧ Aside0 (impl_DistancesOf.l0 kq l0 x6_1 t418 (t417.length : Int) x17_1 = some (r1, r2)) ∧ Aside0 (kq ≤ k) ∧ Aside0 (Kd.R (Kd.int .i64) 3 w' w.heap.size (fun _ => True) (.slice Ao5 t417.length co5) x6_1) ∧ Aside0 (Below w.heap.size w w'))
  case atStart => exact ⟨(t417), (0), (by first | rfl | (simp; done) | (simp [*]; done)), H', ⟨Nat.le_refl _⟩, ⟨by (with_reducible repeat (first | apply Kd.R_alloc | apply Kd.R_drewN | apply Kd.R_drew)); exact HO420.out⟩, ⟨by repeat (first | (with_reducible first | exact HB.out | apply below_alloc | apply pw_below_drewN | apply below_drew1) | exact HB.out)⟩⟩
  case round =>
    clear H'
    try clear p2
    try clear c3
    try clear c5
    obtain ⟨x6_1, x17_1, rfl, HA, HK1, HO_6, HB⟩ := hrel
    have hl6_1 := (Kd.R_reads' HO_6.out).1
    rw [hl6_1] at HO_6
    (try simp only [hl6_1])
    cases gk with
    | zero => exact absurd HA.out (by simp [impl_DistancesOf.l0])
    | succ k1 =>
      have H := HA.out
      clear HA
      simp only [impl_DistancesOf.l0] at H
      by_cases c6 : x17_1 < (t417.length : Int)
      · rw [if_pos c6] at H
        have c6b0 : decide (x17_1 < (t417.length : Int)) = true := decide_eq_true c6
        (try simp only [hl6_1] at c6b0)
        clear c6
        by_cases c7 : 0 ≤ x17_1
        · rw [if_pos c7] at H
          have c7b0 : decide (0 ≤ x17_1) = true := decide_eq_true c7
          clear c7
          by_cases c8 : x17_1 < (x6_1.length : Int)
          · rw [if_pos c8] at H
            have c8b0 : decide (x17_1 < (x6_1.length : Int)) = true := decide_eq_true c8
            (try simp only [hl6_1] at c8b0)
            clear c8
            by_cases c9 : x17_1 < (l0.length : Int)
            · rw [if_pos c9] at H
              have c9b0 : decide (x17_1 < (l0.length : Int)) = true := decide_eq_true c9
              (try simp only [hl6_1] at c9b0)
              clear c9
              obtain ⟨y423, hy423⟩ : ∃ y_ : List Int, y_ = (x6_1.set (x17_1 : Int).toNat (wrap64 ((rd x6_1 x17_1) - (rd l0 x17_1)))) := ⟨_, rfl⟩
              replace H : (impl_DistancesOf.l0 k1 l0 y423 t418 (t417.length : Int) (wrap64 (x17_1 + 1))) = some (r1, r2) := by first | (rw [hy423]; with_reducible exact H) | (have H2_ := (Option.bind_some _ _).symm.trans H; rw [hy423]; with_reducible exact H2_) | (have H2_ := (Option.bind_some _ _).symm.trans H; with_reducible exact H2_) | with_reducible exact H | (rw [hy423]; exact H) | exact H
              have Ny423 := Aside0.mk hy423
              clear hy423
              have H' := Aside0.mk H
              clear H
              try go_wp2
              have n0_ := Aside0.mk (Kd.R_drew HO_6.out)
              have n1_ := Aside0.mk (below_drew1 HB.out)
              clear HO_6
              clear HB
              have HO_6 := n0_
              have HB := n1_
              clear n0_ n1_
              have p421 : 0 ≤ (x17_1 : Int) := of_decide_eq_true (by first | (with_reducible assumption) | assumption)
              have q421 : x17_1 < (x6_1.length : Int) := of_decide_eq_true (by first | (with_reducible assumption) | assumption)
              obtain ⟨ad421, e421, hx421_0⟩ := Kd.at_int (Kd.R_reads' HO_6.out).2.2 x17_1 p421 q421
              cases e421
              replace p421 := eq_true p421
              replace q421 := eq_true q421
              have p422 : 0 ≤ (x17_1 : Int) := of_decide_eq_true (by first | (with_reducible assumption) | assumption)
              have q422 : x17_1 < (l0.length : Int) := of_decide_eq_true (by first | (with_reducible assumption) | assumption)
              obtain ⟨ad422, e422, hx422_0⟩ := Kd.at_int HR0.out x17_1 p422 q422
              have hw422_0 := hx422_0
              cases e422
              replace hx422_0 := (HB.out.cell (World.block_lt_of_cell? w _ hx422_0)).trans hx422_0
              replace p422 := eq_true p422
              replace q422 := eq_true q422
              have p10 : 0 ≤ (x17_1 : Int) := of_decide_eq_true (by first | (with_reducible assumption) | assumption)
              have q10 : (x17_1 : Int) < ((x6_1.length : Int) : Int) := of_decide_eq_true (by first | (with_reducible assumption) | assumption)
              obtain ⟨go10, co10, eo10, gb10, gl10, cl10, HG10⟩ := Kd.R_form HO_6.out (by omega)
              (first | cases eo10 | (injection eo10 with ea_ en_ ec_; (first | subst ea_ | (injection ea_ with ea_; subst ea_)); subst ec_; clear en_))
              have GB10 := Aside0.mk gb10
              have GG10 := Aside0.mk HG10
              clear gb10 gl10 HG10
              (first | simp only [add_plain] at hx421_0 | skip)
              obtain ⟨hx10_0, hf10_0⟩ := Kd.R_celln 0 HO_6.out (x17_1 : Int) p10 q10
              replace p10 := eq_true p10
              replace q10 := eq_true q10
              have HP12 := Kd.R_putn HO_6.out (x17_1 : Int) (wrap64 ((rd x6_1 x17_1) - (rd l0 x17_1)))
              rw [← Ny423.out] at HP12
              have HQ12 := Aside0.mk HP12
              clear HP12
              refine start_ (n := 11) (S := fun w' => w'.cell? ⟨go10, (x17_1).toNat, none⟩ = some (.int .i64 (rd x6_1 x17_1)) ∧ w'.cell? (ad422.add (x17_1).toNat) = some (.int .i64 (rd l0 x17_1))) (ds := [10]) #[false, false, false, false, false, false, false, false, false, false, false] (by kernel_rfl) rfl rfl ⟨hx421_0, ((HB.out.cell (World.block_lt_of_cell? w _ hw422_0)).trans hw422_0)⟩ (fun hHeld => ?_); refine with_tabW impl_DistancesOf.tab5 impl_DistancesOf.bits5 (fun HT_ HW_ => ?_)
              generalize wr.drew = w11 at HO_6 HB GG10 HQ12 hf10_0 hx10_0 hx421_0 hx422_0 hHeld ⊢
              refine pure_ (i := 0) (N := some 20) (v := ?_) (a' := ?_) #[true, false, false, false, false, false, false, false, false, false, false] rfl rfl (any_of HT_.out (by kernel_rfl)) (fun _ _ _ h => h) (Or.inl ⟨by rfl, ?_⟩) ?_ ?_
              rotate_left
              · intro w'
                go_simp
                with_reducible rfl
              rotate_left
              · simp only [Act.put, List.setIfInBounds_toArray, List.set_cons_zero, List.set_cons_succ, i64_w, i32_w]
                rfl
              refine pure_ (i := 1) (N := some 21) (v := ?_) (a' := ?_) #[true, true, false, false, false, false, false, false, false, false, false] rfl rfl (any_of HT_.out (by kernel_rfl)) (fun _ _ _ h => h) (Or.inl ⟨by rfl, ?_⟩) ?_ ?_
              rotate_left
              · intro w'
                go_simp
                with_reducible rfl
              rotate_left
              · simp only [Act.put, List.setIfInBounds_toArray, List.set_cons_zero, List.set_cons_succ, i64_w, i32_w]
                rfl
              refine pure_ (i := 2) (N := some 22) (v := ?_) (a' := ?_) #[true, true, true, false, false, false, false, false, false, false, false] rfl rfl (any_of HT_.out (by kernel_rfl)) (fun _ _ _ h => h) (Or.inl ⟨by rfl, ?_⟩) ?_ ?_
              rotate_left
              · intro w'
                go_simp
                with_reducible rfl
              rotate_left
              · simp only [Act.put, List.setIfInBounds_toArray, List.set_cons_zero, List.set_cons_succ, i64_w, i32_w]
                rfl
              refine pure_ (i := 4) (N := some 24) (v := ?_) (a' := ?_) #[true, true, true, false, true, false, false, false, false, false, false] rfl rfl (any_of HT_.out (by kernel_rfl)) (fun _ _ _ h => h) (Or.inl ⟨by rfl, ?_⟩) ?_ ?_
              rotate_left
              · intro w'
                go_simp
                with_reducible rfl
              rotate_left
              · simp only [Act.put, List.setIfInBounds_toArray, List.set_cons_zero, List.set_cons_succ, i64_w, i32_w]
                rfl
              refine pure_ (i := 5) (N := some 25) (v := ?_) (a' := ?_) #[true, true, true, false, true, true, false, false, false, false, false] rfl rfl (any_of HT_.out (by kernel_rfl)) (fun _ _ _ h => h) (Or.inl ⟨by rfl, ?_⟩) ?_ ?_
              rotate_left
              · intro w'
                go_simp
                with_reducible rfl
              rotate_left
              · simp only [Act.put, List.setIfInBounds_toArray, List.set_cons_zero, List.set_cons_succ, i64_w, i32_w]
                rfl
              refine pure_ (i := 6) (N := some 26) (v := ?_) (a' := ?_) #[true, true, true, false, true, true, true, false, false, false, false] rfl rfl (any_of HT_.out (by kernel_rfl)) (fun _ _ _ h => h) (Or.inl ⟨by rfl, ?_⟩) ?_ ?_
              rotate_left
              · intro w'
                go_simp
                with_reducible rfl
              rotate_left
              · simp only [Act.put, List.setIfInBounds_toArray, List.set_cons_zero, List.set_cons_succ, i64_w, i32_w]
                rfl
              refine take_ (i := 3) (N := some 23) (v := ?_) (a' := ?_) #[true, true, true, true, true, true, true, false, false, false, false] rfl rfl (take_ofW HT_.out HW_.out (by kernel_rfl)) (fun _ _ _ h => h) (Or.inl ⟨by rfl, ?_⟩) hHeld ?_ ?_
              rotate_left
              · rintro w' ⟨s0, s1⟩
                go_simp
                with_reducible rfl
              rotate_left
              · simp only [Act.put, List.setIfInBounds_toArray, List.set_cons_zero, List.set_cons_succ, i64_w, i32_w]
                rfl
              refine take_ (i := 7) (N := some 27) (v := ?_) (a' := ?_) #[true, true, true, true, true, true, true, true, false, false, false] rfl rfl (take_ofW HT_.out HW_.out (by kernel_rfl)) (fun _ _ _ h => h) (Or.inl ⟨by rfl, ?_⟩) hHeld ?_ ?_
              rotate_left
              · rintro w' ⟨s0, s1⟩
                go_simp
                with_reducible rfl
              rotate_left
              · simp only [Act.put, List.setIfInBounds_toArray, List.set_cons_zero, List.set_cons_succ, i64_w, i32_w]
                rfl
              refine pure_ (i := 8) (N := some 28) (v := ?_) (a' := ?_) #[true, true, true, true, true, true, true, true, true, false, false] rfl rfl (any_of HT_.out (by kernel_rfl)) (fun _ _ _ h => h) (Or.inl ⟨by rfl, ?_⟩) ?_ ?_
              rotate_left
              · intro w'
                go_simp
                with_reducible rfl
              rotate_left
              · simp only [Act.put, List.setIfInBounds_toArray, List.set_cons_zero, List.set_cons_succ, i64_w, i32_w]
                rfl
              refine pure_ (i := 9) (N := some 29) (v := ?_) (a' := ?_) #[true, true, true, true, true, true, true, true, true, true, false] rfl rfl (any_of HT_.out (by kernel_rfl)) (fun _ _ _ h => h) (Or.inl ⟨by rfl, ?_⟩) ?_ ?_
              rotate_left
              · intro w'
                go_simp
                with_reducible rfl
              rotate_left
              · simp only [Act.put, List.setIfInBounds_toArray, List.set_cons_zero, List.set_cons_succ, i64_w, i32_w]
                rfl
              refine last_ (i := 10) (N := none) #[true, true, true, true, true, true, true, true, true, true, true] rfl rfl (one_of HT_.out (by kernel_rfl)) (by decide) (fun K hK => ?_)
              refine skip_ (w1 := ?_) (by rfl) rfl ?_ ?_
              rotate_left
              · go_simp
                rfl
              refine hK.out _ _ ?_
              clear hK K
              refine done_ (done_of HT_.out (by kernel_rfl)) ?_
              try go_wp2
              (try simp only [← hl6_1])
              go_roundg k1
              case measure => have := HK1.out; omega
              case rel => exact ⟨(y423), (wrap64 (x17_1 + 1)), (by first | rfl | (simp; done) | (simp [*]; done)), H', ⟨by have := HK1.out; omega⟩, ⟨by (try simp only [hl6_1]); (with_reducible repeat (first | apply Kd.R_alloc | apply Kd.R_drewN | apply Kd.R_drew)); exact HQ12.out⟩, ⟨by repeat (first | (with_reducible first | exact HB.out | apply below_alloc | apply pw_below_drewN | apply below_drew1 | refine below_set ?_ GB10.out) | exact HB.out)⟩⟩
            · rw [if_neg c9] at H
              exact absurd H (by simp)
          · rw [if_neg c8] at H
            exact absurd H (by simp)
        · rw [if_neg c7] at H
          exact absurd H (by simp)
      · rw [if_neg c6] at H
        have c6b0 : decide (x17_1 < (t417.length : Int)) = false := decide_eq_false c6
        (try simp only [hl6_1] at c6b0)
        clear c6
        simp only [Option.some.injEq, Prod.mk.injEq] at H
        obtain ⟨rfl, rfl⟩ := H
        go_wp2
        go_ret2
        exact ⟨_, by first | rfl | (simp [errW_none, errW_some] <;> rfl) | (simp [*, errW_none, errW_some] <;> rfl), by (with_reducible repeat (first | apply Kd.R_alloc | apply Kd.R_drewN | apply Kd.R_drew)); exact HO_6.out, by repeat (first | (with_reducible first | exact HB.out | apply below_alloc | apply pw_below_drewN | apply below_drew1) | exact HB.out)⟩

/-! ### impl_TotalDistance: function 17 -/
def impl_TotalDistance.f (k : Nat) (l0 : List Int) (a1 : Int) : Option (Int × Bool) := (impl_DistancesOf.f k l0 a1).bind fun bt424 => ((impl_total.f k bt424.1).bind fun t428 => (some (t428, bt424.2)))
theorem impl_TotalDistance.mono : ∀ a0 a1 k, LeO (impl_TotalDistance.f k a0 a1) (impl_TotalDistance.f (k + 1) a0 a1) := by
  intro a0 a1 k
  unfold impl_TotalDistance.f
  repeat' first
      | (with_reducible exact impl_DistancesOf.mono _ _ _)
      | (with_reducible exact impl_total.mono _ _)
      | (with_reducible exact LeO.refl _)
      | (with_reducible exact LeO.none _)
      | (with_reducible refine LeO.ite ?_ ?_)
      | (with_reducible refine LeO.bind ?_ (fun _ => ?_))
      | exact impl_DistancesOf.mono _ _ _
      | exact impl_total.mono _ _
      | exact LeO.none _
      | refine LeO.ite ?_ ?_
      | refine LeO.bind ?_ (fun _ => ?_)
set_option maxHeartbeats 8000000 in
set_option maxRecDepth 100000 in
theorem impl_TotalDistance.calls (k : Nat) (A0 : Option Addr) (c0 : Nat) (l0 : List Int) (a1 : Int) (r1 : Int) (r2 : Bool) (w : World) (hr0 : Kd.C (Kd.int .i64) w A0 l0.length l0) (hc0 : l0.length ≤ c0) (h : impl_TotalDistance.f k l0 a1 = some (r1, r2)) :
    Calls Try.prog 17 #[.slice A0 l0.length c0, .int .i64 a1] w fun e w' => e = .returned (.tuple #[.int .i64 r1, .bool r2]) ∧ Below w.heap.size w w' := by
  have HR0 := Aside0.mk hr0
  have HC0 := Aside0.mk hc0
  clear hr0 hc0
  have HB := Aside0.mk (Below.refl w.heap.size w)
  have H : ((impl_DistancesOf.f k l0 a1).bind fun bt424 => ((impl_total.f k bt424.1).bind fun t428 => (some (t428, bt424.2)))) = some (r1, r2) := h
  clear h
  replace H := Option.bind_eq_some_iff.mp H
  obtain ⟨⟨t424, t425⟩, A30, H⟩ := H
  replace H : ((impl_total.f k t424).bind fun t428 => (some (t428, t425))) = some (r1, r2) := H
  have A3 := Aside0.mk A30
  clear A30
  replace H := Option.bind_eq_some_iff.mp H
  obtain ⟨t428, A40, H⟩ := H
  replace H : (some (t428, t425)) = some (r1, r2) := H
  have A4 := Aside0.mk A40
  clear A40
  simp only [Option.some.injEq, Prod.mk.injEq] at H
  obtain ⟨rfl, rfl⟩ := H
  go_enter Try.func17, Try.ntmps17
  go_wp2_with (first | ((with_reducible refine gate_callee (f := 35) rfl ?_); refine goesL_ (some 11) rfl rfl Try.func35 (by kernel_rfl) rfl #[.slice A0 l0.length c0, .int .i64 a1] rfl (by (try simp only [List.map_toArray, List.map_cons, List.map_nil]); first | done | rfl | (simp only [List.length_drop, List.length_take]; rfl)) ?_; (with_reducible refine (impl_DistancesOf.calls k _ _ l0 a1 t424 t425 _ ?side1 ?side2 A3.out).mono ?_); (case side1 => repeat (first | exact HR0.out | (with_reducible refine Kd.C_alloc ?_ _) | (with_reducible refine Kd.C_drewN ?_ _) | (with_reducible refine Kd.C_drew ?_))); (case side2 => exact HC0.out); rintro e w5 ⟨v426, rfl, ho0, hb⟩; refine ⟨_, rfl, ?_⟩; have n0_ := Aside0.mk (Kd.R_lower ho0 (below_size (by repeat (first | (with_reducible first | exact HB.out | apply below_alloc | apply pw_below_drewN | apply below_drew1) | exact HB.out)))); have n1_ := Aside0.mk (below_step (by repeat (first | (with_reducible first | exact HB.out | apply below_alloc | apply pw_below_drewN | apply below_drew1) | exact HB.out)) hb); clear HB; have HO427 := n0_; have HB := n1_; clear n0_ n1_; (try clear hb); (try clear hb2); (try clear hk); (try clear hi); (try clear ho0); obtain ⟨Ao6, co6, eo6⟩ := Kd.R_slice HO427.out; subst eo6) | ((with_reducible refine gate_callee (f := 23) rfl ?_); refine goesL_ (some 15) rfl rfl Try.func23 (by kernel_rfl) rfl #[.slice Ao6 t424.length co6] rfl (by (try simp only [List.map_toArray, List.map_cons, List.map_nil]); first | done | rfl | (simp only [List.length_drop, List.length_take]; rfl)) ?_; (with_reducible refine (impl_total.calls k _ _ t424 t428 _ ?side1 ?side2 A4.out).mono ?_); (case side1 => repeat (first | exact (Kd.R_reads' HO427.out).2.2 | (with_reducible refine Kd.C_alloc ?_ _) | (with_reducible refine Kd.C_drewN ?_ _) | (with_reducible refine Kd.C_drew ?_))); (case side2 => exact (Kd.R_reads' HO427.out).2.1); rintro e w' ⟨rfl, ⟨nd, rfl⟩⟩; refine ⟨_, rfl, ?_⟩))
  go_ret2
  exact ⟨by first | rfl | (simp [errW_none, errW_some] <;> rfl) | (simp [*, errW_none, errW_some] <;> rfl), by repeat (first | (with_reducible first | exact HB.out | apply below_alloc | apply pw_below_drewN | apply below_drew1) | exact HB.out)⟩

/-! ### impl_BesideSlope: function 18 -/
/-- What BesideSlope has come to behind n rounds of its second loop. -/
def besL (l : List Int) : Nat → List Int
  | 0 => l
  | n + 1 => (besL l n).set (rd (fairL l) (n : Int)).toNat (wrap64 (rd (besL l n) (rd (fairL l) (n : Int)) + (n : Int)))
theorem besL_length (l : List Int) : ∀ n, (besL l n).length = l.length
  | 0 => rfl
  | n + 1 => by rw [besL, List.length_set, besL_length l n]
theorem wrap_next (i : Nat) (h : i < 1000000) : wrap64 ((i : Int) + 1) = ((i + 1 : Nat) : Int) := by
  unfold wrap64
  omega
def impl_BesideSlope.f (k : Nat) (l0 : List Int) (a1 : Int) : Option (List Int × Bool) := (impl_isSlopeParking.f k l0 a1).bind fun t => (if t = true then ((impl_isSlope.f k (l0.length : Int) (wrap64 (a1 + (l0.length : Int)))).bind fun u => (if u = true then (if l0.length ≤ 8 ∧ (fairL l0).all (fun x => decide (0 ≤ x ∧ x < (l0.length : Int))) = true then (some (besL l0 l0.length, true)) else none) else (some (([] : List Int), false)))) else (some (([] : List Int), false)))
theorem impl_BesideSlope.mono : ∀ a0 a1 k, LeO (impl_BesideSlope.f k a0 a1) (impl_BesideSlope.f (k + 1) a0 a1) := by
  intro a0 a1 k
  unfold impl_BesideSlope.f
  exact LeO.bind (impl_isSlopeParking.mono a0 a1 k) (fun _ => LeO.ite (LeO.bind (impl_isSlope.mono _ _ k) (fun _ => LeO.refl _)) (LeO.refl _))
set_option maxHeartbeats 16000000 in
set_option maxRecDepth 100000 in
theorem impl_BesideSlope.calls (k : Nat) (A0 : Option Addr) (c0 : Nat) (l0 : List Int) (a1 : Int) (r1 : List Int) (r2 : Bool) (w : World) (hr0 : Kd.C (Kd.int .i64) w A0 l0.length l0) (hc0 : l0.length ≤ c0) (h : impl_BesideSlope.f k l0 a1 = some (r1, r2)) :
    Calls Try.prog 18 #[.slice A0 l0.length c0, .int .i64 a1] w fun e w' => ∃ v0_ : Value, e = .returned (.tuple #[v0_, .bool r2]) ∧ Kd.R (Kd.int .i64) 3 w' w.heap.size (fun _ => True) v0_ r1 ∧ Below w.heap.size w w' := by
  have HR0 := Aside0.mk hr0
  have HC0 := Aside0.mk hc0
  have HBa := Aside0.mk (show Below w.heap.size w (w.alloc (.cells #[.slice A0 l0.length c0] 24)) from below_alloc (Below.refl _ _) _)
  have HXa := Aside0.mk (show (w.alloc (.cells #[.slice A0 l0.length c0] 24)).heap[w.heap.size]? = some (.cells #[.slice A0 l0.length c0] 24 (0, 0)) from blk_new w _)
  clear hr0 hc0
  unfold impl_BesideSlope.f at h
  obtain ⟨t, h1, h2⟩ := Option.bind_eq_some_iff.mp h
  clear h
  have A1 := Aside0.mk h1
  clear h1
  cases t with
  | false =>
    rw [if_neg (by decide)] at h2
    simp only [Option.some.injEq, Prod.mk.injEq] at h2
    obtain ⟨rfl, rfl⟩ := h2
    go_enter Try.func18, Try.ntmps18
    go_wp2_with (go_at_call 22; refine (impl_isSlopeParking.calls k A0 c0 l0 a1 false _ (Kd.C_alloc HR0.out _) HC0.out A1.out).mono ?_; rintro e w2 ⟨rfl, hb⟩)
    go_ret2
    exact ⟨_, rfl, Kd.R_nil _ _ _ _ _, below_step HBa.out hb⟩
  | true =>
    rw [if_pos rfl] at h2
    obtain ⟨u, h3, h4⟩ := Option.bind_eq_some_iff.mp h2
    clear h2
    have A2 := Aside0.mk h3
    clear h3
    cases u with
    | false =>
      rw [if_neg (by decide)] at h4
      simp only [Option.some.injEq, Prod.mk.injEq] at h4
      obtain ⟨rfl, rfl⟩ := h4
      go_enter Try.func18, Try.ntmps18
      go_wp2_with (first | (go_at_call 22; refine (impl_isSlopeParking.calls k A0 c0 l0 a1 true _ (Kd.C_alloc HR0.out _) HC0.out A1.out).mono ?_; rintro e w2 ⟨rfl, hb⟩; have hcz : w2.cell? ⟨w.heap.size, 0, none⟩ = some (.slice A0 l0.length c0) := (blk_cell (blk_below HXa.out hb) 0).trans rfl; have HB2 := Aside0.mk (below_step HBa.out hb); clear hb) | (go_at_call 29; refine (impl_isSlope.calls k (l0.length : Int) (wrap64 (a1 + (l0.length : Int))) false _ A2.out).mono ?_; rintro e w' ⟨rfl, ⟨nd, rfl⟩⟩))
      go_ret2
      exact ⟨_, rfl, Kd.R_nil _ _ _ _ _, pw_below_drewN HB2.out _⟩
    | true =>
      rw [if_pos rfl] at h4
      split at h4
      case isFalse => cases h4
      case isTrue hall =>
      simp only [Option.some.injEq, Prod.mk.injEq] at h4
      obtain ⟨rfl, rfl⟩ := h4
      have HALL := Aside0.mk hall
      clear hall
      go_enter Try.func18, Try.ntmps18
      go_wp2_with (first | (go_at_call 22; refine (impl_isSlopeParking.calls k A0 c0 l0 a1 true _ (Kd.C_alloc HR0.out _) HC0.out A1.out).mono ?_; rintro e w2 ⟨rfl, hb⟩; have hcz : w2.cell? ⟨w.heap.size, 0, none⟩ = some (.slice A0 l0.length c0) := (blk_cell (blk_below HXa.out hb) 0).trans rfl; have HB2 := Aside0.mk (below_step HBa.out hb); have HX2 := Aside0.mk (blk_below HXa.out hb); have hcz2 : ∀ (n_ : Nat) (o_ : Obj), ((w2.drewN n_).alloc o_).cell? ⟨w.heap.size, 0, none⟩ = some (.slice A0 l0.length c0) := (fun n_ o_ => (blk_cell (blk_alloc (blk_drewN HX2.out n_) o_) 0).trans rfl); clear hb) | (go_at_call 29; refine (impl_isSlope.calls k (l0.length : Int) (wrap64 (a1 + (l0.length : Int))) true _ A2.out).mono ?_; rintro e w' ⟨rfl, ⟨nd, rfl⟩⟩))
      obtain ⟨w3, hw3⟩ : ∃ w3, w3 = w2.drewN nd := ⟨_, rfl⟩
      rw [← hw3]
      have HB3 := Aside0.mk (show Below w.heap.size w w3 by rw [hw3]; exact pw_below_drewN HB2.out _)
      have HX3 := Aside0.mk (show w3.heap[w.heap.size]? = some (.cells #[.slice A0 l0.length c0] 24 (0, 0)) by rw [hw3]; exact blk_drewN HX2.out _)
      have HL3 := Aside0.mk (show w.heap.size < w3.heap.size from blk_lt HX3.out)
      have hcy : w3.cell? ⟨w.heap.size, 0, none⟩ = some (.slice A0 l0.length c0) := (blk_cell HX3.out 0).trans rfl
      have hz3 : w3.heap.size = w2.heap.size := by rw [hw3]; rfl
      clear hw3 HB2 HX2 hcz hcz2
      have hx0 : (w3.alloc (.cells #[] 3)).heap[w3.heap.size]? = some (.cells #[] 3 (0, 0)) := blk_new w3 _
      have HO := Aside0.mk (show Kd.R (Kd.int .i64) 3 (w3.alloc (.cells #[] 3)) w3.heap.size (fun _ => True) (.slice (some ⟨w2.heap.size, 0, none⟩) 0 0) (upN 0) by rw [← hz3]; exact Kd.R_of_own ⟨by simp [upN, encs], .inr ⟨w3.heap.size, 0, #[], rfl, by omega, hx0, by simp [upN], by simp, by simp, by simp [upN, encs]⟩⟩ (fun _ _ => trivial))
      have HB1 := Aside0.mk (show Below w3.heap.size w3 (w3.alloc (.cells #[] 3)) from below_alloc (Below.refl _ _) _)
      clear hx0 hz3
      go_loopg [6, 28] l0.length (fun kq v6 v28 w' => ∃ i : Nat, v28 = .int .i64 (i : Int) ∧ Aside0 (i + kq = l0.length) ∧ Aside0 (kq ≤ l0.length) ∧ Aside0 (Kd.R (Kd.int .i64) 3 w' w3.heap.size (fun _ => True) v6 (upN i)) ∧ Aside0 (Below w3.heap.size w3 w'))
      case atStart => exact ⟨0, rfl, ⟨by omega⟩, ⟨Nat.le_refl _⟩, HO, HB1⟩
      case round =>
        clear HO HB1
        obtain ⟨i, rfl, HI, HK1, HO, HB1⟩ := hrel
        cases gk with
        | succ k1 =>
          have hi : i < l0.length := by have := HI.out; omega
          have q1 : decide ((i : Int) < (l0.length : Int)) = true := decide_eq_true (by omega)
          go_wp2_with (first | ((with_reducible refine gate_builtin (b := .append) (xs := #[.tmp 31, .tmp 33]) rfl ?_); at_builtin; refine Kd.R_append (Kd.int .i64) (w0 := w3) w3.heap.size rfl (.tmp 31) (.tmp 33) 24 3 (.int .i64 0) 8 rfl Try.underlying24 info_int rfl (by decide) (by omega) u6 (upN i) (i : Int) [.int .i64 (i : Int)] (fun _ => True) (fun _ => False) rfl rfl ?aP (fun _ hk => hk.elim) ?aF ?aO ?aB ?aS ?aL ?_; (case aP => exact rfl); (case aB => exact (by repeat (first | (with_reducible first | exact HB1.out | apply below_alloc | apply pw_below_drewN | apply below_drew1) | exact HB1.out))); (case aF => exact (fun _ _ => trivial)); (case aO => exact (by (with_reducible repeat (first | apply Kd.R_alloc | apply Kd.R_drewN | apply Kd.R_drew)); exact HO.out)); (case aS => exact (below_size (by repeat (first | (with_reducible first | exact HB1.out | apply below_alloc | apply pw_below_drewN | apply below_drew1) | exact HB1.out)))); (case aL => rw [upN_length]; have := HALL.out.1; omega); intro v179 w8 ho hb hg hat; rw [← upN_succ] at ho; have n0_ := Aside0.mk (hb); have n1_ := Aside0.mk (ho); clear HB1; clear HO; have HB1 := n0_; have HO := n1_; clear n0_ n1_; clear ho hb hg hat))
          go_roundg k1
          case measure => have := HK1.out; omega
          case rel => exact ⟨i + 1, by rw [wrap_next i (by have := HALL.out.1; omega)], ⟨by have := HI.out; omega⟩, ⟨by have := HK1.out; omega⟩, ⟨by (with_reducible repeat (first | apply Kd.R_alloc | apply Kd.R_drewN | apply Kd.R_drew)); exact HO.out⟩, ⟨by repeat (first | (with_reducible first | exact HB1.out | apply below_alloc | apply pw_below_drewN | apply below_drew1) | exact HB1.out)⟩⟩
        | zero =>
          have hi : i = l0.length := by have := HI.out; omega
          subst hi
          have q1 : decide ((l0.length : Int) < (l0.length : Int)) = false := decide_eq_false (by omega)
          have HS := Aside0.mk (sort_bes w.heap.size A0 c0 l0 w3 HL3.out HX3.out (Kd.C_below HR0.out HB3.out) HALL.out.1 u6 wr HB1.out HO.out)
          obtain ⟨A6, c6, e6⟩ := Kd.R_slice HO.out
          rw [upN_length] at e6
          subst e6
          go_wp2_with (first | (go_at_call 36; refine HS.out.mono ?_; rintro e w4 ⟨rfl, ho4, hb4⟩; have HO4 := Aside0.mk ho4; have HB4 := Aside0.mk (below_step HB3.out hb4); have hx4 : w4.cell? ⟨w.heap.size, 0, none⟩ = some (.slice A0 l0.length c0) := (blk_cell ((hb4.block _ HL3.out).trans HX3.out) 0).trans rfl; clear ho4 hb4) | (go_at_call 33; refine (slices_Clone_int_int.calls A0 c0 l0 l0 _ (Kd.C_below HR0.out HB4.out) HC0.out (if_pos (by have := HALL.out.1; omega))).mono ?_; rintro e w5 ⟨v5, rfl, ho5, hb5⟩; have HO6 := Aside0.mk (Kd.R_lower (Kd.R_elder' HO4.out (Kd.R_base ho5) hb5) HB3.out.size); have HO5 := Aside0.mk (Kd.R_lower ho5 HB4.out.size); have HB5 := Aside0.mk (below_step HB4.out hb5); clear ho5 hb5))
          obtain ⟨A5, c5, e5⟩ := Kd.R_slice HO5.out
          subst e5
          clear HO HB1 HS HO4 HB4 hx4 hcy HX3 HL3 HB3 q1
          have hq0 : (0 : Nat) ≤ l0.length := Nat.zero_le _
          go_loopg [43] l0.length (fun kq v43 w' => ∃ i : Nat, v43 = .int .i64 (i : Int) ∧ Aside0 (i + kq = l0.length) ∧ Aside0 (kq ≤ l0.length) ∧ Aside0 (Kd.R (Kd.int .i64) 3 w' w.heap.size (fun k_ => True ∧ some k_ ≠ (Value.slice A5 l0.length c5).ownBlock) (.slice A6 l0.length c6) (fairL l0)) ∧ Aside0 (Kd.R (Kd.int .i64) 3 w' w.heap.size (fun _ => True) (.slice A5 l0.length c5) (besL l0 i)) ∧ Aside0 (Below w.heap.size w w'))
          case atStart => exact ⟨0, rfl, ⟨by omega⟩, ⟨Nat.le_refl _⟩, HO6, HO5, HB5⟩
          case round =>
            clear HO6 HO5 HB5
            obtain ⟨i, rfl, HI, HK1, HO6, HO5, HB5⟩ := hrel
            cases gk with
            | zero =>
              have hi : i = l0.length := by have := HI.out; omega
              subst hi
              have q1 : decide ((l0.length : Int) < (l0.length : Int)) = false := decide_eq_false (by omega)
              go_wp2
              go_ret2
              exact ⟨_, rfl, HO5.out, HB5.out⟩
            | succ k1 =>
              have hi : i < l0.length := by have := HI.out; omega
              have q1 : decide ((i : Int) < (l0.length : Int)) = true := decide_eq_true (by omega)
              obtain ⟨ad6, e6, hx6⟩ := Kd.at_int (Kd.R_reads' HO6.out).2.2 (i : Int) (by omega) (by rw [fairL_length]; omega)
              cases e6
              rw [Int.toNat_natCast] at hx6
              have hkb : 0 ≤ rd (fairL l0) (i : Int) ∧ rd (fairL l0) (i : Int) < (l0.length : Int) := by
                have hm : rd (fairL l0) (i : Int) ∈ fairL l0 := by
                  unfold rd
                  rw [Int.toNat_natCast, List.getD_eq_getElem?_getD, List.getElem?_eq_getElem (by rw [fairL_length]; exact hi)]
                  exact List.getElem_mem _
                exact of_decide_eq_true (List.all_eq_true.1 HALL.out.2 _ hm)
              obtain ⟨kk, hkk⟩ : ∃ kk, kk = rd (fairL l0) (i : Int) := ⟨_, rfl⟩
              rw [← hkk] at hx6 hkb
              have NK := Aside0.mk hkk
              clear hkk
              obtain ⟨hk0, hk1⟩ := hkb
              obtain ⟨ad5, e5, hx5⟩ := Kd.at_int (Kd.R_reads' HO5.out).2.2 kk hk0 (by rw [besL_length]; exact hk1)
              cases e5
              obtain ⟨go5, co5, eo5, gb5, gl5, cl5, HG5⟩ := Kd.R_form HO5.out (by rw [besL_length]; omega)
              injection eo5 with ea en ec
              injection ea with ea
              subst ea
              subst ec
              have GB5 := Aside0.mk gb5
              clear en gb5 gl5 HG5
              obtain ⟨hx50, hf50⟩ := Kd.R_celln 0 HO5.out kk hk0 hk1
              simp only [add_plain] at hx5
              clear hx50
              obtain ⟨y, hy⟩ : ∃ y, y = rd (besL l0 i) kk := ⟨_, rfl⟩
              rw [← hy] at hx5
              have HP := Aside0.mk (Kd.R_putg HO5.out kk (wrap64 (y + (i : Int))))
              have NY := Aside0.mk (show (besL l0 i).set kk.toNat (wrap64 (y + (i : Int))) = besL l0 (i + 1) by rw [hy, NK.out]; rfl)
              clear hy
              have p1 : ((0 : Int) ≤ (i : Int)) = True := eq_true (by omega)
              have p2 : ((i : Int) < (l0.length : Int)) = True := eq_true (by omega)
              replace hk0 := eq_true hk0
              replace hk1 := eq_true hk1
              go_wp2_with (first | ((with_reducible refine gate_store (t := 3) (p := 54) rfl ?_); refine store_event (t := 3) (p := 54) (v := ?vo_w21) (w1 := (wr.setCell ⟨go5, kk.toNat, none⟩ (.int .i64 (wrap64 (y + (i : Int)))))) ?hg ?ho ?hn ?hr ?_; (case ho => rfl); (case hg => rfl); (case hn => rfl); (case hr => first | (go_simp; done) | (go_simp; rfl)); intro w21 hw; have hg : wr.grownBy w21 (some go5) := (by rw [hw]; exact HP.out.2); have hp_ : Kd.R (Kd.int .i64) 3 w21 w.heap.size (fun _ => True) (.slice (some ⟨go5, 0, none⟩) l0.length c5) (besL l0 (i + 1)) := (by rw [hw, ← NY.out]; exact HP.out.1); have n0_ := Aside0.mk hp_; have n1_ := Aside0.mk (Kd.R_after (v := (.slice (some ⟨go5, 0, none⟩) l0.length c5)) (v1 := (.slice (some ⟨go5, 0, none⟩) l0.length c5)) (ok := (fun _ => True)) HO6.out hg (.inl rfl)); have n2_ := Aside0.mk ((by rw [hw]; exact below_set (HB5.out) GB5.out : Below w.heap.size w w21)); clear HP HO5 HO6 HB5; have HO5 := n0_; have HO6 := n1_; have HB5 := n2_; clear n0_ n1_ n2_; clear hg hw hp_))
              go_roundg k1
              case measure => have := HK1.out; omega
              case rel => exact ⟨i + 1, by rw [wrap_next i (by have := HALL.out.1; omega)], ⟨by have := HI.out; omega⟩, ⟨by have := HK1.out; omega⟩, HO6, HO5, HB5⟩

/-! ### spec_BesideSlope: function 19 -/
mutual
def spec_BesideSlope.j0 : Nat → List Int → Bool → Option (List Int × Bool)
  | 0, _, _ => none
  | k + 1, x0, x25 => if x25 = true then (some (([] : List Int), false)) else (spec_BesideSlope.l0 k x0 ([] : List Int) x0 (x0.length : Int) 0)
def spec_BesideSlope.l0 : Nat → List Int → List Int → List Int → Int → Int → Option (List Int × Bool)
  | 0, _, _, _, _, _ => none
  | k + 1, x0, x6, x26, x27, x28 => if x28 < x27 then (if 0 ≤ x28 then (if x28 < (x26.length : Int) then (spec_BesideSlope.l1 k x0 x6 x28 (rd x26 x28) 0 x26 x27 x28 x0 (x0.length : Int) 0) else (none)) else (none)) else (some (x6, true))
def spec_BesideSlope.l1 : Nat → List Int → List Int → Int → Int → Int → List Int → Int → Int → List Int → Int → Int → Option (List Int × Bool)
  | 0, _, _, _, _, _, _, _, _, _, _, _ => none
  | k + 1, x0, x6, x7, x8, x9, x26, x27, x28, x33, x34, x35 => if x35 < x34 then (if 0 ≤ x35 then (if x35 < (x33.length : Int) then (if (rd x33 x35) < x8 then (spec_BesideSlope.l1 k x0 x6 x7 x8 (wrap64 (x9 + 1)) x26 x27 x28 x33 x34 (wrap64 (x35 + 1))) else (if (rd x33 x35) = x8 then (if x35 < x7 then (spec_BesideSlope.l1 k x0 x6 x7 x8 (wrap64 (x9 + 1)) x26 x27 x28 x33 x34 (wrap64 (x35 + 1))) else (spec_BesideSlope.l1 k x0 x6 x7 x8 x9 x26 x27 x28 x33 x34 (wrap64 (x35 + 1)))) else (spec_BesideSlope.l1 k x0 x6 x7 x8 x9 x26 x27 x28 x33 x34 (wrap64 (x35 + 1))))) else (none)) else (none)) else (if x6.length < 17592186044416 then (spec_BesideSlope.l0 k x0 (x6 ++ [wrap64 (x8 + x9)]) x26 x27 (wrap64 (x28 + 1))) else (none))
end
def spec_BesideSlope.f (k : Nat) (l0 : List Int) (a1 : Int) : Option (List Int × Bool) := (spec_slGood.f k l0 a1).bind fun t429 => (if t429 = true then ((spec_slIs.f k (l0.length : Int) (wrap64 (a1 + (l0.length : Int)))).bind fun t430 => (spec_BesideSlope.j0 k l0 (!t430))) else (spec_BesideSlope.j0 k l0 true))
theorem spec_BesideSlope.mono_l : ∀ k, (∀ y0 y1, LeO (spec_BesideSlope.j0 k y0 y1) (spec_BesideSlope.j0 (k + 1) y0 y1)) ∧ (∀ y0 y1 y2 y3 y4, LeO (spec_BesideSlope.l0 k y0 y1 y2 y3 y4) (spec_BesideSlope.l0 (k + 1) y0 y1 y2 y3 y4)) ∧ (∀ y0 y1 y2 y3 y4 y5 y6 y7 y8 y9 y10, LeO (spec_BesideSlope.l1 k y0 y1 y2 y3 y4 y5 y6 y7 y8 y9 y10) (spec_BesideSlope.l1 (k + 1) y0 y1 y2 y3 y4 y5 y6 y7 y8 y9 y10))
  | 0 => ⟨fun _ _ r h => by simp [spec_BesideSlope.j0] at h, fun _ _ _ _ _ r h => by simp [spec_BesideSlope.l0] at h, fun _ _ _ _ _ _ _ _ _ _ _ r h => by simp [spec_BesideSlope.l1] at h⟩
  | k + 1 => by
    obtain ⟨ih0, ih1, ih2⟩ := spec_BesideSlope.mono_l k
    refine ⟨?_, ?_, ?_⟩
    · intro y0 y1
      unfold spec_BesideSlope.j0
      repeat' first
      | (with_reducible exact ih0 _ _)
      | (with_reducible exact ih1 _ _ _ _ _)
      | (with_reducible exact ih2 _ _ _ _ _ _ _ _ _ _ _)
      | (with_reducible exact spec_slGood.mono _ _ _)
      | (with_reducible exact spec_slIs.mono _ _ _)
      | (with_reducible exact LeO.refl _)
      | (with_reducible exact LeO.none _)
      | (with_reducible refine LeO.ite ?_ ?_)
      | (with_reducible refine LeO.bind ?_ (fun _ => ?_))
      | exact ih0 _ _
      | exact ih1 _ _ _ _ _
      | exact ih2 _ _ _ _ _ _ _ _ _ _ _
      | exact spec_slGood.mono _ _ _
      | exact spec_slIs.mono _ _ _
      | exact LeO.none _
      | refine LeO.ite ?_ ?_
      | refine LeO.bind ?_ (fun _ => ?_)
    · intro y0 y1 y2 y3 y4
      unfold spec_BesideSlope.l0
      repeat' first
      | (with_reducible exact ih0 _ _)
      | (with_reducible exact ih1 _ _ _ _ _)
      | (with_reducible exact ih2 _ _ _ _ _ _ _ _ _ _ _)
      | (with_reducible exact spec_slGood.mono _ _ _)
      | (with_reducible exact spec_slIs.mono _ _ _)
      | (with_reducible exact LeO.refl _)
      | (with_reducible exact LeO.none _)
      | (with_reducible refine LeO.ite ?_ ?_)
      | (with_reducible refine LeO.bind ?_ (fun _ => ?_))
      | exact ih0 _ _
      | exact ih1 _ _ _ _ _
      | exact ih2 _ _ _ _ _ _ _ _ _ _ _
      | exact spec_slGood.mono _ _ _
      | exact spec_slIs.mono _ _ _
      | exact LeO.none _
      | refine LeO.ite ?_ ?_
      | refine LeO.bind ?_ (fun _ => ?_)
    · intro y0 y1 y2 y3 y4 y5 y6 y7 y8 y9 y10
      unfold spec_BesideSlope.l1
      repeat' first
      | (with_reducible exact ih0 _ _)
      | (with_reducible exact ih1 _ _ _ _ _)
      | (with_reducible exact ih2 _ _ _ _ _ _ _ _ _ _ _)
      | (with_reducible exact spec_slGood.mono _ _ _)
      | (with_reducible exact spec_slIs.mono _ _ _)
      | (with_reducible exact LeO.refl _)
      | (with_reducible exact LeO.none _)
      | (with_reducible refine LeO.ite ?_ ?_)
      | (with_reducible refine LeO.bind ?_ (fun _ => ?_))
      | exact ih0 _ _
      | exact ih1 _ _ _ _ _
      | exact ih2 _ _ _ _ _ _ _ _ _ _ _
      | exact spec_slGood.mono _ _ _
      | exact spec_slIs.mono _ _ _
      | exact LeO.none _
      | refine LeO.ite ?_ ?_
      | refine LeO.bind ?_ (fun _ => ?_)
theorem spec_BesideSlope.mono : ∀ a0 a1 k, LeO (spec_BesideSlope.f k a0 a1) (spec_BesideSlope.f (k + 1) a0 a1) := by
  intro a0 a1 k
  obtain ⟨ih0, ih1, ih2⟩ := spec_BesideSlope.mono_l k
  unfold spec_BesideSlope.f
  repeat' first
      | (with_reducible exact ih0 _ _)
      | (with_reducible exact ih1 _ _ _ _ _)
      | (with_reducible exact ih2 _ _ _ _ _ _ _ _ _ _ _)
      | (with_reducible exact spec_slGood.mono _ _ _)
      | (with_reducible exact spec_slIs.mono _ _ _)
      | (with_reducible exact LeO.refl _)
      | (with_reducible exact LeO.none _)
      | (with_reducible refine LeO.ite ?_ ?_)
      | (with_reducible refine LeO.bind ?_ (fun _ => ?_))
      | exact ih0 _ _
      | exact ih1 _ _ _ _ _
      | exact ih2 _ _ _ _ _ _ _ _ _ _ _
      | exact spec_slGood.mono _ _ _
      | exact spec_slIs.mono _ _ _
      | exact LeO.none _
      | refine LeO.ite ?_ ?_
      | refine LeO.bind ?_ (fun _ => ?_)
set_option maxHeartbeats 8000000 in
set_option maxRecDepth 100000 in
theorem spec_BesideSlope.calls (k : Nat) (A0 : Option Addr) (c0 : Nat) (l0 : List Int) (a1 : Int) (r1 : List Int) (r2 : Bool) (w : World) (hr0 : Kd.C (Kd.int .i64) w A0 l0.length l0) (hc0 : l0.length ≤ c0) (h : spec_BesideSlope.f k l0 a1 = some (r1, r2)) :
    Calls Try.prog 19 #[.slice A0 l0.length c0, .int .i64 a1] w fun e w' => ∃ v0_ : Value, e = .returned (.tuple #[v0_, .bool r2]) ∧ Kd.R (Kd.int .i64) 3 w' w.heap.size (fun _ => True) v0_ r1 ∧ Below w.heap.size w w' := by
  have HR0 := Aside0.mk hr0
  have HC0 := Aside0.mk hc0
  clear hr0 hc0
  have HB := Aside0.mk (Below.refl w.heap.size w)
  have H : ((spec_slGood.f k l0 a1).bind fun t429 => (if t429 = true then ((spec_slIs.f k (l0.length : Int) (wrap64 (a1 + (l0.length : Int)))).bind fun t430 => (spec_BesideSlope.j0 k l0 (!t430))) else (spec_BesideSlope.j0 k l0 true))) = some (r1, r2) := h
  clear h
  have HC3 := Aside0.mk H
  clear H
  go_enter Try.func19, Try.ntmps19
  go_upto_region 1 with (fail)
  go_cut [25] (fun v25 wc => ∃ (kq : Nat) (x25_2 : Bool), v25 = .bool x25_2 ∧ Aside0 (spec_BesideSlope.j0 kq l0 x25_2 = some (r1, r2)) ∧ Aside0 (kq ≤ k) ∧ Aside0 (Below w.heap.size w wc))
  case first =>
    have H := HC3.out
    clear HC3
    replace H := Option.bind_eq_some_iff.mp H
    obtain ⟨t429, A40, H⟩ := H
    replace H : (if t429 = true then ((spec_slIs.f k (l0.length : Int) (wrap64 (a1 + (l0.length : Int)))).bind fun t430 => (spec_BesideSlope.j0 k l0 (!t430))) else (spec_BesideSlope.j0 k l0 true)) = some (r1, r2) := H
    have A4 := Aside0.mk A40
    clear A40
    by_cases c5 : t429 = true
    · subst c5
      have H1 : ((spec_slIs.f k (l0.length : Int) (wrap64 (a1 + (l0.length : Int)))).bind fun t430 => (spec_BesideSlope.j0 k l0 (!t430))) = some (r1, r2) := by rw [if_pos rfl] at H; exact H
      clear H
      have H := H1
      clear H1
      replace H := Option.bind_eq_some_iff.mp H
      obtain ⟨t430, A60, H⟩ := H
      replace H : (spec_BesideSlope.j0 k l0 (!t430)) = some (r1, r2) := H
      have A6 := Aside0.mk A60
      clear A60
      have H' := Aside0.mk H
      clear H
      go_wp2_with (first | ((with_reducible refine gate_callee (f := 25) rfl ?_); refine goesL_ (some 14) rfl rfl Try.func25 (by kernel_rfl) rfl #[.slice A0 l0.length c0, .int .i64 a1] rfl (by (try simp only [List.map_toArray, List.map_cons, List.map_nil]); first | done | rfl | (simp only [List.length_drop, List.length_take]; rfl)) ?_; (with_reducible refine (spec_slGood.calls k _ _ l0 a1 true _ ?side1 ?side2 A4.out).mono ?_); (case side1 => repeat (first | exact (Kd.C_below HR0.out HB.out) | (with_reducible refine Kd.C_alloc ?_ _) | (with_reducible refine Kd.C_drewN ?_ _) | (with_reducible refine Kd.C_drew ?_))); (case side2 => exact HC0.out); rintro e w7 ⟨rfl, hb⟩; refine ⟨_, rfl, ?_⟩; have n0_ := Aside0.mk (below_step (by repeat (first | (with_reducible first | exact HB.out | apply below_alloc | apply pw_below_drewN | apply below_drew1) | exact HB.out)) hb); clear HB; have HB := n0_; clear n0_; (try clear hb); (try clear hb2); (try clear hk); (try clear hi)) | (go_at_call 30; (with_reducible refine (spec_slIs.calls k (l0.length : Int) (wrap64 (a1 + (l0.length : Int))) t430 _ A6.out).mono ?_); rintro e w' ⟨rfl, ⟨nd, rfl⟩⟩))
      go_meet
      case rel => exact ⟨_, (!t430), (by first | rfl | (simp; done) | (simp [*]; done)), H', ⟨by first | omega | exact Nat.le_refl _⟩, ⟨by repeat (first | (with_reducible first | exact HB.out | apply below_alloc | apply pw_below_drewN | apply below_drew1) | exact HB.out)⟩⟩
    · replace c5 := Bool.eq_false_iff.mpr c5
      subst c5
      have H1 : (spec_BesideSlope.j0 k l0 true) = some (r1, r2) := by rw [if_neg (show ¬ (false = true) by decide)] at H; exact H
      clear H
      have H := H1
      clear H1
      have H' := Aside0.mk H
      clear H
      go_wp2_with (first | ((with_reducible refine gate_callee (f := 25) rfl ?_); refine goesL_ (some 14) rfl rfl Try.func25 (by kernel_rfl) rfl #[.slice A0 l0.length c0, .int .i64 a1] rfl (by (try simp only [List.map_toArray, List.map_cons, List.map_nil]); first | done | rfl | (simp only [List.length_drop, List.length_take]; rfl)) ?_; (with_reducible refine (spec_slGood.calls k _ _ l0 a1 false _ ?side1 ?side2 A4.out).mono ?_); (case side1 => repeat (first | exact (Kd.C_below HR0.out HB.out) | (with_reducible refine Kd.C_alloc ?_ _) | (with_reducible refine Kd.C_drewN ?_ _) | (with_reducible refine Kd.C_drew ?_))); (case side2 => exact HC0.out); rintro e w8 ⟨rfl, hb⟩; refine ⟨_, rfl, ?_⟩; have n0_ := Aside0.mk (below_step (by repeat (first | (with_reducible first | exact HB.out | apply below_alloc | apply pw_below_drewN | apply below_drew1) | exact HB.out)) hb); clear HB; have HB := n0_; clear n0_; (try clear hb); (try clear hb2); (try clear hk); (try clear hi)))
      go_meet
      case rel => exact ⟨_, (true), (by first | rfl | (simp; done) | (simp [*]; done)), H', ⟨by first | omega | exact Nat.le_refl _⟩, ⟨by repeat (first | (with_reducible first | exact HB.out | apply below_alloc | apply pw_below_drewN | apply below_drew1) | exact HB.out)⟩⟩
  case rest =>
    clear HC3
    try clear c1
    try clear c2
    try clear p2
    try clear c5
    try clear p6
    obtain ⟨kq, x25_2, rfl, HA, HJ2, HB⟩ := hcut
    cases kq with
    | zero => exact absurd HA.out (by simp [spec_BesideSlope.j0])
    | succ kj2 =>
      have H := HA.out
      clear HA
      simp only [spec_BesideSlope.j0] at H
      by_cases c9 : x25_2 = true
      · subst c9
        have H1 : (some (([] : List Int), false)) = some (r1, r2) := by rw [if_pos rfl] at H; exact H
        clear H
        have H := H1
        clear H1
        simp only [Option.some.injEq, Prod.mk.injEq] at H
        obtain ⟨rfl, rfl⟩ := H
        go_wp2
        go_ret2
        exact ⟨_, by first | rfl | (simp [errW_none, errW_some] <;> rfl) | (simp [*, errW_none, errW_some] <;> rfl), by first | exact Kd.R_nil _ _ _ _ _ | exact Kd.N_nil _ _ _ _ _ | exact Kd.V_nil _ _ _ _ _ | exact Kd.Q_nil _ _ _ _ _ | exact Kd.S_nil _ _ _ _ _, by repeat (first | (with_reducible first | exact HB.out | apply below_alloc | apply pw_below_drewN | apply below_drew1) | exact HB.out)⟩
      · replace c9 := Bool.eq_false_iff.mpr c9
        subst c9
        have H1 : (spec_BesideSlope.l0 kj2 l0 ([] : List Int) l0 (l0.length : Int) 0) = some (r1, r2) := by rw [if_neg (show ¬ (false = true) by decide)] at H; exact H
        clear H
        have H := H1
        clear H1
        have H' := Aside0.mk H
        clear H
        go_wp2
        go_loopg [6, 28] kj2 (fun kq v6 v28 w' => ∃ (x6_2 : List Int) (x28_2 : Int), v28 = .int .i64 x28_2 ∧ Aside0 (spec_BesideSlope.l0 kq l0 x6_2 l0 (l0.length : Int) x28_2 = some (r1, r2)) ∧ Aside0 (kq ≤ kj2) ∧ Aside0 (Kd.R (Kd.int .i64) 3 w' w.heap.size (fun _ => True) v6 x6_2) ∧ Aside0 (Below w.heap.size w w'))
        case atStart => exact ⟨(([] : List Int)), (0), (by first | rfl | (simp; done) | (simp [*]; done)), H', ⟨Nat.le_refl _⟩, ⟨by first | exact Kd.R_nil _ _ _ _ _ | exact Kd.N_nil _ _ _ _ _ | exact Kd.V_nil _ _ _ _ _ | exact Kd.Q_nil _ _ _ _ _ | exact Kd.S_nil _ _ _ _ _⟩, ⟨by repeat (first | (with_reducible first | exact HB.out | apply below_alloc | apply pw_below_drewN | apply below_drew1) | exact HB.out)⟩⟩
        case round =>
          clear H'
          try clear c1
          try clear c2
          try clear p2
          try clear c5
          try clear p6
          try clear c9
          try clear p2
          try clear p6
          obtain ⟨x6_2, x28_2, rfl, HA, HK2, HO_6, HB⟩ := hrel
          cases gk with
          | zero => exact absurd HA.out (by simp [spec_BesideSlope.l0])
          | succ k2 =>
            have H := HA.out
            clear HA
            simp only [spec_BesideSlope.l0] at H
            by_cases c10 : x28_2 < (l0.length : Int)
            · rw [if_pos c10] at H
              have c10b0 : decide (x28_2 < (l0.length : Int)) = true := decide_eq_true c10
              clear c10
              by_cases c11 : 0 ≤ x28_2
              · rw [if_pos c11] at H
                have c11b0 : decide (0 ≤ x28_2) = true := decide_eq_true c11
                clear c11
                by_cases c12 : x28_2 < (l0.length : Int)
                · rw [if_pos c12] at H
                  have c12b0 : decide (x28_2 < (l0.length : Int)) = true := decide_eq_true c12
                  clear c12
                  have H' := Aside0.mk H
                  clear H
                  have p431 : 0 ≤ (x28_2 : Int) := of_decide_eq_true (by first | (with_reducible assumption) | assumption)
                  have q431 : x28_2 < (l0.length : Int) := of_decide_eq_true (by first | (with_reducible assumption) | assumption)
                  obtain ⟨ad431, e431, hx431_0⟩ := Kd.at_int HR0.out x28_2 p431 q431
                  cases e431
                  replace hx431_0 := (HB.out.cell (World.block_lt_of_cell? w _ hx431_0)).trans hx431_0
                  replace p431 := eq_true p431
                  replace q431 := eq_true q431
                  go_wp2
                  go_loopg [9, 35] k2 (fun kq v9 v35 w' => ∃ (x9_3 : Int) (x35_3 : Int), v9 = .int .i64 x9_3 ∧ v35 = .int .i64 x35_3 ∧ Aside0 (spec_BesideSlope.l1 kq l0 x6_2 x28_2 (rd l0 x28_2) x9_3 l0 (l0.length : Int) x28_2 l0 (l0.length : Int) x35_3 = some (r1, r2)) ∧ Aside0 (kq ≤ k2) ∧ Aside0 (Kd.R (Kd.int .i64) 3 w' w.heap.size (fun _ => True) u6 x6_2) ∧ Aside0 (Below w.heap.size w w'))
                  case atStart => exact ⟨(0), (0), (by first | rfl | (simp; done) | (simp [*]; done)), (by first | rfl | (simp; done) | (simp [*]; done)), H', ⟨Nat.le_refl _⟩, ⟨by (with_reducible repeat (first | apply Kd.R_alloc | apply Kd.R_drewN | apply Kd.R_drew)); exact HO_6.out⟩, ⟨by repeat (first | (with_reducible first | exact HB.out | apply below_alloc | apply pw_below_drewN | apply below_drew1) | exact HB.out)⟩⟩
                  case round =>
                    clear H'
                    try clear c1
                    try clear c2
                    try clear p2
                    try clear p4
                    try clear q4
                    try clear hx4
                    try clear c5
                    try clear p6
                    try clear c9
                    try clear c10
                    try clear c10b0
                    try clear c11
                    try clear c11b0
                    try clear c12
                    try clear c12b0
                    try clear hx431_0
                    try clear p2
                    try clear p431
                    try clear p6
                    try clear q431
                    obtain ⟨x9_3, x35_3, rfl, rfl, HA, HK3, HO_6, HB⟩ := hrel
                    cases gk with
                    | zero => exact absurd HA.out (by simp [spec_BesideSlope.l1])
                    | succ k3 =>
                      have H := HA.out
                      clear HA
                      simp only [spec_BesideSlope.l1] at H
                      by_cases c13 : x35_3 < (l0.length : Int)
                      · rw [if_pos c13] at H
                        have c13b0 : decide (x35_3 < (l0.length : Int)) = true := decide_eq_true c13
                        clear c13
                        by_cases c14 : 0 ≤ x35_3
                        · rw [if_pos c14] at H
                          have c14b0 : decide (0 ≤ x35_3) = true := decide_eq_true c14
                          clear c14
                          by_cases c15 : x35_3 < (l0.length : Int)
                          · rw [if_pos c15] at H
                            have c15b0 : decide (x35_3 < (l0.length : Int)) = true := decide_eq_true c15
                            clear c15
                            by_cases c16 : (rd l0 x35_3) < (rd l0 x28_2)
                            · rw [if_pos c16] at H
                              have c16b0 : decide ((rd l0 x35_3) < (rd l0 x28_2)) = true := decide_eq_true c16
                              clear c16
                              have H' := Aside0.mk H
                              clear H
                              have p432 : 0 ≤ (x35_3 : Int) := of_decide_eq_true (by first | (with_reducible assumption) | assumption)
                              have q432 : x35_3 < (l0.length : Int) := of_decide_eq_true (by first | (with_reducible assumption) | assumption)
                              obtain ⟨ad432, e432, hx432_0⟩ := Kd.at_int HR0.out x35_3 p432 q432
                              obtain rfl : ad431 = ad432 := (by injection e432)
                              replace hx432_0 := (HB.out.cell (World.block_lt_of_cell? w _ hx432_0)).trans hx432_0
                              replace p432 := eq_true p432
                              replace q432 := eq_true q432
                              go_wp2
                              go_roundg k3
                              case measure => have := HJ2.out; have := HK2.out; have := HK3.out; omega
                              case rel => exact ⟨(wrap64 (x9_3 + 1)), (wrap64 (x35_3 + 1)), (by first | rfl | (simp; done) | (simp [*]; done)), (by first | rfl | (simp; done) | (simp [*]; done)), H', ⟨by have := HJ2.out; have := HK2.out; have := HK3.out; omega⟩, ⟨by (with_reducible repeat (first | apply Kd.R_alloc | apply Kd.R_drewN | apply Kd.R_drew)); exact HO_6.out⟩, ⟨by repeat (first | (with_reducible first | exact HB.out | apply below_alloc | apply pw_below_drewN | apply below_drew1) | exact HB.out)⟩⟩
                            · rw [if_neg c16] at H
                              have c16b0 : decide ((rd l0 x35_3) < (rd l0 x28_2)) = false := decide_eq_false c16
                              clear c16
                              by_cases c17 : (rd l0 x35_3) = (rd l0 x28_2)
                              · rw [if_pos c17] at H
                                have c17b0 : ((rd l0 x35_3) == (rd l0 x28_2)) = true := beq_iff_eq.mpr c17
                                have c17b1 : ((rd l0 x35_3) != (rd l0 x28_2)) = false := bne_eq_false_iff_eq.mpr c17
                                clear c17
                                by_cases c18 : x35_3 < x28_2
                                · rw [if_pos c18] at H
                                  have c18b0 : decide (x35_3 < x28_2) = true := decide_eq_true c18
                                  clear c18
                                  have H' := Aside0.mk H
                                  clear H
                                  have p432 : 0 ≤ (x35_3 : Int) := of_decide_eq_true (by first | (with_reducible assumption) | assumption)
                                  have q432 : x35_3 < (l0.length : Int) := of_decide_eq_true (by first | (with_reducible assumption) | assumption)
                                  obtain ⟨ad432, e432, hx432_0⟩ := Kd.at_int HR0.out x35_3 p432 q432
                                  obtain rfl : ad431 = ad432 := (by injection e432)
                                  replace hx432_0 := (HB.out.cell (World.block_lt_of_cell? w _ hx432_0)).trans hx432_0
                                  replace p432 := eq_true p432
                                  replace q432 := eq_true q432
                                  go_wp2
                                  go_roundg k3
                                  case measure => have := HJ2.out; have := HK2.out; have := HK3.out; omega
                                  case rel => exact ⟨(wrap64 (x9_3 + 1)), (wrap64 (x35_3 + 1)), (by first | rfl | (simp; done) | (simp [*]; done)), (by first | rfl | (simp; done) | (simp [*]; done)), H', ⟨by have := HJ2.out; have := HK2.out; have := HK3.out; omega⟩, ⟨by (with_reducible repeat (first | apply Kd.R_alloc | apply Kd.R_drewN | apply Kd.R_drew)); exact HO_6.out⟩, ⟨by repeat (first | (with_reducible first | exact HB.out | apply below_alloc | apply pw_below_drewN | apply below_drew1) | exact HB.out)⟩⟩
                                · rw [if_neg c18] at H
                                  have c18b0 : decide (x35_3 < x28_2) = false := decide_eq_false c18
                                  clear c18
                                  have H' := Aside0.mk H
                                  clear H
                                  have p432 : 0 ≤ (x35_3 : Int) := of_decide_eq_true (by first | (with_reducible assumption) | assumption)
                                  have q432 : x35_3 < (l0.length : Int) := of_decide_eq_true (by first | (with_reducible assumption) | assumption)
                                  obtain ⟨ad432, e432, hx432_0⟩ := Kd.at_int HR0.out x35_3 p432 q432
                                  obtain rfl : ad431 = ad432 := (by injection e432)
                                  replace hx432_0 := (HB.out.cell (World.block_lt_of_cell? w _ hx432_0)).trans hx432_0
                                  replace p432 := eq_true p432
                                  replace q432 := eq_true q432
                                  go_wp2
                                  go_roundg k3
                                  case measure => have := HJ2.out; have := HK2.out; have := HK3.out; omega
                                  case rel => exact ⟨(x9_3), (wrap64 (x35_3 + 1)), (by first | rfl | (simp; done) | (simp [*]; done)), (by first | rfl | (simp; done) | (simp [*]; done)), H', ⟨by have := HJ2.out; have := HK2.out; have := HK3.out; omega⟩, ⟨by (with_reducible repeat (first | apply Kd.R_alloc | apply Kd.R_drewN | apply Kd.R_drew)); exact HO_6.out⟩, ⟨by repeat (first | (with_reducible first | exact HB.out | apply below_alloc | apply pw_below_drewN | apply below_drew1) | exact HB.out)⟩⟩
                              · rw [if_neg c17] at H
                                have c17b0 : ((rd l0 x35_3) == (rd l0 x28_2)) = false := beq_eq_false_iff_ne.mpr c17
                                have c17b1 : ((rd l0 x35_3) != (rd l0 x28_2)) = true := bne_iff_ne.mpr c17
                                have H' := Aside0.mk H
                                clear H
                                have p432 : 0 ≤ (x35_3 : Int) := of_decide_eq_true (by first | (with_reducible assumption) | assumption)
                                have q432 : x35_3 < (l0.length : Int) := of_decide_eq_true (by first | (with_reducible assumption) | assumption)
                                obtain ⟨ad432, e432, hx432_0⟩ := Kd.at_int HR0.out x35_3 p432 q432
                                obtain rfl : ad431 = ad432 := (by injection e432)
                                replace hx432_0 := (HB.out.cell (World.block_lt_of_cell? w _ hx432_0)).trans hx432_0
                                replace p432 := eq_true p432
                                replace q432 := eq_true q432
                                go_wp2
                                go_roundg k3
                                case measure => have := HJ2.out; have := HK2.out; have := HK3.out; omega
                                case rel => exact ⟨(x9_3), (wrap64 (x35_3 + 1)), (by first | rfl | (simp; done) | (simp [*]; done)), (by first | rfl | (simp; done) | (simp [*]; done)), H', ⟨by have := HJ2.out; have := HK2.out; have := HK3.out; omega⟩, ⟨by (with_reducible repeat (first | apply Kd.R_alloc | apply Kd.R_drewN | apply Kd.R_drew)); exact HO_6.out⟩, ⟨by repeat (first | (with_reducible first | exact HB.out | apply below_alloc | apply pw_below_drewN | apply below_drew1) | exact HB.out)⟩⟩
                          · rw [if_neg c15] at H
                            exact absurd H (by simp)
                        · rw [if_neg c14] at H
                          exact absurd H (by simp)
                      · rw [if_neg c13] at H
                        have c13b0 : decide (x35_3 < (l0.length : Int)) = false := decide_eq_false c13
                        clear c13
                        by_cases c19 : x6_2.length < 17592186044416
                        · rw [if_pos c19] at H
                          have LMc19 := Aside0.mk c19
                          clear c19
                          obtain ⟨y433, hy433⟩ : ∃ y_ : List Int, y_ = (x6_2 ++ [wrap64 ((rd l0 x28_2) + x9_3)]) := ⟨_, rfl⟩
                          replace H : (spec_BesideSlope.l0 k3 l0 y433 l0 (l0.length : Int) (wrap64 (x28_2 + 1))) = some (r1, r2) := by first | (rw [hy433]; with_reducible exact H) | (have H2_ := (Option.bind_some _ _).symm.trans H; rw [hy433]; with_reducible exact H2_) | (have H2_ := (Option.bind_some _ _).symm.trans H; with_reducible exact H2_) | with_reducible exact H | (rw [hy433]; exact H) | exact H
                          have Ny433 := Aside0.mk hy433
                          clear hy433
                          have H' := Aside0.mk H
                          clear H
                          go_wp2_with (first | ((with_reducible refine gate_builtin (b := .append) (xs := #[.tmp 56, .tmp 60]) rfl ?_); (try (refine gate_guard (by rfl) ?_; dsimp only)); at_builtin; refine Kd.R_append (Kd.int .i64) (w0 := w) w.heap.size rfl (.tmp 56) (.tmp 60) 24 3 (.int .i64 0) 8 rfl Try.underlying24 info3 rfl (by decide) (by omega) u6 x6_2 (wrap64 ((rd l0 x28_2) + x9_3)) [.int .i64 (wrap64 ((rd l0 x28_2) + x9_3))] (fun _ => True) (fun _ => False) rfl rfl ?aP (fun _ hk => hk.elim) ?aF ?aO ?aB ?aS ?aL ?_; (case aP => exact rfl); (case aB => exact (by repeat (first | (with_reducible first | exact HB.out | apply below_alloc | apply pw_below_drewN | apply below_drew1) | exact HB.out))); (case aF => exact (fun _ _ => trivial)); (case aO => exact (by (with_reducible repeat (first | apply Kd.R_alloc | apply Kd.R_drewN | apply Kd.R_drew)); exact HO_6.out)); (case aS => exact (below_size (by repeat (first | (with_reducible first | exact HB.out | apply below_alloc | apply pw_below_drewN | apply below_drew1) | exact HB.out)))); (case aL => have := LMc19.out; omega); intro v434 w20 ho hb hg hat; rw [← Ny433.out] at ho; have n0_ := Aside0.mk (hb); have n1_ := Aside0.mk (ho); clear HB; clear HO_6; have HB := n0_; have HO435 := n1_; clear n0_ n1_; clear ho hb hg hat))
                          go_roundg k3
                          case measure => have := HJ2.out; have := HK2.out; have := HK3.out; omega
                          case rel => exact ⟨(y433), (wrap64 (x28_2 + 1)), (by first | rfl | (simp; done) | (simp [*]; done)), H', ⟨by have := HJ2.out; have := HK2.out; have := HK3.out; omega⟩, ⟨by (with_reducible repeat (first | apply Kd.R_alloc | apply Kd.R_drewN | apply Kd.R_drew)); exact HO435.out⟩, ⟨by repeat (first | (with_reducible first | exact HB.out | apply below_alloc | apply pw_below_drewN | apply below_drew1) | exact HB.out)⟩⟩
                        · rw [if_neg c19] at H
                          exact absurd H (by simp)
                · rw [if_neg c12] at H
                  exact absurd H (by simp)
              · rw [if_neg c11] at H
                exact absurd H (by simp)
            · rw [if_neg c10] at H
              have c10b0 : decide (x28_2 < (l0.length : Int)) = false := decide_eq_false c10
              clear c10
              simp only [Option.some.injEq, Prod.mk.injEq] at H
              obtain ⟨rfl, rfl⟩ := H
              go_wp2
              go_ret2
              exact ⟨_, by first | rfl | (simp [errW_none, errW_some] <;> rfl) | (simp [*, errW_none, errW_some] <;> rfl), by (with_reducible repeat (first | apply Kd.R_alloc | apply Kd.R_drewN | apply Kd.R_drew)); exact HO_6.out, by repeat (first | (with_reducible first | exact HB.out | apply below_alloc | apply pw_below_drewN | apply below_drew1) | exact HB.out)⟩

/-! ### impl_IsSlopeParking: function 20 -/
def impl_IsSlopeParking.f (k : Nat) (l0 : List Int) (a1 : Int) : Option (Bool × Bool) := (impl_isSlope.f k (l0.length : Int) a1).bind fun t436 => (if t436 = true then ((impl_isUnder.f k l0 a1).bind fun t437 => (some (t437, true))) else (some (false, false)))
theorem impl_IsSlopeParking.mono : ∀ a0 a1 k, LeO (impl_IsSlopeParking.f k a0 a1) (impl_IsSlopeParking.f (k + 1) a0 a1) := by
  intro a0 a1 k
  unfold impl_IsSlopeParking.f
  repeat' first
      | (with_reducible exact impl_isSlope.mono _ _ _)
      | (with_reducible exact impl_isUnder.mono _ _ _)
      | (with_reducible exact LeO.refl _)
      | (with_reducible exact LeO.none _)
      | (with_reducible refine LeO.ite ?_ ?_)
      | (with_reducible refine LeO.bind ?_ (fun _ => ?_))
      | exact impl_isSlope.mono _ _ _
      | exact impl_isUnder.mono _ _ _
      | exact LeO.none _
      | refine LeO.ite ?_ ?_
      | refine LeO.bind ?_ (fun _ => ?_)
set_option maxHeartbeats 8000000 in
set_option maxRecDepth 100000 in
theorem impl_IsSlopeParking.calls (k : Nat) (A0 : Option Addr) (c0 : Nat) (l0 : List Int) (a1 : Int) (r1 : Bool) (r2 : Bool) (w : World) (hr0 : Kd.C (Kd.int .i64) w A0 l0.length l0) (hc0 : l0.length ≤ c0) (h : impl_IsSlopeParking.f k l0 a1 = some (r1, r2)) :
    Calls Try.prog 20 #[.slice A0 l0.length c0, .int .i64 a1] w fun e w' => e = .returned (.tuple #[.bool r1, .bool r2]) ∧ Below w.heap.size w w' := by
  have HR0 := Aside0.mk hr0
  have HC0 := Aside0.mk hc0
  clear hr0 hc0
  have HB := Aside0.mk (Below.refl w.heap.size w)
  have H : ((impl_isSlope.f k (l0.length : Int) a1).bind fun t436 => (if t436 = true then ((impl_isUnder.f k l0 a1).bind fun t437 => (some (t437, true))) else (some (false, false)))) = some (r1, r2) := h
  clear h
  replace H := Option.bind_eq_some_iff.mp H
  obtain ⟨t436, A30, H⟩ := H
  replace H : (if t436 = true then ((impl_isUnder.f k l0 a1).bind fun t437 => (some (t437, true))) else (some (false, false))) = some (r1, r2) := H
  have A3 := Aside0.mk A30
  clear A30
  by_cases c4 : t436 = true
  · subst c4
    have H1 : ((impl_isUnder.f k l0 a1).bind fun t437 => (some (t437, true))) = some (r1, r2) := by rw [if_pos rfl] at H; exact H
    clear H
    have H := H1
    clear H1
    replace H := Option.bind_eq_some_iff.mp H
    obtain ⟨t437, A50, H⟩ := H
    replace H : (some (t437, true)) = some (r1, r2) := H
    have A5 := Aside0.mk A50
    clear A50
    simp only [Option.some.injEq, Prod.mk.injEq] at H
    obtain ⟨rfl, rfl⟩ := H
    go_enter Try.func20, Try.ntmps20
    go_wp2_with (first | ((with_reducible refine gate_callee (f := 29) rfl ?_); refine goesL_ (some 9) rfl rfl Try.func29 (by kernel_rfl) rfl #[.int .i64 (l0.length : Int), .int .i64 a1] rfl (by (try simp only [List.map_toArray, List.map_cons, List.map_nil]); first | done | rfl | (simp only [List.length_drop, List.length_take]; rfl)) ?_; (with_reducible refine (impl_isSlope.calls k (l0.length : Int) a1 true _ A3.out).mono ?_); rintro e w' ⟨rfl, ⟨nd, rfl⟩⟩; refine ⟨_, rfl, ?_⟩) | ((with_reducible refine gate_callee (f := 38) rfl ?_); refine goesL_ (some 13) rfl rfl Try.func38 (by kernel_rfl) rfl #[.slice A0 l0.length c0, .int .i64 a1] rfl (by (try simp only [List.map_toArray, List.map_cons, List.map_nil]); first | done | rfl | (simp only [List.length_drop, List.length_take]; rfl)) ?_; (with_reducible refine (impl_isUnder.calls k _ _ l0 a1 t437 _ ?side1 ?side2 A5.out).mono ?_); (case side1 => repeat (first | exact HR0.out | (with_reducible refine Kd.C_alloc ?_ _) | (with_reducible refine Kd.C_drewN ?_ _) | (with_reducible refine Kd.C_drew ?_))); (case side2 => exact HC0.out); rintro e w6 ⟨rfl, hb⟩; refine ⟨_, rfl, ?_⟩; have n0_ := Aside0.mk (below_step (by repeat (first | (with_reducible first | exact HB.out | apply below_alloc | apply pw_below_drewN | apply below_drew1) | exact HB.out)) hb); clear HB; have HB := n0_; clear n0_; (try clear hb); (try clear hb2); (try clear hk); (try clear hi)))
    go_ret2
    exact ⟨by first | rfl | (simp [errW_none, errW_some] <;> rfl) | (simp [*, errW_none, errW_some] <;> rfl), by repeat (first | (with_reducible first | exact HB.out | apply below_alloc | apply pw_below_drewN | apply below_drew1) | exact HB.out)⟩
  · replace c4 := Bool.eq_false_iff.mpr c4
    subst c4
    have H1 : (some (false, false)) = some (r1, r2) := by rw [if_neg (show ¬ (false = true) by decide)] at H; exact H
    clear H
    have H := H1
    clear H1
    simp only [Option.some.injEq, Prod.mk.injEq] at H
    obtain ⟨rfl, rfl⟩ := H
    go_enter Try.func20, Try.ntmps20
    go_wp2_with (first | ((with_reducible refine gate_callee (f := 29) rfl ?_); refine goesL_ (some 9) rfl rfl Try.func29 (by kernel_rfl) rfl #[.int .i64 (l0.length : Int), .int .i64 a1] rfl (by (try simp only [List.map_toArray, List.map_cons, List.map_nil]); first | done | rfl | (simp only [List.length_drop, List.length_take]; rfl)) ?_; (with_reducible refine (impl_isSlope.calls k (l0.length : Int) a1 false _ A3.out).mono ?_); rintro e w' ⟨rfl, ⟨nd, rfl⟩⟩; refine ⟨_, rfl, ?_⟩))
    go_ret2
    exact ⟨by first | rfl | (simp [errW_none, errW_some] <;> rfl) | (simp [*, errW_none, errW_some] <;> rfl), by repeat (first | (with_reducible first | exact HB.out | apply below_alloc | apply pw_below_drewN | apply below_drew1) | exact HB.out)⟩

end Go.Proofs.Ytflfbkobpdooeaa.PAll
