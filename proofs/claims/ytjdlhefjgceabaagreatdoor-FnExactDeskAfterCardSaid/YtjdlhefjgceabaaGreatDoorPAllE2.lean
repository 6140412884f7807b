import Derived.Test.YtjdlhefjgceabaaGreatDoorPAllA
import Derived.Test.YtjdlhefjgceabaaGreatDoorPAllC
namespace Go.Proofs.YtjdlhefjgceabaaGreatDoor.PAll
open Go.RowKit Go.Proofs.YtjdlhefjgceabaaGreatDoor.Hand Go.Proofs.YtjdlhefjgceabaaGreatDoorW.PrintWords Go.Proofs.YtjdlhefjgceabaaGreatDoorW.PrintLast Go.Proofs.YtjdlhefjgceabaaGreatDoorW.PrintMore
attribute [local go_sem] max2_int min2_int max_two min_two max_three min_three max_four min_four
set_option maxHeartbeats 8000000
set_option maxRecDepth 100000
set_option linter.unusedVariables false
set_option linter.unusedSimpArgs false
def laws_toIntS.l0 : Nat -> List Int -> List Int -> Int -> Option (List Int)
 | 0, _, _, _ => none
 | k + 1, x0, x3, x4 => if x4 < (x0.length : Int) then (if 0 <= x4 then (if x4 < (x3.length : Int) then (laws_toIntS.l0 k x0 (x3.set (x4 : Int).toNat (rd x0 x4)) (wrap64 (x4 + 1))) else (none)) else (none)) else (some x3)
def laws_toIntS.f (k : Nat) (l0 : List Int) : Option (List Int) := if 0 <= (l0.length : Int) then (if ((l0.length : Int) : Int).toNat <= 35184372088832 then (laws_toIntS.l0 k l0 (List.replicate ((l0.length : Int) : Int).toNat 0) 0) else (none)) else (none)
def laws_toTable.f (k : Nat) (l0_0 : List Int) : Option (List Int) := (laws_toIntS.f k l0_0).bind fun t616 => (some t616)
def laws_toDesk.f (k : Nat) (l0_0 : List Int) (l0_1 : List Int) : Option (List Int × List Int) := (laws_toIntS.f k l0_0).bind fun t622 => ((laws_toTable.f k l0_1).bind fun t625 => (some (t622, t625)))
def impl_IsDesk.f (k : Nat) (l0_0 : List Int) (l0_1 : List Int) : Option (Bool) := (impl_isParking.f k l0_0).bind fun t629 => (if t629 = true then ((impl_isTable.f k l0_1).bind fun t630 => (some t630)) else (some false))
mutual
def impl_driveBack.l0 : Nat -> Int -> Int -> List Bool -> List Int -> List Int -> Int -> Int -> Option (List Int × Bool)
 | 0, _, _, _, _, _, _, _ => none
 | k + 1, x1, x2, x8, x9, x16, x17, x18 => if x18 < x17 then (if 0 <= x18 then (if x18 < (x16.length : Int) then (impl_driveBack.l1 k x1 x2 x8 x9 (rd x16 x18) (rd x16 x18) x16 x17 x18) else (none)) else (none)) else (some (x9, true))
def impl_driveBack.j2 : Nat -> Int -> Int -> List Bool -> List Int -> Int -> Int -> List Int -> Int -> Int -> Option (List Int × Bool)
 | 0, _, _, _, _, _, _, _, _, _ => none
 | k + 1, x1, x2, x8, x9, x11, x12, x16, x17, x18 => if x12 < 0 then (impl_driveBack.j3 k x1 x2 x8 x9 x11 x12 x16 x17 x18 true) else (impl_driveBack.j3 k x1 x2 x8 x9 x11 x12 x16 x17 x18 (decide (x12 < (wrap64 (x11 - x2)))))
def impl_driveBack.j3 : Nat -> Int -> Int -> List Bool -> List Int -> Int -> Int -> List Int -> Int -> Int -> Bool -> Option (List Int × Bool)
 | 0, _, _, _, _, _, _, _, _, _, _ => none
 | k + 1, x1, x2, x8, x9, x11, x12, x16, x17, x18, x48 => if x48 = true then (impl_driveBack.l2 k x1 x2 x8 x9 x11 x16 x17 x18) else (if x12 = x1 then (some (([] : List Int), false)) else (if 0 <= x12 then (if x12 < (x8.length : Int) then (if x9.length < 17592186044416 then (impl_driveBack.l0 k x1 x2 (x8.set (x12 : Int).toNat true) (x9 ++ [x12]) x16 x17 (wrap64 (x18 + 1))) else (none)) else (none)) else (none)))
def impl_driveBack.l2 : Nat -> Int -> Int -> List Bool -> List Int -> Int -> List Int -> Int -> Int -> Option (List Int × Bool)
 | 0, _, _, _, _, _, _, _, _ => none
 | k + 1, x1, x2, x8, x9, x12, x16, x17, x18 => if x12 < x1 then (if 0 <= x12 then (if x12 < (x8.length : Int) then (if rdOf false x8 x12 = true then (impl_driveBack.l2 k x1 x2 x8 x9 (wrap64 (x12 + 1)) x16 x17 x18) else (if x12 = x1 then (some (([] : List Int), false)) else (if x9.length < 17592186044416 then (impl_driveBack.l0 k x1 x2 (x8.set (x12 : Int).toNat true) (x9 ++ [x12]) x16 x17 (wrap64 (x18 + 1))) else (none)))) else (none)) else (none)) else (if x12 = x1 then (some (([] : List Int), false)) else (if 0 <= x12 then (if x12 < (x8.length : Int) then (if x9.length < 17592186044416 then (impl_driveBack.l0 k x1 x2 (x8.set (x12 : Int).toNat true) (x9 ++ [x12]) x16 x17 (wrap64 (x18 + 1))) else (none)) else (none)) else (none)))
def impl_driveBack.l1 : Nat -> Int -> Int -> List Bool -> List Int -> Int -> Int -> List Int -> Int -> Int -> Option (List Int × Bool)
 | 0, _, _, _, _, _, _, _, _, _ => none
 | k + 1, x1, x2, x8, x9, x11, x12, x16, x17, x18 => if x12 >= 0 then (if x12 >= (wrap64 (x11 - x2)) then (if 0 <= x12 then (if x12 < (x8.length : Int) then (if rdOf false x8 x12 = true then (impl_driveBack.l1 k x1 x2 x8 x9 x11 (wrap64 (x12 - 1)) x16 x17 x18) else (impl_driveBack.j2 k x1 x2 x8 x9 x11 x12 x16 x17 x18)) else (none)) else (none)) else (impl_driveBack.j2 k x1 x2 x8 x9 x11 x12 x16 x17 x18)) else (impl_driveBack.j2 k x1 x2 x8 x9 x11 x12 x16 x17 x18)
end
def impl_driveBack.f (k : Nat) (l0 : List Int) (a1 : Int) (a2 : Int) : Option (List Int × Bool) := if 0 <= a1 then (if (a1 : Int).toNat <= 281474976710656 then (impl_driveBack.l0 k a1 a2 (List.replicate (a1 : Int).toNat false) (([] : List Int)) l0 (l0.length : Int) 0) else (none)) else (none)
theorem impl_driveBack.calls (k : Nat) (A0 : Option Addr) (c0 : Nat) (l0 : List Int) (a1 : Int) (a2 : Int) (r1 : List Int) (r2 : Bool) (w : World) (hr0 : Kd.C (Kd.int .i64) w A0 l0.length l0) (hc0 : l0.length <= c0) (h : impl_driveBack.f k l0 a1 a2 = some (r1, r2)) :
  Calls Tryz.prog 215 #[.slice A0 l0.length c0, .int .i64 a1, .int .i64 a2] w fun e w' => ∃ v0_ : Value, e = .returned (.tuple #[v0_, .bool r2]) /\ Kd.R (Kd.int .i64) 3 w' w.heap.size (fun _ => True) v0_ r1 /\ Below w.heap.size w w' := by
 have HR0 := am_ hr0; have HC0 := am_ hc0; clear hr0 hc0; have HB := am_ (Below.refl w.heap.size w); unfold impl_driveBack.f at h; have H := h; clear h; revert H; refine i2_ fun c4b0 c4b1 H => ?_; revert H; refine i2_ fun c5b0 c5b1 H => ?_; obtain ⟨y639, hy639⟩ := gn_ ((List.replicate (a1 : Int).toNat false) : List Bool); replace H : (impl_driveBack.l0 k a1 a2 y639 (([] : List Int)) l0 (l0.length : Int) 0) = some (r1, r2) := rl_ hy639 H;have Ny639 := am_ hy639; clear hy639; obtain ⟨y642, hy642⟩ := gn_ ((([] : List Int)) : List Int); replace H : (impl_driveBack.l0 k a1 a2 y639 y642 l0 (l0.length : Int) 0) = some (r1, r2) := rl_ hy642 H;have Ny642 := am_ hy642; clear hy642; have H' := am_ H; clear H; go_enter Tryz.func215, Tryz.ntmps215; go_wp2_with (first | ((with_reducible refine gd_ 14 ?_); refine Kd.R_make Kd.bool _ 4 rfl (N := 14) rfl 136 _ _ rfl a1 rfl rfl Tryz.underlying136 (.bool false) 1 info4 rfl (by decide) (by omega) false (ok := fun _ => True) (okp := fun _ => True) rfl (fun _ hk => hk) trivial (of_decide_eq_true qe84_) (Nat.le_trans (Nat.mul_le_mul_right _ (of_decide_eq_true qe84_ : a1.toNat <= 281474976710656)) (by omega)) (Below.refl _ _) (Nat.le_refl _) ?_; intro v640 w6 ho7 hb hg_ hnew_; clear hg_ hnew_; (first | rw [<- Ny639.out] at ho7 | (simp only [Int.reduceToNat] at ho7; rw [<- Ny639.out] at ho7)); have HO641 := am_ (Kd.R_lower ho7 (below_size q0c4_)); replace HB := am_ (below_step q0c4_ hb); clear hb ho7) | ((with_reducible refine gd_ 15 ?_); refine Kd.R_lit (Kd.int .i64) _ 3 ?hg (N := 15) ?hd (xs := ([] : List Int)) (inner := []) (ok := fun _ => True) (okp := fun _ => True) ?hr ?hp (fun _ hk => hk) trivial (Below.refl _ _) (Nat.le_refl _) (by simp) ?_; (case hd => rfl); (case hg => rfl); (case hr => exact qfba_); (case hp => exact (Reps.none _ _)); intro v643 w8 ho9 hb hg_ hnew_; clear hg_ hnew_; (first | rw [<- Ny642.out] at ho9 | (simp only [Int.reduceToNat] at ho9; rw [<- Ny642.out] at ho9)); replace HO641 := am_ (Kd.R_below (q9d5_ HO641.out) hb); have HO644 := am_ (Kd.R_lower ho9 (below_size q0c4_)); replace HB := am_ (below_step q0c4_ hb); clear hb ho9))
 go_loopg [9, 18] k (fun kq v9 v18 w' => ∃ (x8_1 : List Bool) (x9_1 : List Int) (x18_1 : Int), v18 = .int .i64 x18_1 /\ Aside0 (impl_driveBack.l0 kq a1 a2 x8_1 x9_1 l0 (l0.length : Int) x18_1 = some (r1, r2)) /\ Aside0 (kq <= k) /\ Aside0 (Kd.R Kd.bool 4 w' w.heap.size (fun _ => True) v640 x8_1) /\ Aside0 (Kd.R (Kd.int .i64) 3 w' w.heap.size (fun _ => True) v9 x9_1) /\ Aside0 (Below w.heap.size w w'))
 case atStart => exact ⟨(y639), (y642), (0), qc8f_, H', ⟨Nat.le_refl _⟩, ⟨q9d5_ HO641.out⟩, ⟨q9d5_ HO644.out⟩, ⟨q0c4_⟩⟩
 case round =>
  clear H'; obtain ⟨x8_1, x9_1, x18_1, rfl, HA, HK1, HO_8, HO_9, HB⟩ := hrel; cases gk with
  | zero => exact n0_ HA.out
  | succ k1 =>
   have H := HA.out; clear HA; simp only [impl_driveBack.l0] at H; revert H; refine ie_ (fun c10b0 H => ?_) fun c10b0 H => ?_
   ·
    revert H; refine id_ fun c11b0 H => ?_; revert H; refine id_ fun c12b0 H => ?_; have HC13 := am_ H; clear H; obtain ⟨ad645, rfl, hx645_0, p645, q645⟩ := ri_ HR0.out x18_1
    (try (replace hx645_0 := (HB.out.cell (World.block_lt_of_cell? w _ hx645_0)).trans hx645_0))
    go_upto_block 2 with (fail)
    go_cut [12] (fun v12 wc => ∃ (kq : Nat) (x12_12 : Int), v12 = .int .i64 x12_12 /\ Aside0 (impl_driveBack.j2 kq a1 a2 x8_1 x9_1 (rd l0 x18_1) x12_12 l0 (l0.length : Int) x18_1 = some (r1, r2)) /\ Aside0 (kq <= k1) /\ Aside0 (Kd.R Kd.bool 4 wc w.heap.size (fun _ => True) v640 x8_1) /\ Aside0 (Kd.R (Kd.int .i64) 3 wc w.heap.size (fun _ => True) u9 x9_1) /\ Aside0 (Below w.heap.size w wc))
    case first =>
     have H := HC13.out; clear HC13; have H' := am_ H; clear H; go_wp2
     go_loopg [12] k1 (fun kq v12 w' => ∃ (x12_2 : Int), v12 = .int .i64 x12_2 /\ Aside0 (impl_driveBack.l1 kq a1 a2 x8_1 x9_1 (rd l0 x18_1) x12_2 l0 (l0.length : Int) x18_1 = some (r1, r2)) /\ Aside0 (kq <= k1) /\ Aside0 (Kd.R Kd.bool 4 w' w.heap.size (fun _ => True) v640 x8_1) /\ Aside0 (Kd.R (Kd.int .i64) 3 w' w.heap.size (fun _ => True) u9 x9_1) /\ Aside0 (Below w.heap.size w w'))
     case atStart => exact ⟨(rd l0 x18_1), qc8f_, H', ⟨Nat.le_refl _⟩, ⟨q9d5_ HO_8.out⟩, ⟨q9d5_ HO_9.out⟩, ⟨q0c4_⟩⟩
     case round =>
      clear H'; obtain ⟨x12_2, rfl, HA, HK2, HO_8, HO_9, HB⟩ := hrel; cases gk with
      | zero => exact n0_ HA.out
      | succ k2 =>
       have H := HA.out; clear HA; simp only [impl_driveBack.l1] at H; revert H; refine ie_ (fun c14b0 H => ?_) fun c14b0 H => ?_
       ·
        (first | rw [c14b0] | (simp only [i64_w, i32_w]; rw [c14b0]) | skip)
        revert H; refine ie_ (fun c15b0 H => ?_) fun c15b0 H => ?_
        ·
         revert H; refine id_ fun c16b0 H => ?_; revert H; refine id_ fun c17b0 H => ?_; obtain ⟨bq18, hbq18⟩ : ∃ b_ : Bool, b_ = (rdOf false x8_1 x12_2) := ⟨_, rfl⟩; replace H : (if bq18 = true then (impl_driveBack.l1 k2 a1 a2 x8_1 x9_1 (rd l0 x18_1) (wrap64 (x12_2 - 1)) l0 (l0.length : Int) x18_1) else (impl_driveBack.j2 k2 a1 a2 x8_1 x9_1 (rd l0 x18_1) x12_2 l0 (l0.length : Int) x18_1)) = some (r1, r2) := by rw [<- hbq18] at H; exact H
         have Nbq18 := am_ hbq18; clear hbq18; revert H; refine be_ (fun c19 H => ?_) fun c19 H => ?_
         ·
          subst c19; have H' := am_ H; clear H; obtain ⟨Ao20, co20, eo20⟩ := Kd.R_slice HO_8.out; subst eo20; obtain ⟨ad646, rfl, hx646_0, p646, q646⟩ := rb_ (rr_ HO_8.out) x12_2
          (try rw [<- Nbq18.out] at hx646_0)
          go_wp2; go_roundg k2
          case measure => have := HK1.out; have := HK2.out; omega
          case rel => exact ⟨(wrap64 (x12_2 - 1)), qc8f_, H', ⟨q37b_ HK1.out HK2.out⟩, ⟨q9d5_ HO_8.out⟩, ⟨q9d5_ HO_9.out⟩, ⟨q0c4_⟩⟩
         subst c19; have H' := am_ H; clear H; obtain ⟨Ao21, co21, eo21⟩ := Kd.R_slice HO_8.out; subst eo21; obtain ⟨ad646, rfl, hx646_0, p646, q646⟩ := rb_ (rr_ HO_8.out) x12_2
         (try rw [<- Nbq18.out] at hx646_0)
         go_wp2; go_meet
         case rel => exact ⟨_, (x12_2), qc8f_, H', ⟨q313_ HK1.out HK2.out⟩, ⟨q9d5_ HO_8.out⟩, ⟨q9d5_ HO_9.out⟩, ⟨q0c4_⟩⟩
        have H' := am_ H; clear H; go_wp2; go_meet
        case rel => exact ⟨_, (x12_2), qc8f_, H', ⟨q313_ HK1.out HK2.out⟩, ⟨q9d5_ HO_8.out⟩, ⟨q9d5_ HO_9.out⟩, ⟨q0c4_⟩⟩
       (first | rw [c14b0] | (simp only [i64_w, i32_w]; rw [c14b0]) | skip)
       have H' := am_ H; clear H; go_wp2; go_meet
       case rel => exact ⟨_, (x12_2), qc8f_, H', ⟨q313_ HK1.out HK2.out⟩, ⟨q9d5_ HO_8.out⟩, ⟨q9d5_ HO_9.out⟩, ⟨q0c4_⟩⟩
    case rest =>
     clear HC13; obtain ⟨kq, x12_12, rfl, HA, HJ12, HO_8, HO_9, HB⟩ := hcut; cases kq with
     | zero => exact n0_ HA.out
     | succ kj12 =>
      have H := HA.out; clear HA; simp only [impl_driveBack.j2] at H; have HC22 := am_ H; clear H
      go_upto_region 8 with (fail)
      go_cut [48] (fun v48 wc => ∃ (kq : Nat) (x48_21 : Bool), v48 = .bool x48_21 /\ Aside0 (impl_driveBack.j3 kq a1 a2 x8_1 x9_1 (rd l0 x18_1) x12_12 l0 (l0.length : Int) x18_1 x48_21 = some (r1, r2)) /\ Aside0 (kq <= kj12) /\ Aside0 (Kd.R Kd.bool 4 wc w.heap.size (fun _ => True) v640 x8_1) /\ Aside0 (Kd.R (Kd.int .i64) 3 wc w.heap.size (fun _ => True) u9 x9_1) /\ Aside0 (Below w.heap.size w wc))
      case first =>
       have H := HC22.out; clear HC22; revert H; refine ie_ (fun c23b0 H => ?_) fun c23b0 H => ?_
       ·
        (first | rw [c23b0] | (simp only [i64_w, i32_w]; rw [c23b0]) | skip)
        have H' := am_ H; clear H; go_wp2; go_meet
        case rel => exact ⟨_, (true), qc8f_, H', ⟨q313_ HK1.out HJ12.out⟩, ⟨q9d5_ HO_8.out⟩, ⟨q9d5_ HO_9.out⟩, ⟨q0c4_⟩⟩
       (first | rw [c23b0] | (simp only [i64_w, i32_w]; rw [c23b0]) | skip)
       have H' := am_ H; clear H; go_wp2; go_meet
       case rel => exact ⟨_, (decide (x12_12 < (wrap64 ((rd l0 x18_1) - a2)))), qc8f_, H', ⟨q313_ HK1.out HJ12.out⟩, ⟨q9d5_ HO_8.out⟩, ⟨q9d5_ HO_9.out⟩, ⟨q0c4_⟩⟩
      case rest =>
       clear HC22; obtain ⟨kq, x48_21, rfl, HA, HJ21, HO_8, HO_9, HB⟩ := hcut; cases kq with
       | zero => exact n0_ HA.out
       | succ kj21 =>
        have H := HA.out; clear HA; simp only [impl_driveBack.j3] at H; revert H; refine be_ (fun c24 H => ?_) fun c24 H => ?_
        ·
         subst c24; have H' := am_ H; clear H; go_wp2
         go_loopg [12] kj21 (fun kq v12 w' => ∃ (x12_4 : Int), v12 = .int .i64 x12_4 /\ Aside0 (impl_driveBack.l2 kq a1 a2 x8_1 x9_1 x12_4 l0 (l0.length : Int) x18_1 = some (r1, r2)) /\ Aside0 (kq <= kj21) /\ Aside0 (Kd.R Kd.bool 4 w' w.heap.size (fun _ => True) v640 x8_1) /\ Aside0 (Kd.R (Kd.int .i64) 3 w' w.heap.size (fun _ => True) u9 x9_1) /\ Aside0 (Below w.heap.size w w'))
         case atStart => exact ⟨((rd l0 x18_1)), qc8f_, H', ⟨Nat.le_refl _⟩, ⟨q9d5_ HO_8.out⟩, ⟨q9d5_ HO_9.out⟩, ⟨q0c4_⟩⟩
         case round =>
          clear H'; obtain ⟨x12_4, rfl, HA, HK4, HO_8, HO_9, HB⟩ := hrel; cases gk with
          | zero => exact n0_ HA.out
          | succ k4 =>
           have H := HA.out; clear HA; simp only [impl_driveBack.l2] at H; revert H; refine ie_ (fun c25b0 H => ?_) fun c25b0 H => ?_
           ·
            revert H; refine id_ fun c26b0 H => ?_; revert H; refine id_ fun c27b0 H => ?_; obtain ⟨bq28, hbq28⟩ : ∃ b_ : Bool, b_ = (rdOf false x8_1 x12_4) := ⟨_, rfl⟩; replace H : (if bq28 = true then (impl_driveBack.l2 k4 a1 a2 x8_1 x9_1 (wrap64 (x12_4 + 1)) l0 (l0.length : Int) x18_1) else (if x12_4 = a1 then (some (([] : List Int), false)) else (if x9_1.length < 17592186044416 then (impl_driveBack.l0 k4 a1 a2 (x8_1.set (x12_4 : Int).toNat true) (x9_1 ++ [x12_4]) l0 (l0.length : Int) (wrap64 (x18_1 + 1))) else (none)))) = some (r1, r2) := by rw [<- hbq28] at H; exact H
            have Nbq28 := am_ hbq28; clear hbq28; revert H; refine be_ (fun c29 H => ?_) fun c29 H => ?_
            ·
             subst c29; have H' := am_ H; clear H; obtain ⟨Ao30, co30, eo30⟩ := Kd.R_slice HO_8.out; subst eo30; obtain ⟨ad647, rfl, hx647_0, p647, q647⟩ := rb_ (rr_ HO_8.out) x12_4
             (try rw [<- Nbq28.out] at hx647_0)
             go_wp2; go_roundg k4
             case measure => have := HK1.out; have := HJ12.out; have := HJ21.out; have := HK4.out; omega
             case rel => exact ⟨(wrap64 (x12_4 + 1)), qc8f_, H', ⟨by have := HK1.out; have := HJ12.out; have := HJ21.out; have := HK4.out; omega⟩, ⟨q9d5_ HO_8.out⟩, ⟨q9d5_ HO_9.out⟩, ⟨q0c4_⟩⟩
            subst c29; revert H; refine ee_ (fun c31b0 c31b1 H => ?_) fun c31 c31b0 c31b1 H => ?_
            ·
             obtain ⟨rfl, rfl⟩ := sp_ H; obtain ⟨Ao32, co32, eo32⟩ := Kd.R_slice HO_8.out; subst eo32; obtain ⟨ad647, rfl, hx647_0, p647, q647⟩ := rb_ (rr_ HO_8.out) x12_4
             (try rw [<- Nbq28.out] at hx647_0)
             go_wp2; go_ret2; exact ⟨_, qce7_, qf62_, q0c4_⟩
            obtain ⟨y648, hy648⟩ := gn_ ((x8_1.set (x12_4 : Int).toNat true) : List Bool); replace H : (if x9_1.length < 17592186044416 then (impl_driveBack.l0 k4 a1 a2 y648 (x9_1 ++ [x12_4]) l0 (l0.length : Int) (wrap64 (x18_1 + 1))) else (none)) = some (r1, r2) := rl_ hy648 H;have Ny648 := am_ hy648; clear hy648; revert H; refine it_ fun c34 H => ?_; have LMc34 := am_ c34; clear c34; obtain ⟨y649, hy649⟩ := gn_ ((x9_1 ++ [x12_4]) : List Int); replace H : (impl_driveBack.l0 k4 a1 a2 y648 y649 l0 (l0.length : Int) (wrap64 (x18_1 + 1))) = some (r1, r2) := rl_ hy649 H;have Ny649 := am_ hy649; clear hy649; have H' := am_ H; clear H; obtain ⟨Ao35, co35, eo35⟩ := Kd.R_slice HO_8.out; subst eo35; obtain ⟨ad647, rfl, hx647_0, p647, q647⟩ := rb_ (rr_ HO_8.out) x12_4
            (try rw [<- Nbq28.out] at hx647_0)
            have p33 : 0 <= (x12_4 : Int) := of_decide_eq_true qe84_; have q33 : (x12_4 : Int) < ((x8_1.length : Int) : Int) := of_decide_eq_true qe84_; obtain ⟨go33, co33, eo33, gb33, gl33, cl33, HG33⟩ := Kd.R_form HO_8.out (by omega)
            (first | cases eo33 | (injection eo33 with ea_ en_ ec_; (first | subst ea_ | (injection ea_ with ea_; subst ea_)); subst ec_; clear en_))
            have GB33 := am_ gb33; have GG33 := am_ HG33; clear gb33 gl33 HG33
            (first | simp only [add_plain] at hx647_0 | skip)
            obtain ⟨hx33_0, hf33_0⟩ := Kd.R_celln false HO_8.out (x12_4 : Int) p33 q33; replace p33 := eq_true p33; replace q33 := eq_true q33; have HP36 := Kd.R_putg HO_8.out (x12_4 : Int) true; go_wp2_with (first | ((with_reducible refine gate_store (t := 4) (p := 66) rfl ?_); refine store_event (t := 4) (p := 66) (v := ?vo_w37) (w1 := (wr.setCell ⟨go33, (x12_4 : Int).toNat, none⟩ (.bool true))) ?hg ?ho ?hn ?hr ?_; (case ho => rfl); (case hg => rfl); (case hn => rfl); (case hr => exact qfba_); intro w37 hw; have hg : wr.grownBy w37 (some go33) := (by rw [hw]; exact HP36.2); have hp_ : Kd.R Kd.bool 4 w37 w.heap.size (fun _ => True) (.slice (some ⟨go33, 0, none⟩) x8_1.length co35) y648 := (by rw [hw, Ny648.out]; exact HP36.1); clear HP36; replace HO_9 := am_ (Kd.R_over' (v := (.slice (some ⟨go33, 0, none⟩) x8_1.length co35)) (q9d5_ HO_9.out) (Kd.R_typed HO_8.out) (by decide) hg); replace HO_8 := am_ (hp_); replace HB := am_ ((by rw [hw]; exact below_set (HB.out) GB33.out : Below w.heap.size w w37)); clear hg hw hp_) | ((with_reducible refine gate_builtin (b := .append) (xs := #[.tmp 67, .tmp 69]) rfl ?_); at_builtin; refine aI_ (w0 := w) (.tmp 67) (.tmp 69) u9 x9_1 x12_4 (fun _ => True) (fun _ _ => trivial) (q9d5_ HO_9.out) q0c4_ (by exact q1d0_ LMc34.out) ?_; intro v650 w38 ho hb hg hat; rw [<- Ny649.out] at ho; replace HO_8 := am_ (Kd.R_over' (q9d5_ HO_8.out) (Kd.R_typed (q9d5_ HO_9.out)) (by decide) hg); replace HB := am_ (hb); have HO651 := am_ (ho); clear ho hb hg hat)); go_roundg k4
            case measure => have := HK1.out; have := HJ12.out; have := HJ21.out; have := HK4.out; omega
            case rel => exact ⟨(y648), (y649), (wrap64 (x18_1 + 1)), qc8f_, H', ⟨by have := HK1.out; have := HJ12.out; have := HJ21.out; have := HK4.out; omega⟩, ⟨q9d5_ HO_8.out⟩, ⟨q9d5_ HO651.out⟩, ⟨q0c4_⟩⟩
           revert H; refine ee_ (fun c39b0 c39b1 H => ?_) fun c39 c39b0 c39b1 H => ?_
           ·
            obtain ⟨rfl, rfl⟩ := sp_ H; go_wp2; go_ret2; exact ⟨_, qce7_, qf62_, q0c4_⟩
           revert H; refine id_ fun c40b0 H => ?_; revert H; refine id_ fun c41b0 H => ?_; obtain ⟨y652, hy652⟩ := gn_ ((x8_1.set (x12_4 : Int).toNat true) : List Bool); replace H : (if x9_1.length < 17592186044416 then (impl_driveBack.l0 k4 a1 a2 y652 (x9_1 ++ [x12_4]) l0 (l0.length : Int) (wrap64 (x18_1 + 1))) else (none)) = some (r1, r2) := rl_ hy652 H;have Ny652 := am_ hy652; clear hy652; revert H; refine it_ fun c43 H => ?_; have LMc43 := am_ c43; clear c43; obtain ⟨y653, hy653⟩ := gn_ ((x9_1 ++ [x12_4]) : List Int); replace H : (impl_driveBack.l0 k4 a1 a2 y652 y653 l0 (l0.length : Int) (wrap64 (x18_1 + 1))) = some (r1, r2) := rl_ hy653 H;have Ny653 := am_ hy653; clear hy653; have H' := am_ H; clear H; have p42 : 0 <= (x12_4 : Int) := of_decide_eq_true qe84_; have q42 : (x12_4 : Int) < ((x8_1.length : Int) : Int) := of_decide_eq_true qe84_; obtain ⟨go42, co42, eo42, gb42, gl42, cl42, HG42⟩ := Kd.R_form HO_8.out (by omega)
           (first | cases eo42 | (injection eo42 with ea_ en_ ec_; (first | subst ea_ | (injection ea_ with ea_; subst ea_)); subst ec_; clear en_))
           have GB42 := am_ gb42; have GG42 := am_ HG42; clear gb42 gl42 HG42; obtain ⟨hx42_0, hf42_0⟩ := Kd.R_celln false HO_8.out (x12_4 : Int) p42 q42; replace p42 := eq_true p42; replace q42 := eq_true q42; have HP44 := Kd.R_putg HO_8.out (x12_4 : Int) true; go_wp2_with (first | ((with_reducible refine gate_store (t := 4) (p := 66) rfl ?_); refine store_event (t := 4) (p := 66) (v := ?vo_w45) (w1 := (wr.setCell ⟨go42, (x12_4 : Int).toNat, none⟩ (.bool true))) ?hg ?ho ?hn ?hr ?_; (case ho => rfl); (case hg => rfl); (case hn => rfl); (case hr => exact qfba_); intro w45 hw; have hg : wr.grownBy w45 (some go42) := (by rw [hw]; exact HP44.2); have hp_ : Kd.R Kd.bool 4 w45 w.heap.size (fun _ => True) (.slice (some ⟨go42, 0, none⟩) x8_1.length co42) y652 := (by rw [hw, Ny652.out]; exact HP44.1); clear HP44; replace HO_9 := am_ (Kd.R_over' (v := (.slice (some ⟨go42, 0, none⟩) x8_1.length co42)) (q9d5_ HO_9.out) (Kd.R_typed HO_8.out) (by decide) hg); replace HO_8 := am_ (hp_); replace HB := am_ ((by rw [hw]; exact below_set (HB.out) GB42.out : Below w.heap.size w w45)); clear hg hw hp_) | ((with_reducible refine gate_builtin (b := .append) (xs := #[.tmp 67, .tmp 69]) rfl ?_); at_builtin; refine aI_ (w0 := w) (.tmp 67) (.tmp 69) u9 x9_1 x12_4 (fun _ => True) (fun _ _ => trivial) (q9d5_ HO_9.out) q0c4_ (by exact q1d0_ LMc43.out) ?_; intro v654 w46 ho hb hg hat; rw [<- Ny653.out] at ho; replace HO_8 := am_ (Kd.R_over' (q9d5_ HO_8.out) (Kd.R_typed (q9d5_ HO_9.out)) (by decide) hg); replace HB := am_ (hb); have HO655 := am_ (ho); clear ho hb hg hat)); go_roundg k4
           case measure => have := HK1.out; have := HJ12.out; have := HJ21.out; have := HK4.out; omega
           case rel => exact ⟨(y652), (y653), (wrap64 (x18_1 + 1)), qc8f_, H', ⟨by have := HK1.out; have := HJ12.out; have := HJ21.out; have := HK4.out; omega⟩, ⟨q9d5_ HO_8.out⟩, ⟨q9d5_ HO655.out⟩, ⟨q0c4_⟩⟩
        subst c24; revert H; refine ee_ (fun c47b0 c47b1 H => ?_) fun c47 c47b0 c47b1 H => ?_
        ·
         obtain ⟨rfl, rfl⟩ := sp_ H; go_wp2; go_ret2; exact ⟨_, qce7_, qf62_, q0c4_⟩
        revert H; refine id_ fun c48b0 H => ?_; revert H; refine id_ fun c49b0 H => ?_; obtain ⟨y656, hy656⟩ := gn_ ((x8_1.set (x12_12 : Int).toNat true) : List Bool); replace H : (if x9_1.length < 17592186044416 then (impl_driveBack.l0 kj21 a1 a2 y656 (x9_1 ++ [x12_12]) l0 (l0.length : Int) (wrap64 (x18_1 + 1))) else (none)) = some (r1, r2) := rl_ hy656 H;have Ny656 := am_ hy656; clear hy656; revert H; refine it_ fun c51 H => ?_; have LMc51 := am_ c51; clear c51; obtain ⟨y657, hy657⟩ := gn_ ((x9_1 ++ [x12_12]) : List Int); replace H : (impl_driveBack.l0 kj21 a1 a2 y656 y657 l0 (l0.length : Int) (wrap64 (x18_1 + 1))) = some (r1, r2) := rl_ hy657 H;have Ny657 := am_ hy657; clear hy657; have H' := am_ H; clear H; have p50 : 0 <= (x12_12 : Int) := of_decide_eq_true qe84_; have q50 : (x12_12 : Int) < ((x8_1.length : Int) : Int) := of_decide_eq_true qe84_; obtain ⟨go50, co50, eo50, gb50, gl50, cl50, HG50⟩ := Kd.R_form HO_8.out (by omega)
        (first | cases eo50 | (injection eo50 with ea_ en_ ec_; (first | subst ea_ | (injection ea_ with ea_; subst ea_)); subst ec_; clear en_))
        have GB50 := am_ gb50; have GG50 := am_ HG50; clear gb50 gl50 HG50; obtain ⟨hx50_0, hf50_0⟩ := Kd.R_celln false HO_8.out (x12_12 : Int) p50 q50; replace p50 := eq_true p50; replace q50 := eq_true q50; have HP52 := Kd.R_putg HO_8.out (x12_12 : Int) true; go_wp2_with (first | ((with_reducible refine gate_store (t := 4) (p := 66) rfl ?_); refine store_event (t := 4) (p := 66) (v := ?vo_w53) (w1 := (wc.setCell ⟨go50, (x12_12 : Int).toNat, none⟩ (.bool true))) ?hg ?ho ?hn ?hr ?_; (case ho => rfl); (case hg => rfl); (case hn => rfl); (case hr => exact qfba_); intro w53 hw; have hg : wc.grownBy w53 (some go50) := (by rw [hw]; exact HP52.2); have hp_ : Kd.R Kd.bool 4 w53 w.heap.size (fun _ => True) (.slice (some ⟨go50, 0, none⟩) x8_1.length co50) y656 := (by rw [hw, Ny656.out]; exact HP52.1); clear HP52; replace HO_9 := am_ (Kd.R_over' (v := (.slice (some ⟨go50, 0, none⟩) x8_1.length co50)) (q9d5_ HO_9.out) (Kd.R_typed HO_8.out) (by decide) hg); replace HO_8 := am_ (hp_); replace HB := am_ ((by rw [hw]; exact below_set (HB.out) GB50.out : Below w.heap.size w w53)); clear hg hw hp_) | ((with_reducible refine gate_builtin (b := .append) (xs := #[.tmp 67, .tmp 69]) rfl ?_); at_builtin; refine aI_ (w0 := w) (.tmp 67) (.tmp 69) u9 x9_1 x12_12 (fun _ => True) (fun _ _ => trivial) (q9d5_ HO_9.out) q0c4_ (by exact q1d0_ LMc51.out) ?_; intro v658 w54 ho hb hg hat; rw [<- Ny657.out] at ho; replace HO_8 := am_ (Kd.R_over' (q9d5_ HO_8.out) (Kd.R_typed (q9d5_ HO_9.out)) (by decide) hg); replace HB := am_ (hb); have HO659 := am_ (ho); clear ho hb hg hat)); go_roundg kj21
        case measure => have := HK1.out; have := HJ12.out; have := HJ21.out; omega
        case rel => exact ⟨(y656), (y657), (wrap64 (x18_1 + 1)), qc8f_, H', ⟨q0e9_ HK1.out HJ12.out HJ21.out⟩, ⟨q9d5_ HO_8.out⟩, ⟨q9d5_ HO659.out⟩, ⟨q0c4_⟩⟩
   obtain ⟨rfl, rfl⟩ := sp_ H; go_wp2; go_ret2; exact ⟨_, qce7_, q9d5_ HO_9.out, q0c4_⟩
def laws_jSame.l0 : Nat -> List Int -> List Int -> Int -> Int -> Option (Bool)
 | 0, _, _, _, _ => none
 | k + 1, x0, x1, x12, x13 => if x13 < x12 then (if 0 <= x13 then (if x13 < (x0.length : Int) then (if x13 < (x1.length : Int) then (if (rd x0 x13) = (rd x1 x13) then (laws_jSame.l0 k x0 x1 x12 (wrap64 (x13 + 1))) else (some false)) else (none)) else (none)) else (none)) else (some true)
def laws_jSame.f (k : Nat) (l0 : List Int) (l1 : List Int) : Option (Bool) := if (l0.length : Int) = (l1.length : Int) then (laws_jSame.l0 k l0 l1 (l0.length : Int) 0) else (some false)
def laws_jTable.f (k : Nat) (l0_0 : List Int) (l1_0 : List Int) : Option (Bool) := (laws_jSame.f k l0_0 l1_0).bind fun t664 => (some t664)
def laws_jDesk.f (k : Nat) (l0_0 : List Int) (l0_1 : List Int) (l1_0 : List Int) (l1_1 : List Int) : Option (Bool) := (laws_jSame.f k l0_0 l1_0).bind fun t667 => (if t667 = true then ((laws_jTable.f k l0_1 l1_1).bind fun t668 => (some t668)) else (some false))
def laws_jTexts.l0 : Nat -> List ByteArray -> List ByteArray -> Int -> Int -> Option (Bool)
 | 0, _, _, _, _ => none
 | k + 1, x0, x1, x12, x13 => if x13 < x12 then (if 0 <= x13 then (if x13 < (x0.length : Int) then (if x13 < (x1.length : Int) then (if (rdOf ByteArray.empty x0 x13).toList = (rdOf ByteArray.empty x1 x13).toList then (laws_jTexts.l0 k x0 x1 x12 (wrap64 (x13 + 1))) else (some false)) else (none)) else (none)) else (none)) else (some true)
def laws_jTexts.f (k : Nat) (l0 : List ByteArray) (l1 : List ByteArray) : Option (Bool) := if (l0.length : Int) = (l1.length : Int) then (laws_jTexts.l0 k l0 l1 (l0.length : Int) 0) else (some false)
end Go.Proofs.YtjdlhefjgceabaaGreatDoor.PAll
