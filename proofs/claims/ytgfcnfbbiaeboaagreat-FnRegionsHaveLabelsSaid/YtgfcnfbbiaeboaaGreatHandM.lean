/- What is known while the next Region (its two rows, in any order of the operations) is made in impl.regionOf and spec.reGoOn; plain facts on worlds. -/
import Derived.Test.YtgfcnfbbiaeboaaGreatHandE
namespace Go.Proofs.YtgfcnfbbiaeboaaGreat.Hand
open Go.RowKit Go.Shelf Go.Maps Go.Sort
open Go.Proofs.YtgfcnfbbiaeboaaGreatW.PrintWords Go.Proofs.YtgfcnfbbiaeboaaGreatW.PrintLast
set_option linter.unusedVariables false
set_option linter.unusedSimpArgs false
/-- Two rows of blocks that are not the same. -/
def Ap (u v : Value) : Prop := ∀ k, u.ownBlock = some k → v.ownBlock ≠ some k
/-- Rows of whole numbers hold no rows: what is asked of their block alone counts. -/
theorem R_okto {e base : Nat} {w : World} {ok ok' : Nat → Prop} {v : Value} {xs : List Int} (h : Kd.R (Kd.int .i64) e w base ok v xs) (hk : ∀ k, v.ownBlock = some k → ok' k) : Kd.R (Kd.int .i64) e w base ok' v xs :=
  ⟨hk, h.2.imp_ (fun _ _ hp => hp)⟩
theorem R_apg {e base : Nat} {w w1 : World} {u v : Value} {xs : List Int} (h : Kd.R (Kd.int .i64) e w base (fun _ => True) u xs) (ha : Ap v u) (hg : w.grownBy w1 v.ownBlock) : Kd.R (Kd.int .i64) e w1 base (fun _ => True) u xs :=
  Kd.R_mono (Kd.R_grown (R_okto (ok' := fun k => some k ≠ v.ownBlock) h (fun k hk he => ha k he.symm hk)) hg (fun _ hk => hk)) (fun _ _ => trivial)
theorem Ap_symm {u v : Value} (h : Ap u v) : Ap v u := fun k hv hu => h k hu hv
theorem Ap_new {e e' base : Nat} {w w1 : World} {ok ok' : Nat → Prop} {u v : Value} {xs ys : List Int} (h : Kd.R (Kd.int .i64) e w base ok u xs) (hn : Kd.R (Kd.int .i64) e' w1 w.heap.size ok' v ys) : Ap u v := fun k hu hv => by
  have h1 := Kd.R_lt h k hu
  have h2 := Kd.R_base hn k hv
  omega
/-- The boxes of r and of the result, and all that lay in memory when the call began. -/
structure Rg0 (w w' : World) (g5 g6 : Nat) (vA vB : Value) : Prop where
  below : Below w.heap.size w w'
  h5 : w'.heap[g5]? = some (.cells #[vA, vB] 27 (0, 0))
  h6 : w'.heap[g6]? = some (.cells #[.slice none 0 0, .slice none 0 0] 27 (0, 0))
  ge5 : w.heap.size ≤ g5
  ge6 : w.heap.size ≤ g6
  ne : g5 ≠ g6
theorem Rg0.next {w w' w1 : World} {g5 g6 : Nat} {vA vB : Value} (h : Rg0 w w' g5 g6 vA vB) (hb : Below w'.heap.size w' w1) : Rg0 w w1 g5 g6 vA vB :=
  ⟨below_step h.below hb, blk_below h.h5 hb, blk_below h.h6 hb, h.ge5, h.ge6, h.ne⟩
theorem Rg0.drewN {w w' : World} {g5 g6 : Nat} {vA vB : Value} (h : Rg0 w w' g5 g6 vA vB) (n : Nat) : Rg0 w (w'.drewN n) g5 g6 vA vB := h.next (pw_below_drewN (Below.refl _ _) n)
theorem Rg0.drew {w w' : World} {g5 g6 : Nat} {vA vB : Value} (h : Rg0 w w' g5 g6 vA vB) : Rg0 w w'.drew g5 g6 vA vB := h.next (below_drew1 (Below.refl _ _))
theorem Rg0.set {w w' : World} {g5 g6 g : Nat} {vA vB : Value} (h : Rg0 w w' g5 g6 vA vB) (hge : w.heap.size ≤ g) (h5 : g5 ≠ g) (h6 : g6 ≠ g) (j : Nat) (u : Value) : Rg0 w (w'.setCell ⟨g, j, none⟩ u) g5 g6 vA vB :=
  ⟨below_set h.below hge, blk_far h.h5 h5 _, blk_far h.h6 h6 _, h.ge5, h.ge6, h.ne⟩
/-- The state of the region that makes the next Region: which operations are done (b..), their values (u..), the new box (gn). -/
structure RgI (w w' : World) (g5 g6 : Nat) (vA vB : Value) (t1 t2 y1 y2 : List Int) (b2 b4 b5 b8 b10 b11 b13 b14 : Bool) (u2 u4 u5 u8 u10 u11 : Value) (gn : Nat) : Prop where
  r0 : Rg0 w w' g5 g6 vA vB
  c2 : b2 = true → b5 = false → Kd.R (Kd.int .i64) 3 w' w.heap.size (fun _ => True) u2 t1
  c4 : b4 = true → b5 = false → Kd.R (Kd.int .i64) 3 w' w.heap.size (fun _ => True) u4 y1
  c5 : b5 = true → Kd.R (Kd.int .i64) 3 w' w.heap.size (fun _ => True) u5 (t1 ++ y1)
  c8 : b8 = true → b11 = false → Kd.R (Kd.int .i64) 3 w' w.heap.size (fun _ => True) u8 t2
  c10 : b10 = true → b11 = false → Kd.R (Kd.int .i64) 3 w' w.heap.size (fun _ => True) u10 y2
  c11 : b11 = true → Kd.R (Kd.int .i64) 3 w' w.heap.size (fun _ => True) u11 (t2 ++ y2)
  cn : b13 = true → (g5 ≠ gn ∧ g6 ≠ gn ∧ w.heap.size ≤ gn) ∧ w'.heap[gn]? = some (.cells (if b14 then #[u5, u11] else #[.slice none 0 0, .slice none 0 0]) 27 (0, 0))
  a2 : b2 = true → b5 = false → b10 = true → Ap u2 u10
  a8 : b5 = true → b8 = true → b11 = false → Ap u5 u8
  a11 : b5 = true → b11 = true → Ap u5 u11
section
variable {w w' w1 : World} {g5 g6 gn : Nat} {vA vB u2 u4 u5 u8 u10 u11 v : Value} {t1 t2 y1 y2 : List Int} {b2 b4 b5 b8 b10 b11 b13 b14 : Bool}
theorem RgI.start (h : Rg0 w w' g5 g6 vA vB) : RgI w w' g5 g6 vA vB t1 t2 y1 y2 false false false false false false false false u2 u4 u5 u8 u10 u11 gn :=
  ⟨h, fun h => absurd h (by decide), fun h => absurd h (by decide), fun h => absurd h (by decide), fun h => absurd h (by decide), fun h => absurd h (by decide), fun h => absurd h (by decide), fun h => absurd h (by decide), fun h => absurd h (by decide), fun h => absurd h (by decide), fun h => absurd h (by decide)⟩
theorem RgI.next (h : RgI w w' g5 g6 vA vB t1 t2 y1 y2 b2 b4 b5 b8 b10 b11 b13 b14 u2 u4 u5 u8 u10 u11 gn) (hb : Below w'.heap.size w' w1) : RgI w w1 g5 g6 vA vB t1 t2 y1 y2 b2 b4 b5 b8 b10 b11 b13 b14 u2 u4 u5 u8 u10 u11 gn :=
  ⟨h.r0.next hb, fun x y => Kd.R_below (h.c2 x y) hb, fun x y => Kd.R_below (h.c4 x y) hb, fun x => Kd.R_below (h.c5 x) hb, fun x y => Kd.R_below (h.c8 x y) hb, fun x y => Kd.R_below (h.c10 x y) hb, fun x => Kd.R_below (h.c11 x) hb, fun x => ⟨(h.cn x).1, blk_below (h.cn x).2 hb⟩, h.a2, h.a8, h.a11⟩
theorem RgI.s2 (h : RgI w w' g5 g6 vA vB t1 t2 y1 y2 b2 b4 b5 b8 b10 b11 b13 b14 u2 u4 u5 u8 u10 u11 gn) (h11 : b11 = false) (hb : Below w'.heap.size w' w1) (hv : Kd.R (Kd.int .i64) 3 w1 w'.heap.size (fun _ => True) v t1) : RgI w w1 g5 g6 vA vB t1 t2 y1 y2 true b4 b5 b8 b10 b11 b13 b14 v u4 u5 u8 u10 u11 gn :=
  let n := h.next hb
  ⟨n.r0, fun _ _ => Kd.R_lower hv h.r0.below.size, n.c4, n.c5, n.c8, n.c10, n.c11, n.cn, fun _ _ x => Ap_symm (Ap_new (h.c10 x h11) hv), n.a8, n.a11⟩
theorem RgI.s4 (h : RgI w w' g5 g6 vA vB t1 t2 y1 y2 b2 b4 b5 b8 b10 b11 b13 b14 u2 u4 u5 u8 u10 u11 gn) (hb : Below w'.heap.size w' w1) (hv : Kd.R (Kd.int .i64) 3 w1 w'.heap.size (fun _ => True) v y1) : RgI w w1 g5 g6 vA vB t1 t2 y1 y2 b2 true b5 b8 b10 b11 b13 b14 u2 v u5 u8 u10 u11 gn :=
  let n := h.next hb
  ⟨n.r0, n.c2, fun _ _ => Kd.R_lower hv h.r0.below.size, n.c5, n.c8, n.c10, n.c11, n.cn, n.a2, n.a8, n.a11⟩
theorem RgI.s10 (h : RgI w w' g5 g6 vA vB t1 t2 y1 y2 b2 b4 b5 b8 b10 b11 b13 b14 u2 u4 u5 u8 u10 u11 gn) (hb : Below w'.heap.size w' w1) (hv : Kd.R (Kd.int .i64) 3 w1 w'.heap.size (fun _ => True) v y2) : RgI w w1 g5 g6 vA vB t1 t2 y1 y2 b2 b4 b5 b8 true b11 b13 b14 u2 u4 u5 u8 v u11 gn :=
  let n := h.next hb
  ⟨n.r0, n.c2, n.c4, n.c5, n.c8, fun _ _ => Kd.R_lower hv h.r0.below.size, n.c11, n.cn, fun x y _ => Ap_new (h.c2 x y) hv, n.a8, n.a11⟩
theorem RgI.s8 (h : RgI w w' g5 g6 vA vB t1 t2 y1 y2 b2 b4 b5 b8 b10 b11 b13 b14 u2 u4 u5 u8 u10 u11 gn) (hb : Below w'.heap.size w' w1) (hv : Kd.R (Kd.int .i64) 3 w1 w'.heap.size (fun _ => True) v t2) : RgI w w1 g5 g6 vA vB t1 t2 y1 y2 b2 b4 b5 true b10 b11 b13 b14 u2 u4 u5 v u10 u11 gn :=
  let n := h.next hb
  ⟨n.r0, n.c2, n.c4, n.c5, fun _ _ => Kd.R_lower hv h.r0.below.size, n.c10, n.c11, n.cn, n.a2, fun x _ _ => Ap_new (h.c5 x) hv, n.a11⟩
theorem RgI.s13 (h : RgI w w' g5 g6 vA vB t1 t2 y1 y2 b2 b4 b5 b8 b10 b11 b13 b14 u2 u4 u5 u8 u10 u11 gn) (h14 : b14 = false) (hb : Below w'.heap.size w' w1) {g : Nat} (hg : g = w'.heap.size) (hv : w1.heap[g]? = some (.cells #[.slice none 0 0, .slice none 0 0] 27 (0, 0))) : RgI w w1 g5 g6 vA vB t1 t2 y1 y2 b2 b4 b5 b8 b10 b11 true b14 u2 u4 u5 u8 u10 u11 g :=
  let n := h.next hb
  ⟨n.r0, n.c2, n.c4, n.c5, n.c8, n.c10, n.c11, fun _ => ⟨⟨by have := blk_lt h.r0.h5; omega, by have := blk_lt h.r0.h6; omega, by have := h.r0.below.size; omega⟩, by rw [h14]; exact hv⟩, n.a2, n.a8, n.a11⟩
theorem Rg0.grown (h : Rg0 w w' g5 g6 vA vB) {xs : List Int} (hu : Kd.R (Kd.int .i64) 3 w' w.heap.size (fun _ => True) v xs) (hB : Below w.heap.size w w1) (hg : w'.grownBy w1 v.ownBlock) : Rg0 w w1 g5 g6 vA vB :=
  ⟨hB, blk_grown h.h5 hg (Kd.R_ne hu h.h5 (by decide)), blk_grown h.h6 hg (Kd.R_ne hu h.h6 (by decide)), h.ge5, h.ge6, h.ne⟩
theorem RgI.s5 (h : RgI w w' g5 g6 vA vB t1 t2 y1 y2 true b4 false false b10 false b13 b14 u2 u4 u5 u8 u10 u11 gn) (h14 : b14 = false) (hB : Below w.heap.size w w1) (hg : w'.grownBy w1 u2.ownBlock) (hv : Kd.R (Kd.int .i64) 3 w1 w.heap.size (fun _ => True) v (t1 ++ y1)) : RgI w w1 g5 g6 vA vB t1 t2 y1 y2 true b4 true false b10 false b13 b14 u2 u4 v u8 u10 u11 gn :=
  ⟨h.r0.grown (h.c2 rfl rfl) hB hg, fun _ x => absurd x (by decide), fun _ x => absurd x (by decide), fun _ => hv, fun x => absurd x (by decide), fun x _ => R_apg (h.c10 x rfl) (h.a2 rfl rfl x) hg, fun x => absurd x (by decide),
    fun x => ⟨(h.cn x).1, by have n := (h.cn x).2; rw [h14] at n ⊢; exact blk_grown n hg (Kd.R_ne (h.c2 rfl rfl) n (by decide))⟩, fun _ x => absurd x (by decide), fun _ x => absurd x (by decide), fun _ x => absurd x (by decide)⟩
theorem RgI.s11 (h : RgI w w' g5 g6 vA vB t1 t2 y1 y2 b2 b4 true true b10 false b13 b14 u2 u4 u5 u8 u10 u11 gn) (h14 : b14 = false) (hB : Below w.heap.size w w1) (hg : w'.grownBy w1 u8.ownBlock) (hat : v.ownBlock = u8.ownBlock ∨ ∃ b, v.ownBlock = some b ∧ w'.heap.size ≤ b) (hv : Kd.R (Kd.int .i64) 3 w1 w.heap.size (fun _ => True) v (t2 ++ y2)) : RgI w w1 g5 g6 vA vB t1 t2 y1 y2 b2 b4 true true b10 true b13 b14 u2 u4 u5 u8 u10 v gn :=
  ⟨h.r0.grown (h.c8 rfl rfl) hB hg, fun _ x => absurd x (by decide), fun _ x => absurd x (by decide), fun _ => R_apg (h.c5 rfl) (Ap_symm (h.a8 rfl rfl rfl)) hg, fun _ x => absurd x (by decide), fun _ x => absurd x (by decide), fun _ => hv,
    fun x => ⟨(h.cn x).1, by have n := (h.cn x).2; rw [h14] at n ⊢; exact blk_grown n hg (Kd.R_ne (h.c8 rfl rfl) n (by decide))⟩, fun _ x => absurd x (by decide), fun _ _ x => absurd x (by decide), fun _ _ => by
      intro k hu hv'
      rcases hat with hat | ⟨b, hb, hle⟩
      · rw [hat] at hv'
        exact h.a8 rfl rfl rfl k hu hv'
      · have := Kd.R_lt (h.c5 rfl) k hu
        rw [hb] at hv'
        injection hv' with hv'
        omega⟩
theorem RgI.s14 (h : RgI w w' g5 g6 vA vB t1 t2 y1 y2 b2 b4 true b8 b10 true true false u2 u4 u5 u8 u10 u11 gn) : RgI w ((w'.setCell ⟨gn, 0, none⟩ u5).setCell ⟨gn, 1, none⟩ u11) g5 g6 vA vB t1 t2 y1 y2 b2 b4 true b8 b10 true true true u2 u4 u5 u8 u10 u11 gn := by
  obtain ⟨⟨n5, n6, hge⟩, hn⟩ := h.cn rfl
  have hn1 := blk_set hn 0 u5
  refine ⟨(h.r0.set hge n5 n6 0 u5).set hge n5 n6 1 u11, fun _ x => absurd x (by decide), fun _ x => absurd x (by decide), fun _ => Kd.R_set (Kd.R_set (h.c5 rfl) hn (by decide) 0 u5) hn1 (by decide) 1 u11, fun _ x => absurd x (by decide), fun _ x => absurd x (by decide), fun _ => Kd.R_set (Kd.R_set (h.c11 rfl) hn (by decide) 0 u5) hn1 (by decide) 1 u11, fun _ => ⟨⟨n5, n6, hge⟩, ?_⟩, fun _ x => absurd x (by decide), fun _ _ x => absurd x (by decide), h.a11⟩
  exact blk_set hn1 1 u11
theorem RgI.drewN (h : RgI w w' g5 g6 vA vB t1 t2 y1 y2 b2 b4 b5 b8 b10 b11 b13 b14 u2 u4 u5 u8 u10 u11 gn) (n : Nat) : RgI w (w'.drewN n) g5 g6 vA vB t1 t2 y1 y2 b2 b4 b5 b8 b10 b11 b13 b14 u2 u4 u5 u8 u10 u11 gn := h.next (pw_below_drewN (Below.refl _ _) n)
end
/-- What a call of regionOf (reGoOn) hands back: its own argument, or two new rows. -/
def RgR (w w' : World) (vA vB : Value) (lA lB : List Int) (v0 v1 : Value) (r1 r2 : List Int) : Prop :=
  Below w.heap.size w w' ∧ ((v0 = vA ∧ v1 = vB ∧ r1 = lA ∧ r2 = lB) ∨ (Kd.R (Kd.int .i64) 3 w' w.heap.size (fun _ => True) v0 r1 ∧ Kd.R (Kd.int .i64) 3 w' w.heap.size (fun _ => True) v1 r2 ∧ Ap v0 v1))
/-- A call with two rows that were made hands back two rows that are made. -/
theorem RgR.own {w wc w' : World} {vA vB v0 v1 : Value} {lA lB r1 r2 : List Int} (h : RgR wc w' vA vB lA lB v0 v1 r1 r2) (hB : Below w.heap.size w wc) (hA : Kd.R (Kd.int .i64) 3 wc w.heap.size (fun _ => True) vA lA) (hB2 : Kd.R (Kd.int .i64) 3 wc w.heap.size (fun _ => True) vB lB) (ha : Ap vA vB) :
    Kd.R (Kd.int .i64) 3 w' w.heap.size (fun _ => True) v0 r1 ∧ Kd.R (Kd.int .i64) 3 w' w.heap.size (fun _ => True) v1 r2 ∧ Ap v0 v1 := by
  obtain ⟨hb, ⟨rfl, rfl, rfl, rfl⟩ | ⟨h0, h1, h2⟩⟩ := h
  · exact ⟨Kd.R_below hA hb, Kd.R_below hB2 hb, ha⟩
  · exact ⟨Kd.R_lower h0 hB.size, Kd.R_lower h1 hB.size, h2⟩
end Go.Proofs.YtgfcnfbbiaeboaaGreat.Hand
