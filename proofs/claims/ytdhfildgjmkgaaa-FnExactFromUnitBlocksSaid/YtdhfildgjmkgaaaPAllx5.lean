-- written by a program of this session (wip/gen/xpatch.py over the translation); Lean checks it
import Derived.Test.YtdhfildgjmkgaaaPAllx0
import Derived.Test.YtdhfildgjmkgaaaPAllx1
import Derived.Test.YtdhfildgjmkgaaaPAllx2
import Derived.Test.YtdhfildgjmkgaaaPAllx3
import Derived.Test.YtdhfildgjmkgaaaPAllx4
namespace Go.Proofs.Ytdhfildgjmkgaaa.PAll
open Go.RowKit Go.Proofs.Ytdhfildgjmkgaaa.Hand Go.Proofs.YtdhfildgjmkgaaaW.PrintWords Go.Proofs.YtdhfildgjmkgaaaW.PrintLast Go.Proofs.YtdhfildgjmkgaaaW.PrintMore
attribute [local go_sem] max2_int min2_int max_two min_two max_three min_three max_four min_four   -- for this text's walks alone
set_option maxHeartbeats 8000000
set_option maxRecDepth 100000
set_option linter.unusedVariables false
set_option linter.unusedSimpArgs false

/-! ### laws_FnExactFromUnitBlocks: function 3 -/
/-- What markIntSS comes to. -/
def markSK.l0 : Nat → List (List Int) → Int → Int → Option (Int × List (List Int))
 | 0, _, _, _ => none
 | k + 1, x0, x1, x5 => if x5 < (x0.length : Int) then (if 0 ≤ x5 then ((laws_markIntS.f k (x0.getD x5.toNat []) x1).bind fun b => markSK.l0 k (x0.set x5.toNat b.2) b.1 (wrap64 (x5 + 1))) else none) else some (x1, x0)
theorem markSK.calls (k : Nat) (ls : List (List Int)) (a1 r1 : Int) (rs : List (List Int)) (v : Value) (ok : Nat → Prop) (w0 w : World) (hB : Below w0.heap.size w0 w) (ho : Kd.S (Kd.slice 3 (Kd.int .i64)) 24 w w0.heap.size ok v ls) (h : markSK.l0 k ls a1 0 = some (r1, rs)) :
  Calls Try.prog 10 #[v, .int .i64 a1] w fun e w' => e = .returned (.int .i64 r1) ∧ Kd.S (Kd.slice 3 (Kd.int .i64)) 24 w' w0.heap.size ok v rs ∧ Below w0.heap.size w0 w' ∧ Kept w w' ok := by
 have HO := Aside0.mk ho
 have HB := Aside0.mk hB
 have HK := Aside0.mk (Kept.refl w ok)
 have H' := Aside0.mk h
 clear hB h
 obtain ⟨A0, c0, e0⟩ := Kd.S_slice ho
 clear ho
 subst e0
 go_enter Try.func10, Try.ntmps10
 go_wp2
 go_loopg [1, 5] k (fun kq v1 v5 w' => ∃ (ls1 : List (List Int)) (x1 x5 : Int), v1 = .int .i64 x1 ∧ v5 = .int .i64 x5 ∧ Aside0 (ls1.length = ls.length) ∧ Aside0 (markSK.l0 kq ls1 x1 x5 = some (r1, rs)) ∧ Aside0 (kq ≤ k) ∧ Aside0 (Kd.S (Kd.slice 3 (Kd.int .i64)) 24 w' w0.heap.size ok (.slice A0 ls.length c0) ls1) ∧ Aside0 (Below w0.heap.size w0 w') ∧ Aside0 (Kept w w' ok))
 case atStart => exact ⟨ls, a1, 0, rfl, rfl, ⟨rfl⟩, H', ⟨Nat.le_refl _⟩, HO, HB, HK⟩
 case round =>
  clear H' HO HB HK
  obtain ⟨ls1, x1, x5, rfl, rfl, HL, HA, HK1, HO, HB, HK⟩ := hrel
  cases gk with
  | zero => exact absurd HA.out (by simp [markSK.l0])
  | succ k1 =>
   have H := HA.out
   clear HA
   simp only [markSK.l0] at H
   rw [HL.out] at H
   by_cases c3 : x5 < (ls.length : Int)
   ·
    rw [if_pos c3] at H
    by_cases c4 : 0 ≤ x5
    ·
     rw [if_pos c4] at H
     obtain ⟨b, h27, H⟩ := Option.bind_eq_some_iff.mp H
     have A27 := Aside0.mk h27
     have H' := Aside0.mk H
     clear H h27
     obtain ⟨ad, A1, c1, eA, hcell, hcap, hC⟩ := atRow (Kd.S_reads' HO.out).2.2 x5 c4 (by rw [HL.out]; exact c3)
     subst eA
     clear hcell hcap hC
     obtain ⟨oki, c, hcl, hM, hcc, hoki, hback⟩ := Kd.S_borrow HO.out ([] : List Int) x5 c4 c3
     obtain ⟨ve, rfl, hR⟩ := hM
     have hx : wr.cell? (ad.add x5.toNat) = some ve := by
      have := hcc 0 ve rfl
      rwa [show x5.toNat * (Kd.slice 3 (Kd.int .i64)).sz + 0 = x5.toNat from by rw [show (Kd.slice 3 (Kd.int .i64)).sz = 1 from rfl]; omega] at this
     have HC := Aside0.mk (laws_markIntS.calls k1 (fun k_ => some k_ = ve.ownBlock) ve (ls1.getD x5.toNat []) x1 b.1 b.2 w0 wr HB.out (Kd.R_tight rfl hR) A27.out)
     have HR := Aside0.mk hR
     have HQ := Aside0.mk (fun k_ (hk_ : some k_ = ve.ownBlock) => (hoki k_ (hR.1 k_ hk_.symm)).1)
     have HBK := Aside0.mk (fun (w1 : World) (x' : List Int) (hg : wr.grownBy w1 ve.ownBlock) (h2 : Kd.R (Kd.int .i64) 3 w1 w0.heap.size oki ve x') => hback (w1 := w1) (row := ve.ownBlock) (x' := x') hg (fun k_ hk_ => hR.1 k_ hk_) ⟨ve, rfl, h2⟩)
     clear hcl hcc hoki hback hR
     have c3b0 := decide_eq_true c3
     have q1 : (x5 < (ls.length : Int)) = True := eq_true c3
     have q2 : (0 ≤ x5) = True := eq_true c4
     clear c3 c4
     go_wp2_with (go_at_call 11; refine HC.out.mono ?_; rintro e w' ⟨rfl, hR2, hb2, hk2⟩; have n0_ := Aside0.mk (HBK.out w' b.2 ⟨hb2.os.trans HB.out.os.symm, hb2.tape.trans HB.out.tape.symm, hb2.output.trans HB.out.output.symm, hk2.1, fun i hi hn => hk2.2 i hi hn⟩ (Kd.R_mono (Kd.R_tight rfl hR2) (fun k_ hk_ => HR.out.1 k_ hk_.symm))); have n1_ := Aside0.mk hb2; have n2_ := Aside0.mk (Kept.then_ HK.out hk2 (fun k_ hk_ => Or.inl (HQ.out k_ hk_))); replace HO := n0_; replace HB := n1_; replace HK := n2_; clear n0_ n1_ n2_)
     go_roundg k1
     case measure => have := HK1.out; omega
     case rel => exact ⟨ls1.set x5.toNat b.2, b.1, wrap64 (x5 + 1), rfl, qc8f_, ⟨by rw [List.length_set]; exact HL.out⟩, H', ⟨by have := HK1.out; omega⟩, HO, HB, HK⟩
    ·
     rw [if_neg c4] at H
     exact absurd H (by simp)
   ·
    rw [if_neg c3] at H
    have c3b0 := decide_eq_false c3
    clear c3
    simp only [Option.some.injEq, Prod.mk.injEq] at H
    obtain ⟨rfl, rfl⟩ := H
    go_wp2
    go_ret
    exact ⟨rfl, HO.out, HB.out, HK.out⟩
theorem fromUnitLaw_walk (A0 : Option Addr) (c0 : Nat) (l0 : List (List Int)) (g : List Int) (ok : Bool) (ks ki ke kq km kg kh kt kz : Nat) (left x1 m : Int) (xs : List (List Int)) (gs : List Int) (hz : laws_szIntSS.f kz l0 1048576 = some left) (hleft : 0 ≤ left) (ht : laws_toIntSS.f kt l0 = some l0)
  (hs : spec_FromUnitBlocks.f ks l0 = some (g, ok)) (hi : impl_FromUnitBlocks.f ki l0 = some (g, ok)) (he : laws_eqIntS.f ke g g = some true) (hq : laws_eqIntSS.f kq l0 l0 = some true) (hmx : markSK.l0 km l0 1 0 = some (x1, xs)) (hx0 : 0 ≤ x1)
  (hm : laws_markIntS.f kg g 1 = some (m, gs)) (hh : laws_heldIntS.f kh gs 1 = some m) (hm0 : 0 ≤ m) (w : World) (hr0 : Kd.C (Kd.slice 3 (Kd.int .i64)) w A0 l0.length l0) (hc0 : l0.length ≤ c0) :
  Calls Try.prog 3 #[.slice A0 l0.length c0] w fun e w' => e = .returned (.bool true) ∧ Below w.heap.size w w' := by
 have HR0 := Aside0.mk hr0
 have HC0 := Aside0.mk hc0
 have AZ := Aside0.mk hz
 have AT := Aside0.mk ht
 have A1 := Aside0.mk hs
 have A2 := Aside0.mk hi
 have A3 := Aside0.mk he
 have A4 := Aside0.mk hq
 have A5 := Aside0.mk hmx
 have A6 := Aside0.mk hm
 have A7 := Aside0.mk hh
 have q0 : decide (left < 0) = false := decide_eq_false (by omega)
 have q1 : decide (x1 < 0) = false := decide_eq_false (by omega)
 have q2 : decide (m < 0) = false := decide_eq_false (by omega)
 clear hz hleft ht hs hi he hq hmx hx0 hm hh hm0 hr0 hc0
 go_enter Try.func3, Try.ntmps3
 go_wp2_with (go_at_call 4; (with_reducible refine (laws_szIntSS.calls kz A0 c0 l0 1048576 left w HR0.out HC0.out AZ.out).mono ?_); rintro e w' ⟨rfl, ⟨nz, rfl⟩⟩)
 have HR1 := Aside0.mk (Kd.C_drewN HR0.out nz)
 have HBz := Aside0.mk (pw_below_drewN (Below.refl w.heap.size w) nz)
 generalize w.drewN nz = wz at HR1 HBz ⊢
 go_wp2_with (go_at_call 6; (with_reducible refine (laws_toIntSS.calls kt A0 c0 l0 l0 wz HR1.out HC0.out AT.out).mono ?_); rintro e wa ⟨va, rfl, hRa, hb⟩; obtain ⟨Aa, ca, hva⟩ := Kd.S_slice hRa; subst hva; have HRa := Aside0.mk hRa; have HBa := Aside0.mk (below_step HBz.out hb); clear hRa hb)
 go_wp2_with (go_at_call 5; (with_reducible refine (spec_FromUnitBlocks.calls ks Aa ca l0 g ok wa (Kd.S_reads' HRa.out).2.2 (Kd.S_reads' HRa.out).2.1 A1.out).mono ?_); rintro e w1 ⟨vw, rfl, hN, hb⟩; obtain ⟨Aw, cw, hvw⟩ := Kd.R_slice hN; subst hvw; have HW := Aside0.mk (Kd.R_reads' hN).2.2; have HWc := Aside0.mk (Kd.R_reads' hN).2.1; have HB1 := Aside0.mk (below_step HBa.out hb); clear hN hb HRa)
 go_wp2_with (go_at_call 6; (with_reducible refine (laws_toIntSS.calls kt A0 c0 l0 l0 w1 (Kd.C_below HR0.out HB1.out) HC0.out AT.out).mono ?_); rintro e w2 ⟨vx, rfl, hRx, hb⟩; obtain ⟨Ax, cx, hvx⟩ := Kd.S_slice hRx; subst hvx; have HX := Aside0.mk (Kd.S_mono (ok' := fun k_ => k_ < w2.heap.size) (Kd.S_bound hRx) (fun k_ hk_ => hk_.2.2.1)); have HB2 := Aside0.mk hb; clear hRx hb)
 go_wp2_with (go_at_call 7; (with_reducible refine (impl_FromUnitBlocks.calls ki Ax cx l0 g ok w2 (Kd.S_reads' HX.out).2.2 (Kd.S_reads' HX.out).2.1 A2.out).mono ?_); rintro e w3 ⟨vg, rfl, hS, hb⟩; obtain ⟨Ag, cg, hvg⟩ := Kd.R_slice hS; subst hvg; have HG := Aside0.mk (Kd.R_lower (Kd.R_mono (ok' := fun k_ => w2.heap.size ≤ k_) (Kd.R_bound hS) (fun k_ hk_ => hk_.2.1)) HB2.out.size); have HX3 := Aside0.mk (Kd.S_below HX.out hb); have HB3 := Aside0.mk (below_step HB2.out hb); clear hS hb HX)
 go_wp2_with (go_at_call 8; (with_reducible refine (laws_eqIntS.calls ke Ag cg g Aw cw g true w3 (Kd.R_reads' HG.out).2.2 (Kd.R_reads' HG.out).2.1 (Kd.C_below HW.out HB3.out) HWc.out A3.out).mono ?_); rintro e w' ⟨rfl, ⟨nd, rfl⟩⟩)
 go_wp2_with (go_at_call 6; (with_reducible refine (laws_toIntSS.calls kt A0 c0 l0 l0 _ (Kd.C_below HR0.out (below_then HB1.out HB1.out.size (pw_below_drewN HB3.out nd))) HC0.out AT.out).mono ?_); rintro e w4 ⟨vy, rfl, hRy, hb⟩; obtain ⟨Ay, cy, hvy⟩ := Kd.S_slice hRy; subst hvy; have HY := Aside0.mk hRy; have HX4 := Aside0.mk (Kd.S_below (Kd.S_drewN HX3.out nd) hb); have HG4 := Aside0.mk (Kd.R_below (Kd.R_drewN HG.out nd) hb); have HB4 := Aside0.mk (below_step (pw_below_drewN HB3.out nd) hb); clear hRy hb HX3 HG)
 go_wp2_with (go_at_call 9; (with_reducible refine (laws_eqIntSS.calls kq Ax cx l0 Ay cy l0 true w4 (Kd.S_reads' HX4.out).2.2 (Kd.S_reads' HX4.out).2.1 (Kd.S_reads' HY.out).2.2 (Kd.S_reads' HY.out).2.1 A4.out).mono ?_); rintro e w' ⟨rfl, ⟨nd2, rfl⟩⟩)
 go_wp2_with (go_at_call 10; (with_reducible refine (markSK.calls km l0 1 x1 xs (.slice Ax l0.length cx) (fun k_ => k_ < w2.heap.size) w1 (w4.drewN nd2) (pw_below_drewN HB4.out nd2) (Kd.S_drewN HX4.out nd2) A5.out).mono ?_); rintro e w5 ⟨rfl, hS5, hb5, hk5⟩; have HG5 := Aside0.mk (Kd.R_kept (Kd.R_drewN HG4.out nd2) hk5 (fun k_ hk_ hn_ => absurd hk_ (Nat.not_le.2 hn_))); have HB5 := Aside0.mk hb5; clear hS5 hb5 hk5 HX4 HG4)
 go_wp2_with (go_at_call 8; (with_reducible refine (laws_eqIntS.calls ke Ag cg g Aw cw g true w5 (Kd.R_reads' HG5.out).2.2 (Kd.R_reads' HG5.out).2.1 (Kd.C_below HW.out HB5.out) HWc.out A3.out).mono ?_); rintro e w' ⟨rfl, ⟨nd3, rfl⟩⟩)
 go_wp2_with (go_at_call 11; (with_reducible refine (laws_markIntS.calls kg (fun k_ => some k_ = (Value.slice Ag g.length cg).ownBlock) (.slice Ag g.length cg) g 1 m gs w1 (w5.drewN nd3) (pw_below_drewN HB5.out nd3) (Kd.R_tight rfl (Kd.R_drewN HG5.out nd3)) A6.out).mono ?_); rintro e w6 ⟨rfl, hR6, hb6, hk6⟩; have HG6 := Aside0.mk hR6; have HB6 := Aside0.mk hb6; clear hR6 hb6 hk6 HG5)
 have HL := Aside0.mk (Kd.R_reads' HG6.out).1
 have HD1 := Aside0.mk (show Calls Try.prog 12 #[.slice Ag g.length cg, .int .i64 1] w6 (fun e w' => e = .returned (.int .i64 m) ∧ Drawn0 w6 w') by rw [HL.out]; exact laws_heldIntS.calls kh Ag cg gs 1 m _ (Kd.R_reads' HG6.out).2.2 (by rw [← HL.out]; exact (Kd.R_reads' HG6.out).2.1) A7.out)
 go_wp2_with (go_at_call 12; refine HD1.out.mono ?_; rintro e w' ⟨rfl, ⟨nd4, rfl⟩⟩)
 go_wp2_with (go_at_call 6; (with_reducible refine (laws_toIntSS.calls kt A0 c0 l0 l0 _ (Kd.C_below HR0.out (below_then HB1.out HB1.out.size (pw_below_drewN HB6.out nd4))) HC0.out AT.out).mono ?_); rintro e w7 ⟨vz, rfl, hRz, hb⟩; obtain ⟨Az, cz, hvz⟩ := Kd.S_slice hRz; subst hvz; have HZ := Aside0.mk hRz; have HG7 := Aside0.mk (Kd.R_below (Kd.R_drewN HG6.out nd4) hb); have HB7 := Aside0.mk (below_step (pw_below_drewN HB6.out nd4) hb); clear hRz hb HG6 HD1)
 go_wp2_with (go_at_call 7; (with_reducible refine (impl_FromUnitBlocks.calls ki Az cz l0 g ok w7 (Kd.S_reads' HZ.out).2.2 (Kd.S_reads' HZ.out).2.1 A2.out).mono ?_); rintro e w8 ⟨vh, rfl, hS, hb⟩; obtain ⟨Ah, ch, hvh⟩ := Kd.R_slice hS; subst hvh; have HH := Aside0.mk hS; have HG8 := Aside0.mk (Kd.R_below HG7.out hb); have HB8 := Aside0.mk (below_step HB7.out hb); clear hS hb HG7)
 go_wp2_with (go_at_call 8; (with_reducible refine (laws_eqIntS.calls ke Ah ch g Aw cw g true w8 (Kd.R_reads' HH.out).2.2 (Kd.R_reads' HH.out).2.1 (Kd.C_below HW.out HB8.out) HWc.out A3.out).mono ?_); rintro e w' ⟨rfl, ⟨nd5, rfl⟩⟩)
 have HD2 := Aside0.mk (show Calls Try.prog 12 #[.slice Ag g.length cg, .int .i64 1] (w8.drewN nd5) (fun e w' => e = .returned (.int .i64 m) ∧ Drawn0 (w8.drewN nd5) w') by rw [HL.out]; exact laws_heldIntS.calls kh Ag cg gs 1 m _ (Kd.C_drewN (Kd.R_reads' HG8.out).2.2 nd5) (by rw [← HL.out]; exact (Kd.R_reads' HG8.out).2.1) A7.out)
 go_wp2_with (go_at_call 12; refine HD2.out.mono ?_; rintro e w' ⟨rfl, ⟨nd6, rfl⟩⟩)
 go_ret
 exact ⟨rfl, by first | exact pw_below_drewN (below_then HB1.out HB1.out.size HB8.out) _ | exact pw_below_drewN (pw_below_drewN (below_then HB1.out HB1.out.size HB8.out) _) _⟩
theorem fromUnitLaw_much (A0 : Option Addr) (c0 : Nat) (l0 : List (List Int)) (kz : Nat) (left : Int) (hz : laws_szIntSS.f kz l0 1048576 = some left) (hleft : left < 0) (w : World) (hr0 : Kd.C (Kd.slice 3 (Kd.int .i64)) w A0 l0.length l0) (hc0 : l0.length ≤ c0) :
  Calls Try.prog 3 #[.slice A0 l0.length c0] w fun e w' => e = .returned (.bool true) ∧ Below w.heap.size w w' := by
 have HR0 := Aside0.mk hr0
 have HC0 := Aside0.mk hc0
 have AZ := Aside0.mk hz
 have q0 : decide (left < 0) = true := decide_eq_true hleft
 clear hz hleft hr0 hc0
 go_enter Try.func3, Try.ntmps3
 go_wp2_with (go_at_call 4; (with_reducible refine (laws_szIntSS.calls kz A0 c0 l0 1048576 left w HR0.out HC0.out AZ.out).mono ?_); rintro e w' ⟨rfl, ⟨nz, rfl⟩⟩)
 go_ret
 exact ⟨rfl, pw_below_drewN (Below.refl _ _) _⟩
def laws_FnExactFromUnitBlocks.f (k : Nat) (l0 : List (List Int)) : Option Bool :=
 (laws_szIntSS.f k l0 1048576).bind fun z => if z < 0 then some true else
 (laws_toIntSS.f k l0).bind fun t => if t = l0 then ((spec_FromUnitBlocks.f k l0).bind fun s => (impl_FromUnitBlocks.f k l0).bind fun i => if i = s then
 ((laws_eqIntS.f k s.1 s.1).bind fun e1 => if e1 = true then ((laws_eqIntSS.f k l0 l0).bind fun e2 => if e2 = true then
 ((markSK.l0 k l0 1 0).bind fun x => if 0 ≤ x.1 then ((laws_markIntS.f k s.1 1).bind fun m => if 0 ≤ m.1 then
 ((laws_heldIntS.f k m.2 1).bind fun h => if h = m.1 then some true else none) else none) else none) else none) else none) else none) else none
theorem laws_FnExactFromUnitBlocks.calls (k : Nat) (A0 : Option Addr) (c0 : Nat) (l0 : List (List Int)) (r : Bool) (w : World) (hr0 : Kd.C (Kd.slice 3 (Kd.int .i64)) w A0 l0.length l0) (hc0 : l0.length ≤ c0) (h : laws_FnExactFromUnitBlocks.f k l0 = some r) :
  Calls Try.prog 3 #[.slice A0 l0.length c0] w fun e w' => e = .returned (.bool r) ∧ Below w.heap.size w w' := by
 unfold laws_FnExactFromUnitBlocks.f at h
 obtain ⟨z, hz, h⟩ := Option.bind_eq_some_iff.mp h
 by_cases hz0 : z < 0
 ·
  rw [if_pos hz0] at h
  obtain rfl := Option.some.inj h
  exact fromUnitLaw_much A0 c0 l0 k z hz hz0 w hr0 hc0
 rw [if_neg hz0] at h
 obtain ⟨t, ht, h⟩ := Option.bind_eq_some_iff.mp h
 split at h
 case isFalse => cases h
 case isTrue e0 =>
 subst e0
 obtain ⟨s, hs, h⟩ := Option.bind_eq_some_iff.mp h
 obtain ⟨i, hi, h⟩ := Option.bind_eq_some_iff.mp h
 split at h
 case isFalse => cases h
 case isTrue e0 =>
 subst e0
 obtain ⟨e1, he1, h⟩ := Option.bind_eq_some_iff.mp h
 split at h
 case isFalse => cases h
 case isTrue e0 =>
 subst e0
 obtain ⟨e2, he2, h⟩ := Option.bind_eq_some_iff.mp h
 split at h
 case isFalse => cases h
 case isTrue e0 =>
 subst e0
 obtain ⟨x, hx, h⟩ := Option.bind_eq_some_iff.mp h
 split at h
 case isFalse => cases h
 case isTrue hx0 =>
 obtain ⟨m, hm, h⟩ := Option.bind_eq_some_iff.mp h
 split at h
 case isFalse => cases h
 case isTrue hm0 =>
 obtain ⟨q, hh, h⟩ := Option.bind_eq_some_iff.mp h
 split at h
 case isFalse => cases h
 case isTrue e0 =>
 subst e0
 obtain rfl := Option.some.inj h
 exact fromUnitLaw_walk A0 c0 _ i.1 i.2 k k k k k k k k k z x.1 m.1 x.2 m.2 hz (by omega) ht hs hi he1 he2 hx hx0 hm hh hm0 w hr0 hc0

end Go.Proofs.Ytdhfildgjmkgaaa.PAll
