/- The walk and the row of the law FnExactUnitBlocks: the program's function and the reference's one answer alike, and share no memory. Condition of the walk: the pure facts, which PureFnExactUnitBlocks shows. -/
import Derived.Test.YtcmpeimpddngbaaRows
import Derived.Test.YtcmpeimpddngbaaPAllx1
import Derived.Test.YtcmpeimpddngbaaPAllx2
import Derived.Test.YtcmpeimpddngbaaPAllx3
import Derived.Test.YtcmpeimpddngbaaBaseSS
import Derived.Test.YtcmpeimpddngbaaPureFnExactUnitBlocks
import Derived.WalkKit
import Derived.ProofKit
import Derived.OpenShut
import Derived.ShutString
import Derived.ChangeOld
import Derived.Below
import Derived.SizedLaws
import Derived.Test.YtcmpeimpddngbaaWSized
namespace Go.Proofs.Ytcmpeimpddngbaa.fnExactUnitBlocks
open Go.RowKit Go.Proofs.Ytcmpeimpddngbaa.Hand Go.Proofs.YtcmpeimpddngbaaW.PrintWords Go.Proofs.YtcmpeimpddngbaaW.PrintLast Go.Proofs.YtcmpeimpddngbaaW.PrintMore Go.Proofs.Ytcmpeimpddngbaa.PAll
set_option linter.unusedVariables false
set_option linter.unusedSimpArgs false
set_option maxHeartbeats 16000000 in
set_option maxRecDepth 100000 in
theorem walk1 (A0 : Option Addr) (c0 : Nat) (l0 : List Int) (ws : List (List Int)) (ok : Bool) (ks ki ke km kh kt kq kx : Nat) (m x1 : Int) (ms : List (List Int)) (xs : List Int) (hs : spec_UnitBlocks.f ks l0 = some (ws, ok)) (hi : impl_UnitBlocks.f ki l0 = some (ws, ok)) (hm0 : 0 ≤ m) (hx0 : 0 ≤ x1)
    (he : laws_eqIntSS.f ke ws ws = some true) (hm : markSS.l0 km ws 1 0 = some (m, ms)) (hh : laws_heldIntSS.f kh ms 1 = some m) (ht : laws_toIntS.f kt l0 = some l0) (hq : laws_eqIntS.f kq l0 l0 = some true) (hmx : laws_markIntS.f kx l0 1 = some (x1, xs))
    (hsz : (l0.length : Int) ≤ 1048576) (w : World) (hr0 : Kd.C (Kd.int .i64) w A0 l0.length l0) (hc0 : l0.length ≤ c0) :
    Calls Try.prog 12 #[.slice A0 l0.length c0] w fun e w' => e = .returned (.bool true) ∧ Below w.heap.size w w' := by
  have HR0 := Aside0.mk hr0
  have HC0 := Aside0.mk hc0
  have A1 := Aside0.mk hs
  have A2 := Aside0.mk hi
  have A3 := Aside0.mk he
  have A4 := Aside0.mk hm
  have A5 := Aside0.mk hh
  have A6 := Aside0.mk ht
  have A7 := Aside0.mk hq
  have A8 := Aside0.mk hmx
  have q0 : decide ((1048576 : Int) < (l0.length : Int)) = false := decide_eq_false (by omega)
  have q1 : decide (m < 0) = false := decide_eq_false (by omega)
  have q2 : decide (x1 < 0) = false := decide_eq_false (by omega)
  clear hs hi he hm hh hm0 ht hq hmx hx0 hsz hr0 hc0
  go_enter Try.func12, Try.ntmps12
  go_wp2_with (go_at_call 16; refine (laws_toIntS.calls kt A0 c0 l0 l0 w HR0.out HC0.out A6.out).mono ?_; rintro e wa ⟨va, rfl, hRa, hb⟩; obtain ⟨Aa, ca, hva⟩ := Kd.R_slice hRa; subst hva; have HRa := Aside0.mk hRa; have HBa := Aside0.mk hb; clear hRa hb)
  go_wp2_with (go_at_call 43; refine (spec_UnitBlocks.calls ks Aa ca l0 ws ok wa (Kd.R_reads' HRa.out).2.2 (Kd.R_reads' HRa.out).2.1 A1.out).mono ?_; rintro e w1 ⟨vw, rfl, hN, hb⟩; obtain ⟨Aw, cw, hvw, hcw, hCw⟩ := Kd.S_reads hN; subst hvw; have HW := Aside0.mk hCw; have HWc := Aside0.mk hcw; have HB1 := Aside0.mk (below_then HBa.out HBa.out.size hb); clear hN hcw hCw hb HRa)
  go_wp2_with (go_at_call 16; refine (laws_toIntS.calls kt A0 c0 l0 l0 w1 (Kd.C_below HR0.out HB1.out) HC0.out A6.out).mono ?_; rintro e w2 ⟨vx, rfl, hRx, hb⟩; obtain ⟨Ax, cx, hvx⟩ := Kd.R_slice hRx; subst hvx; have HX := Aside0.mk hRx; have HB2 := Aside0.mk hb; clear hRx hb)
  go_wp2_with (go_at_call 44; refine (impl_UnitBlocks.calls ki Ax cx l0 ws ok w2 (Kd.R_reads' HX.out).2.2 (Kd.R_reads' HX.out).2.1 A2.out).mono ?_; rintro e w3 ⟨vg, rfl, hS, hb⟩; obtain ⟨Ag, cg, hvg⟩ := Kd.S_slice hS; subst hvg; have HG := Aside0.mk hS; have HL := Aside0.mk (Kd.R_lt HX.out); have HX3 := Aside0.mk (Kd.R_below HX.out hb); have HB3 := Aside0.mk (below_step HB2.out hb); clear hS hb HX)
  go_wp2_with (go_at_call 26; refine (laws_eqIntSS.calls ke Ag cg ws Aw cw ws true w3 (Kd.S_reads' HG.out).2.2 (Kd.S_reads' HG.out).2.1 (Kd.C_below HW.out HB3.out) HWc.out A3.out).mono ?_; rintro e w' ⟨rfl, ⟨nd, rfl⟩⟩)
  go_wp2_with (go_at_call 16; refine (laws_toIntS.calls kt A0 c0 l0 l0 _ (Kd.C_below HR0.out (below_then HB1.out HB1.out.size (pw_below_drewN HB3.out nd))) HC0.out A6.out).mono ?_; rintro e w4 ⟨vy, rfl, hRy, hb⟩; obtain ⟨Ay, cy, hvy⟩ := Kd.R_slice hRy; subst hvy; have HY := Aside0.mk hRy; have HX4 := Aside0.mk (Kd.R_below (Kd.R_drewN HX3.out nd) hb); have HG4 := Aside0.mk (Kd.S_below (Kd.S_drewN HG.out nd) hb); have HB4 := Aside0.mk (below_step (pw_below_drewN HB3.out nd) hb); clear hRy hb HX3 HG)
  go_wp2_with (go_at_call 18; refine (laws_eqIntS.calls kq Ax cx l0 Ay cy l0 true w4 (Kd.R_reads' HX4.out).2.2 (Kd.R_reads' HX4.out).2.1 (Kd.R_reads' HY.out).2.2 (Kd.R_reads' HY.out).2.1 A7.out).mono ?_; rintro e w' ⟨rfl, ⟨nd2, rfl⟩⟩)
  go_wp2_with (go_at_call 27; refine (laws_markIntS.calls kx (fun k_ => some k_ = (Value.slice Ax l0.length cx).ownBlock) (.slice Ax l0.length cx) l0 1 x1 xs w1 (w4.drewN nd2) (pw_below_drewN HB4.out nd2) (Kd.R_tight rfl (Kd.R_drewN HX4.out nd2)) A8.out).mono ?_; rintro e w5 ⟨rfl, hRx, hb5, hk5⟩; have HB5 := Aside0.mk hb5; have HG5 := Aside0.mk (Kd.S_mono (Kd.S_step (w1 := w5) (Kd.S_bound (Kd.S_drewN HG4.out nd2)) (fun k_ hk_ hl_ => hk5.2 k_ hl_ (fun h_ => by have := HL.out k_ h_.symm; have := hk_.2.1; omega))) (fun _ hk_ => hk_.1)); clear hRx hb5 hk5 HG4 HX4 HY HL)
  go_wp2_with (go_at_call 26; refine (laws_eqIntSS.calls ke Ag cg ws Aw cw ws true w5 (Kd.S_reads' HG5.out).2.2 (Kd.S_reads' HG5.out).2.1 (Kd.C_below HW.out HB5.out) HWc.out A3.out).mono ?_; rintro e w' ⟨rfl, ⟨nd3, rfl⟩⟩)
  go_wp2_with (go_at_call 28; refine (markSS.calls km ws 1 m ms (.slice Ag ws.length cg) w1 (w5.drewN nd3) (pw_below_drewN HB5.out nd3) (Kd.S_lower (Kd.S_drewN HG5.out nd3) (HB2.out.size)) A4.out).mono ?_; rintro e w6 ⟨rfl, hS6, hb6⟩; have HG6 := Aside0.mk hS6; have HB6 := Aside0.mk hb6; clear hS6 hb6 HG5)
  have HD1 := Aside0.mk (show Calls Try.prog 29 #[.slice Ag ws.length cg, .int .i64 1] w6 (fun e w' => e = .returned (.int .i64 m) ∧ Drawn0 w6 w') by rw [(Kd.S_reads' HG6.out).1]; exact laws_heldIntSS.calls kh Ag cg ms 1 m _ (Kd.S_reads' HG6.out).2.2 (by rw [← (Kd.S_reads' HG6.out).1]; exact (Kd.S_reads' HG6.out).2.1) A5.out)
  go_wp2_with (go_at_call 29; refine HD1.out.mono ?_; rintro e w' ⟨rfl, ⟨nd4, rfl⟩⟩)
  go_wp2_with (go_at_call 16; refine (laws_toIntS.calls kt A0 c0 l0 l0 _ (Kd.C_below HR0.out (below_then HB1.out HB1.out.size (pw_below_drewN HB6.out nd4))) HC0.out A6.out).mono ?_; rintro e w7 ⟨vz, rfl, hRz, hb⟩; obtain ⟨Az, cz, hvz⟩ := Kd.R_slice hRz; subst hvz; have HZ := Aside0.mk hRz; have HG7 := Aside0.mk (Kd.S_below (Kd.S_drewN HG6.out nd4) hb); have HB7 := Aside0.mk (below_step (pw_below_drewN HB6.out nd4) hb); clear hRz hb HD1 HG6)
  go_wp2_with (go_at_call 44; refine (impl_UnitBlocks.calls ki Az cz l0 ws ok w7 (Kd.R_reads' HZ.out).2.2 (Kd.R_reads' HZ.out).2.1 A2.out).mono ?_; rintro e w8 ⟨vh, rfl, hS, hb⟩; obtain ⟨Ah, ch, hvh⟩ := Kd.S_slice hS; subst hvh; have HH := Aside0.mk hS; have HG8 := Aside0.mk (Kd.S_below HG7.out hb); have HB8 := Aside0.mk (below_step HB7.out hb); clear hS hb HG7)
  go_wp2_with (go_at_call 26; refine (laws_eqIntSS.calls ke Ah ch ws Aw cw ws true w8 (Kd.S_reads' HH.out).2.2 (Kd.S_reads' HH.out).2.1 (Kd.C_below HW.out HB8.out) HWc.out A3.out).mono ?_; rintro e w' ⟨rfl, ⟨nd5, rfl⟩⟩)
  have HD2 := Aside0.mk (show Calls Try.prog 29 #[.slice Ag ws.length cg, .int .i64 1] (w8.drewN nd5) (fun e w' => e = .returned (.int .i64 m) ∧ Drawn0 (w8.drewN nd5) w') by rw [(Kd.S_reads' (Kd.S_drewN HG8.out nd5)).1]; exact laws_heldIntSS.calls kh Ag cg ms 1 m _ (Kd.S_reads' (Kd.S_drewN HG8.out nd5)).2.2 (by rw [← (Kd.S_reads' (Kd.S_drewN HG8.out nd5)).1]; exact (Kd.S_reads' (Kd.S_drewN HG8.out nd5)).2.1) A5.out)
  go_wp2_with (go_at_call 29; refine HD2.out.mono ?_; rintro e w' ⟨rfl, ⟨nd6, rfl⟩⟩)
  go_ret
  exact ⟨rfl, by first | exact pw_below_drewN (below_then HB1.out HB1.out.size HB8.out) _ | exact pw_below_drewN (pw_below_drewN (below_then HB1.out HB1.out.size HB8.out) _) _⟩
set_option maxHeartbeats 16000000 in
set_option maxRecDepth 100000 in
theorem walk0 (A0 : Option Addr) (c0 : Nat) (l0 : List Int) (hsz : 1048576 < (l0.length : Int)) (w : World) :
    Calls Try.prog 12 #[.slice A0 l0.length c0] w fun e w' => e = .returned (.bool true) ∧ Below w.heap.size w w' := by
  have q0 : decide ((1048576 : Int) < (l0.length : Int)) = true := decide_eq_true hsz
  clear hsz
  go_enter Try.func12, Try.ntmps12
  go_wp2
  go_ret
  exact ⟨rfl, Below.refl _ _⟩
theorem ev_ {α : Type} {g : Nat → Option α} {r : α} (h : Ev g r) : ∃ k, g k = some r := Ev.rounds h
def IsRow (k : IntKind) (w : World) (a : Option Addr) (len cap : Nat) (zs : List Int) : Prop :=
  (a = none ∧ len = 0 ∧ cap = 0 ∧ zs = []) ∨
  ∃ x, a = some x ∧ len ≤ cap ∧ cap ≤ maxLen ∧ zs.length = cap ∧ (∀ i, i < zs.length → w.cell? (x.add i) = some (.int k (zs.getD i 0))) ∧ ∀ n ∈ zs, (Lit.int k n).wf = true
theorem walk (a0 : Option Addr) (len0 cap0 : Nat) (z0 : List Int) (w : World) (w0 : IsRow .i64 w a0 len0 cap0 z0) :
    Calls Try.prog 12 #[.slice a0 len0 cap0] w fun e w' => e = .returned (.bool true) ∧ Below w.heap.size w w' := by
  obtain ⟨l0, rfl, hr0, hm0, hw0, hc0⟩ := ReadsInt.ofRowC w0
  by_cases hsz : (l0.length : Int) ≤ 1048576
  · obtain ⟨ws, ok, hl, hx, ⟨ks, hs⟩, ⟨ki, hi⟩⟩ := Pure.FnExactUnitBlocks l0 (by omega)
    obtain ⟨m, ms, hm0, ⟨ke, he⟩, ⟨km, hm⟩, ⟨kh, hh⟩⟩ := Plain.ss_facts ws hl hx
    obtain ⟨kt, ht⟩ := ev_ (Plain.toIntS_ev l0 (by omega))
    obtain ⟨kq, hq⟩ := ev_ (Plain.eqIntS_same l0 (by omega))
    obtain ⟨kx, hmx⟩ := ev_ (Plain.markIntS_ev l0 1 (by omega) (by omega) (by omega))
    exact walk1 a0 cap0 l0 ws ok ks ki ke km kh kt kq kx m _ ms _ hs hi hm0 (by omega) he hm hh ht hq hmx hsz w (Kd.C_of_reads (d := (0 : Int)) (h1 := fun _ => rfl) hr0) hc0
  · exact walk0 a0 cap0 l0 (by omega) w
open Go.ChangeShapes Go.WideShapes Go.ChangeAt
open Go.ChangeMaps (open_string shut_string)
theorem own : ownKnob Try.prog.godebug = none := by kernel_rfl
theorem laidOut : laidOutB Try.prog = true := by kernel_rfl
set_option maxRecDepth 100000 in
theorem lifted (os : Os) (started : os.Started) (H : Type) (enc : TypeId × Value → H) :
    ReturnsInHanded {} Try.checked os 12 .any (Rows.fnExactUnitBlocksSpec.pre6 enc Try.prog Try.f12 Rows.fnExactUnitBlocksRow.domain false) (Rows.fnExactUnitBlocksSpec.post enc Try.prog Try.f12 false true false false) := by
  refine returnsInHanded_of_change_sized (C := Try.checked) own started (by kernel_rfl) Try.func12
    (ChangeSpec.witness6 (enc := enc) (C := Try.checked) false ⟨#[], #[.slice none 0 0], []⟩ 8 (by kernel_rfl) (by kernel_rfl) (by kernel_rfl) (by kernel_rfl)) ?_
  intro W base args ds gs before hval0 hW hcnd hsz0 _
  have hval : ∀ (j : Nat) t v, Try.f12.params[j]? = some t → args[j]? = some v → Value.okWide Try.prog W .any base t v := hval0
  have hW' := hW
  obtain ⟨p, q, hA0, hV, rfl, hfz, hnd⟩ := hW
  have hA : DataW.TrodAll enc Try.prog W 0 (fun _ => true) true Try.f12.params.toList args.toList ds p := hA0
  rw [Try.params12] at hA hval
  obtain ⟨v0, vs0, d0, ds0, p0, q0, hargs, rfl, rfl, h0, r0⟩ := trodAll_cons hA
  obtain ⟨rfl, rfl, rfl⟩ := trodAll_nil r0
  obtain rfl : args = #[v0] := by cases args; simp_all
  obtain ⟨rfl, rfl⟩ := trodVars_none hV
  obtain ⟨a0, len0, cap0, rfl⟩ := okWide_slice Try.underlying22 (hval 0 22 v0 rfl rfl)
  have k0 := h0
  have lt0 : ∀ x ∈ p0, x.block < W.heap.size := by obtain ⟨m, hm⟩ := k0; exact DataW.trod_lt m _ _ _ hm
  obtain ⟨z0, w0⟩ : ∃ zs, IsRow .i64 W a0 len0 cap0 zs := by
    obtain ⟨fuel, hf⟩ := h0
    rcases open_ints Try.underlying22 Try.underlying3 (by kernel_rfl) hf with ⟨hcs, _⟩ | ⟨x, l, c, zs, hcs, _, hl, hm, hz, _, hcell, hwz⟩
    · simp [Value.cells] at hcs
      obtain ⟨rfl, rfl, rfl⟩ := hcs
      exact ⟨[], .inl ⟨rfl, rfl, rfl, rfl⟩⟩
    · simp [Value.cells] at hcs
      obtain ⟨rfl, rfl, rfl⟩ := hcs
      exact ⟨zs, .inr ⟨_, rfl, hl, hm, by simpa using hz, hcell, hwz⟩⟩
  clear hA0 hval0 hsz0
  refine (walk a0 len0 cap0 z0 W w0).mono fun e W' ⟨he, bel⟩ => ?_
  subst he
  exact ⟨_, rfl, _, _, _, [], _, [], hW', trodAll_mk1 (shut_bool Try.underlying4 _), (trodAll_cons_mk (Below.trod laidOut (by kernel_rfl) (of_decide_eq_true (by kernel_rfl)) k0 bel lt0) trodAll_mk0), rfl, bel.frame _, fun h => by cases h⟩
theorem over : Rows.fnExactUnitBlocksRow.holds Try.pinned (OpenSpec.ofChange Rows.fnExactUnitBlocksSpec) :=
  OpenClaim.holds_of_wide 12 Try.f12 rfl rfl rfl rfl rfl rfl rfl ⟨rfl, rfl, rfl, rfl, rfl⟩ rfl rfl rfl rfl rfl (by kernel_rfl) Try.func12 (by kernel_rfl)
    (of_decide_eq_true (by kernel_rfl)) (by unfold Func.isWrapper; first | (rw [if_pos (by decide +kernel)]; kernel_rfl) | (rw [if_neg (by decide +kernel)]; exact ⟨rfl, rfl⟩))
    (fun os started H enc _ => lifted os started H enc)
theorem proved : Rows.FnExactUnitBlocksSaid := over
#print axioms proved
end Go.Proofs.Ytcmpeimpddngbaa.fnExactUnitBlocks
namespace Go.Proofs.Ytcmpeimpddngbaa
/-- The row, under a short name, for the claim. -/
theorem fnExactUnitBlocks_holds : Rows.FnExactUnitBlocksSaid := fnExactUnitBlocks.proved
end Go.Proofs.Ytcmpeimpddngbaa
