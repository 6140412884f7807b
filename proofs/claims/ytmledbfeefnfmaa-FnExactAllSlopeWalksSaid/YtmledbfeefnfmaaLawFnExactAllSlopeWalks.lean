/- The walk and the row of the law FnExactAllSlopeWalks: the program's function and the reference's one answer alike, and share no memory. Condition of the walk: the pure facts, which PureFnExactAllSlopeWalks shows. -/
import Derived.Test.YtmledbfeefnfmaaRows
import Derived.Test.YtmledbfeefnfmaaPAllx2
import Derived.Test.YtmledbfeefnfmaaPAllx3
import Derived.Test.YtmledbfeefnfmaaBaseSS
import Derived.Test.YtmledbfeefnfmaaPureFnExactAllSlopeWalks
import Derived.WalkKit
import Derived.ProofKit
import Derived.OpenShut
import Derived.ShutString
import Derived.ChangeOld
import Derived.Below
import Derived.SizedLaws
import Derived.Test.YtmledbfeefnfmaaWSized
namespace Go.Proofs.Ytmledbfeefnfmaa.fnExactAllSlopeWalks
open Go.RowKit Go.Proofs.Ytmledbfeefnfmaa.Hand Go.Proofs.YtmledbfeefnfmaaW.PrintWords Go.Proofs.YtmledbfeefnfmaaW.PrintLast Go.Proofs.YtmledbfeefnfmaaW.PrintMore Go.Proofs.Ytmledbfeefnfmaa.PAll
set_option linter.unusedVariables false
set_option linter.unusedSimpArgs false
set_option maxHeartbeats 16000000 in
set_option maxRecDepth 100000 in
theorem walk1 (a0 : Int) (a1 : Int) (ws : List (List Int)) (ok : Bool) (ks ki ke km kh : Nat) (m : Int) (ms : List (List Int)) (hs : spec_AllSlopeWalks.f ks a0 a1 = some (ws, ok)) (hi : impl_AllSlopeWalks.f ki a0 a1 = some (ws, ok)) (hm0 : 0 ≤ m)
    (he : laws_eqIntSS.f ke ws ws = some true) (hm : markSS.l0 km ws 1 0 = some (m, ms)) (hh : laws_heldIntSS.f kh ms 1 = some m) (w : World) :
    Calls Try.prog 3 #[.int .i64 a0, .int .i64 a1] w fun e w' => e = .returned (.bool true) ∧ Below w.heap.size w w' := by
  have A1 := Aside0.mk hs
  have A2 := Aside0.mk hi
  have A3 := Aside0.mk he
  have A4 := Aside0.mk hm
  have A5 := Aside0.mk hh
  have q1 : decide (m < 0) = false := decide_eq_false (by omega)
  clear hs hi he hm hh hm0
  go_enter Try.func3, Try.ntmps3
  go_wp2_with (go_at_call 5; refine (spec_AllSlopeWalks.calls ks a0 a1 ws ok w A1.out).mono ?_; rintro e w1 ⟨vw, rfl, hN, hb⟩; obtain ⟨Aw, cw, hvw, hcw, hCw⟩ := Kd.N_reads hN; subst hvw; have HW := Aside0.mk hCw; have HWc := Aside0.mk hcw; have HB1 := Aside0.mk hb; clear hN hcw hCw hb)
  go_wp2_with (go_at_call 6; refine (impl_AllSlopeWalks.calls ki a0 a1 ws ok w1 A2.out).mono ?_; rintro e w2 ⟨vg, rfl, hS, hb⟩; obtain ⟨Ag, cg, hvg⟩ := Kd.S_slice hS; subst hvg; have HG := Aside0.mk hS; have HB2 := Aside0.mk hb; clear hS hb)
  go_wp2_with (go_at_call 7; refine (laws_eqIntSS.calls ke Ag cg ws Aw cw ws true w2 (Kd.S_reads' HG.out).2.2 (Kd.S_reads' HG.out).2.1 (Kd.C_below HW.out HB2.out) HWc.out A3.out).mono ?_; rintro e w' ⟨rfl, ⟨nd, rfl⟩⟩)
  go_wp2_with (go_at_call 8; refine (markSS.calls km ws 1 m ms (.slice Ag ws.length cg) w1 (w2.drewN nd) (pw_below_drewN HB2.out nd) (Kd.S_drewN HG.out nd) A4.out).mono ?_; rintro e w3 ⟨rfl, hS3, hb3⟩; have HG3 := Aside0.mk hS3; have HB3 := Aside0.mk hb3; clear hS3 hb3 HG)
  have HD1 := Aside0.mk (show Calls Try.prog 9 #[.slice Ag ws.length cg, .int .i64 1] w3 (fun e w' => e = .returned (.int .i64 m) ∧ Drawn0 w3 w') by rw [(Kd.S_reads' HG3.out).1]; exact laws_heldIntSS.calls kh Ag cg ms 1 m _ (Kd.S_reads' HG3.out).2.2 (by rw [← (Kd.S_reads' HG3.out).1]; exact (Kd.S_reads' HG3.out).2.1) A5.out)
  go_wp2_with (go_at_call 9; refine HD1.out.mono ?_; rintro e w' ⟨rfl, ⟨nd2, rfl⟩⟩)
  go_wp2_with (go_at_call 6; refine (impl_AllSlopeWalks.calls ki a0 a1 ws ok (w3.drewN nd2) A2.out).mono ?_; rintro e w4 ⟨vh, rfl, hS4, hb4⟩; obtain ⟨Ah, ch, hvh⟩ := Kd.S_slice hS4; subst hvh; have HH := Aside0.mk hS4; have HB4 := Aside0.mk (below_step (pw_below_drewN HB3.out nd2) hb4); have HG4 := Aside0.mk (Kd.S_below (Kd.S_drewN HG3.out nd2) hb4); clear hS4 hb4 HD1)
  go_wp2_with (go_at_call 7; refine (laws_eqIntSS.calls ke Ah ch ws Aw cw ws true w4 (Kd.S_reads' HH.out).2.2 (Kd.S_reads' HH.out).2.1 (Kd.C_below HW.out HB4.out) HWc.out A3.out).mono ?_; rintro e w' ⟨rfl, ⟨nd3, rfl⟩⟩)
  have HD2 := Aside0.mk (show Calls Try.prog 9 #[.slice Ag ws.length cg, .int .i64 1] (w4.drewN nd3) (fun e w' => e = .returned (.int .i64 m) ∧ Drawn0 (w4.drewN nd3) w') by rw [(Kd.S_reads' (Kd.S_drewN HG4.out nd3)).1]; exact laws_heldIntSS.calls kh Ag cg ms 1 m _ (Kd.S_reads' (Kd.S_drewN HG4.out nd3)).2.2 (by rw [← (Kd.S_reads' (Kd.S_drewN HG4.out nd3)).1]; exact (Kd.S_reads' (Kd.S_drewN HG4.out nd3)).2.1) A5.out)
  go_wp2_with (go_at_call 9; refine HD2.out.mono ?_; rintro e w' ⟨rfl, ⟨nd4, rfl⟩⟩)
  go_ret
  exact ⟨rfl, by first | exact pw_below_drewN (below_then HB1.out HB1.out.size HB4.out) _ | exact pw_below_drewN (pw_below_drewN (below_then HB1.out HB1.out.size HB4.out) _) _⟩
theorem walk (a0 : Int) (a1 : Int) (w : World) : Calls Try.prog 3 #[.int .i64 a0, .int .i64 a1] w fun e w' => e = .returned (.bool true) ∧ Below w.heap.size w w' := by
  obtain ⟨ws, ok, hl, hx, ⟨ks, hs⟩, ⟨ki, hi⟩⟩ := Pure.FnExactAllSlopeWalks a0 a1
  obtain ⟨m, ms, hm0, ⟨ke, he⟩, ⟨km, hm⟩, ⟨kh, hh⟩⟩ := Plain.ss_facts ws hl hx
  exact walk1 a0 a1 ws ok ks ki ke km kh m ms hs hi hm0 he hm hh w
open Go.ChangeShapes Go.WideShapes Go.ChangeAt
open Go.ChangeMaps (open_string shut_string)
theorem own : ownKnob Try.prog.godebug = none := by kernel_rfl
set_option maxRecDepth 100000 in
theorem lifted (os : Os) (started : os.Started) (H : Type) (enc : TypeId × Value → H) :
    ReturnsInHanded {} Try.checked os 3 .any (Rows.fnExactAllSlopeWalksSpec.pre6 enc Try.prog Try.f3 Rows.fnExactAllSlopeWalksRow.domain false) (Rows.fnExactAllSlopeWalksSpec.post enc Try.prog Try.f3 false true false false) := by
  refine returnsInHanded_of_change_sized (C := Try.checked) own started (by kernel_rfl) Try.func3
    (ChangeSpec.witness6 (enc := enc) (C := Try.checked) false ⟨#[], #[.int .i64 0, .int .i64 0], []⟩ 8 (by kernel_rfl) (by kernel_rfl) (by kernel_rfl) (by kernel_rfl)) ?_
  intro W base args ds gs before hval0 hW hcnd hsz0 _
  have hval : ∀ (j : Nat) t v, Try.f3.params[j]? = some t → args[j]? = some v → Value.okWide Try.prog W .any base t v := hval0
  have hW' := hW
  obtain ⟨p, q, hA0, hV, rfl, hfz, hnd⟩ := hW
  have hA : DataW.TrodAll enc Try.prog W 0 (fun _ => true) true Try.f3.params.toList args.toList ds p := hA0
  rw [Try.params3] at hA hval
  obtain ⟨v0, vs0, d0, ds0, p0, q0, hargs, rfl, rfl, h0, r0⟩ := trodAll_cons hA
  obtain ⟨v1, vs1, d1, ds1, p1, q1, rfl, rfl, rfl, h1, r1⟩ := trodAll_cons r0
  obtain ⟨rfl, rfl, rfl⟩ := trodAll_nil r1
  obtain rfl : args = #[v0, v1] := by cases args; simp_all
  obtain ⟨rfl, rfl⟩ := trodVars_none hV
  obtain ⟨a0, rfl, rfl, rfl, w0⟩ := open_int Try.underlying3 (hval 0 3 v0 rfl rfl) h0
  obtain ⟨a1, rfl, rfl, rfl, w1⟩ := open_int Try.underlying3 (hval 1 3 v1 rfl rfl) h1
  clear hA0 hval0 hsz0
  refine (walk a0 a1 W).mono fun e W' ⟨he, bel⟩ => ?_
  subst he
  exact ⟨_, rfl, _, _, _, [], _, [], hW', trodAll_mk1 (shut_bool Try.underlying4 _), (trodAll_cons_mk (shut_int Try.underlying3 w0) (trodAll_cons_mk (shut_int Try.underlying3 w1) trodAll_mk0)), rfl, bel.frame _, fun h => by cases h⟩
theorem over : Rows.fnExactAllSlopeWalksRow.holds Try.pinned (OpenSpec.ofChange Rows.fnExactAllSlopeWalksSpec) :=
  OpenClaim.holds_of_wide 3 Try.f3 rfl rfl rfl rfl rfl rfl rfl ⟨rfl, rfl, rfl, rfl, rfl⟩ rfl rfl rfl rfl rfl (by kernel_rfl) Try.func3 (by kernel_rfl)
    (of_decide_eq_true (by kernel_rfl)) (by unfold Func.isWrapper; first | (rw [if_pos (by decide +kernel)]; kernel_rfl) | (rw [if_neg (by decide +kernel)]; exact ⟨rfl, rfl⟩))
    (fun os started H enc _ => lifted os started H enc)
theorem proved : Rows.FnExactAllSlopeWalksSaid := over
#print axioms proved
end Go.Proofs.Ytmledbfeefnfmaa.fnExactAllSlopeWalks
namespace Go.Proofs.Ytmledbfeefnfmaa
/-- The row, under a short name, for the claim. -/
theorem fnExactAllSlopeWalks_holds : Rows.FnExactAllSlopeWalksSaid := fnExactAllSlopeWalks.proved
end Go.Proofs.Ytmledbfeefnfmaa
