/- The walk and the row of the law FnExactAllPrime: the program's function and the reference's one answer alike, and share no memory. Condition of the walk: the pure facts, which PureFnExactAllPrime shows. -/
import Derived.Test.YtcmpeimpddngbaaRows
import Derived.Test.YtcmpeimpddngbaaPAllx1
import Derived.Test.YtcmpeimpddngbaaPAllx4
import Derived.Test.YtcmpeimpddngbaaBaseSS
import Derived.Test.YtcmpeimpddngbaaPureFnExactAllPrime
import Derived.Test.YtcmpeimpddngbaaBasePr
import Derived.WalkKit
import Derived.ProofKit
import Derived.OpenShut
import Derived.ShutString
import Derived.ChangeOld
import Derived.Below
import Derived.SizedLaws
import Derived.Test.YtcmpeimpddngbaaWSized
namespace Go.Proofs.Ytcmpeimpddngbaa.fnExactAllPrime
open Go.RowKit Go.Proofs.Ytcmpeimpddngbaa.Hand Go.Proofs.YtcmpeimpddngbaaW.PrintWords Go.Proofs.YtcmpeimpddngbaaW.PrintLast Go.Proofs.YtcmpeimpddngbaaW.PrintMore Go.Proofs.Ytcmpeimpddngbaa.PAll
set_option linter.unusedVariables false
set_option linter.unusedSimpArgs false
set_option maxHeartbeats 16000000 in
set_option maxRecDepth 100000 in
theorem walk1 (a0 : Int) (ws : List (List Int)) (ok : Bool) (ks ki ke km kh : Nat) (m : Int) (ms : List (List Int)) (hs : spec_AllPrime.f ks a0 = some (ws, ok)) (hi : impl_AllPrime.f ki a0 = some (ws, ok)) (hm0 : 0 ≤ m)
    (he : laws_eqIntSS.f ke ws ws = some true) (hm : markSS.l0 km ws 1 0 = some (m, ms)) (hh : laws_heldIntSS.f kh ms 1 = some m) (w : World) :
    Calls Try.prog 9 #[.int .i64 a0] w fun e w' => e = .returned (.bool true) ∧ Below w.heap.size w w' := by
  have A1 := Aside0.mk hs
  have A2 := Aside0.mk hi
  have A3 := Aside0.mk he
  have A4 := Aside0.mk hm
  have A5 := Aside0.mk hh
  have q1 : decide (m < 0) = false := decide_eq_false (by omega)
  clear hs hi he hm hh hm0
  go_enter Try.func9, Try.ntmps9
  go_wp2_with (go_at_call 36; refine (spec_AllPrime.calls ks a0 ws ok w A1.out).mono ?_; rintro e w1 ⟨vw, rfl, hN, hb⟩; obtain ⟨Aw, cw, hvw, hcw, hCw⟩ := Kd.N_reads hN; subst hvw; have HW := Aside0.mk hCw; have HWc := Aside0.mk hcw; have HB1 := Aside0.mk hb; clear hN hcw hCw hb)
  go_wp2_with (go_at_call 37; refine (impl_AllPrime.calls ki a0 ws ok w1 A2.out).mono ?_; rintro e w2 ⟨vg, rfl, hS, hb⟩; obtain ⟨Ag, cg, hvg⟩ := Kd.S_slice hS; subst hvg; have HG := Aside0.mk hS; have HB2 := Aside0.mk hb; clear hS hb)
  go_wp2_with (go_at_call 26; refine (laws_eqIntSS.calls ke Ag cg ws Aw cw ws true w2 (Kd.S_reads' HG.out).2.2 (Kd.S_reads' HG.out).2.1 (Kd.C_below HW.out HB2.out) HWc.out A3.out).mono ?_; rintro e w' ⟨rfl, ⟨nd, rfl⟩⟩)
  go_wp2_with (go_at_call 28; refine (markSS.calls km ws 1 m ms (.slice Ag ws.length cg) w1 (w2.drewN nd) (pw_below_drewN HB2.out nd) (Kd.S_drewN HG.out nd) A4.out).mono ?_; rintro e w3 ⟨rfl, hS3, hb3⟩; have HG3 := Aside0.mk hS3; have HB3 := Aside0.mk hb3; clear hS3 hb3 HG)
  have HD1 := Aside0.mk (show Calls Try.prog 29 #[.slice Ag ws.length cg, .int .i64 1] w3 (fun e w' => e = .returned (.int .i64 m) ∧ Drawn0 w3 w') by rw [(Kd.S_reads' HG3.out).1]; exact laws_heldIntSS.calls kh Ag cg ms 1 m _ (Kd.S_reads' HG3.out).2.2 (by rw [← (Kd.S_reads' HG3.out).1]; exact (Kd.S_reads' HG3.out).2.1) A5.out)
  go_wp2_with (go_at_call 29; refine HD1.out.mono ?_; rintro e w' ⟨rfl, ⟨nd2, rfl⟩⟩)
  go_wp2_with (go_at_call 37; refine (impl_AllPrime.calls ki a0 ws ok (w3.drewN nd2) A2.out).mono ?_; rintro e w4 ⟨vh, rfl, hS4, hb4⟩; obtain ⟨Ah, ch, hvh⟩ := Kd.S_slice hS4; subst hvh; have HH := Aside0.mk hS4; have HB4 := Aside0.mk (below_step (pw_below_drewN HB3.out nd2) hb4); have HG4 := Aside0.mk (Kd.S_below (Kd.S_drewN HG3.out nd2) hb4); clear hS4 hb4 HD1)
  go_wp2_with (go_at_call 26; refine (laws_eqIntSS.calls ke Ah ch ws Aw cw ws true w4 (Kd.S_reads' HH.out).2.2 (Kd.S_reads' HH.out).2.1 (Kd.C_below HW.out HB4.out) HWc.out A3.out).mono ?_; rintro e w' ⟨rfl, ⟨nd3, rfl⟩⟩)
  have HD2 := Aside0.mk (show Calls Try.prog 29 #[.slice Ag ws.length cg, .int .i64 1] (w4.drewN nd3) (fun e w' => e = .returned (.int .i64 m) ∧ Drawn0 (w4.drewN nd3) w') by rw [(Kd.S_reads' (Kd.S_drewN HG4.out nd3)).1]; exact laws_heldIntSS.calls kh Ag cg ms 1 m _ (Kd.S_reads' (Kd.S_drewN HG4.out nd3)).2.2 (by rw [← (Kd.S_reads' (Kd.S_drewN HG4.out nd3)).1]; exact (Kd.S_reads' (Kd.S_drewN HG4.out nd3)).2.1) A5.out)
  go_wp2_with (go_at_call 29; refine HD2.out.mono ?_; rintro e w' ⟨rfl, ⟨nd4, rfl⟩⟩)
  go_ret
  exact ⟨rfl, by first | exact pw_below_drewN (below_then HB1.out HB1.out.size HB4.out) _ | exact pw_below_drewN (pw_below_drewN (below_then HB1.out HB1.out.size HB4.out) _) _⟩
theorem walk (a0 : Int) (w : World) : Calls Try.prog 9 #[.int .i64 a0] w fun e w' => e = .returned (.bool true) ∧ Below w.heap.size w w' := by
  obtain ⟨ws, ok, hl, hx, ⟨ks, hs⟩, ⟨ki, hi⟩⟩ := Pure.FnExactAllPrime a0
  obtain ⟨m, ms, hm0, ⟨ke, he⟩, ⟨km, hm⟩, ⟨kh, hh⟩⟩ := Plain.ss_facts ws hl hx
  exact walk1 a0 ws ok ks ki ke km kh m ms hs hi hm0 he hm hh w
open Go.ChangeShapes Go.WideShapes Go.ChangeAt
open Go.ChangeMaps (open_string shut_string)
theorem own : ownKnob Try.prog.godebug = none := by kernel_rfl
set_option maxRecDepth 100000 in
theorem lifted (os : Os) (started : os.Started) (H : Type) (enc : TypeId × Value → H) :
    ReturnsInHanded {} Try.checked os 9 .any (Rows.fnExactAllPrimeSpec.pre6 enc Try.prog Try.f9 Rows.fnExactAllPrimeRow.domain false) (Rows.fnExactAllPrimeSpec.post enc Try.prog Try.f9 false true false false) := by
  refine returnsInHanded_of_change_sized (C := Try.checked) own started (by kernel_rfl) Try.func9
    (ChangeSpec.witness6 (enc := enc) (C := Try.checked) false ⟨#[], #[.int .i64 0], []⟩ 8 (by kernel_rfl) (by kernel_rfl) (by kernel_rfl) (by kernel_rfl)) ?_
  intro W base args ds gs before hval0 hW hcnd hsz0 _
  have hval : ∀ (j : Nat) t v, Try.f9.params[j]? = some t → args[j]? = some v → Value.okWide Try.prog W .any base t v := hval0
  have hW' := hW
  obtain ⟨p, q, hA0, hV, rfl, hfz, hnd⟩ := hW
  have hA : DataW.TrodAll enc Try.prog W 0 (fun _ => true) true Try.f9.params.toList args.toList ds p := hA0
  rw [Try.params9] at hA hval
  obtain ⟨v0, vs0, d0, ds0, p0, q0, hargs, rfl, rfl, h0, r0⟩ := trodAll_cons hA
  obtain ⟨rfl, rfl, rfl⟩ := trodAll_nil r0
  obtain rfl : args = #[v0] := by cases args; simp_all
  obtain ⟨rfl, rfl⟩ := trodVars_none hV
  obtain ⟨a0, rfl, rfl, rfl, w0⟩ := open_int Try.underlying3 (hval 0 3 v0 rfl rfl) h0
  clear hA0 hval0 hsz0
  refine (walk a0 W).mono fun e W' ⟨he, bel⟩ => ?_
  subst he
  exact ⟨_, rfl, _, _, _, [], _, [], hW', trodAll_mk1 (shut_bool Try.underlying4 _), (trodAll_cons_mk (shut_int Try.underlying3 w0) trodAll_mk0), rfl, bel.frame _, fun h => by cases h⟩
theorem over : Rows.fnExactAllPrimeRow.holds Try.pinned (OpenSpec.ofChange Rows.fnExactAllPrimeSpec) :=
  OpenClaim.holds_of_wide 9 Try.f9 rfl rfl rfl rfl rfl rfl rfl ⟨rfl, rfl, rfl, rfl, rfl⟩ rfl rfl rfl rfl rfl (by kernel_rfl) Try.func9 (by kernel_rfl)
    (of_decide_eq_true (by kernel_rfl)) (by unfold Func.isWrapper; first | (rw [if_pos (by decide +kernel)]; kernel_rfl) | (rw [if_neg (by decide +kernel)]; exact ⟨rfl, rfl⟩))
    (fun os started H enc _ => lifted os started H enc)
theorem proved : Rows.FnExactAllPrimeSaid := over
#print axioms proved
end Go.Proofs.Ytcmpeimpddngbaa.fnExactAllPrime
namespace Go.Proofs.Ytcmpeimpddngbaa
/-- The row, under a short name, for the claim. -/
theorem fnExactAllPrime_holds : Rows.FnExactAllPrimeSaid := fnExactAllPrime.proved
end Go.Proofs.Ytcmpeimpddngbaa
