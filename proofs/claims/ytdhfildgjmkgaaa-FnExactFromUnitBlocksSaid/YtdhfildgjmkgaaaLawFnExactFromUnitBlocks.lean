/- The row of the law FnExactFromUnitBlocks: a slice of slices that comes in is opened whole; the walk is YFromUnitLaw's, the plain law BaseSK's. -/
import Derived.Test.YtdhfildgjmkgaaaRows
import Derived.Test.YtdhfildgjmkgaaaPAllx5
import Derived.Test.YtdhfildgjmkgaaaBaseSK
import Derived.Deep.Matrix
import Derived.WalkKit
import Derived.ProofKit
import Derived.OpenShut
import Derived.ShutString
import Derived.ChangeOld
import Derived.Below
import Derived.SizedLaws
import Derived.Test.YtdhfildgjmkgaaaWSized
namespace Go.Proofs.Ytdhfildgjmkgaaa.fnExactFromUnitBlocks
open Go.RowKit Go.Proofs.Ytdhfildgjmkgaaa.Hand Go.Proofs.YtdhfildgjmkgaaaW.PrintWords Go.Proofs.YtdhfildgjmkgaaaW.PrintLast Go.Proofs.YtdhfildgjmkgaaaW.PrintMore Go.Proofs.Ytdhfildgjmkgaaa.PAll
set_option linter.unusedVariables false
set_option linter.unusedSimpArgs false
theorem walk (A0 : Option Addr) (c0 : Nat) (L : List (List Int)) (w : World) (hC : Kd.C (Kd.slice 3 (Kd.int .i64)) w A0 L.length L) (hc : L.length ≤ c0) :
    Calls Try.prog 3 #[.slice A0 L.length c0] w fun e w' => e = .returned (.bool true) ∧ Below w.heap.size w w' := by
  have hl : L.length ≤ 9223372036854775807 := hC.2.1
  have hx : ∀ x ∈ L, (x.length : Int) ≤ 9223372036854775807 := by
    intro x hx
    obtain ⟨j, hj⟩ := List.getElem?_of_mem hx
    obtain ⟨ad, _, h⟩ := hC.2.2 (List.length_pos_of_mem hx)
    obtain ⟨c, _, ⟨A, c', _, _, hr⟩, _⟩ := h j x hj
    have h9 : x.length ≤ 9223372036854775807 := hr.2.1
    omega
  obtain ⟨k, h⟩ := Plain.fromUnit_all L (by omega) hx
  exact laws_FnExactFromUnitBlocks.calls k A0 c0 L true w hC hc h
theorem row1 {w : World} {a : Option Addr} {len cap : Nat} {zs : List Int} (h1 : len ≤ cap) (h2 : cap ≤ maxLen) (h3 : zs.length = cap) (h4 : ∀ n ∈ zs, (Lit.int .i64 n).wf = true) (h5 : a = none → cap = 0)
    (h6 : ∀ a', a = some a' → ∀ c, c < cap → w.cell? (a'.add c) = some (.int .i64 (zs.getD c 0))) : ∃ l : List Int, len = l.length ∧ l.length ≤ cap ∧ Kd.C (Kd.int .i64) w a l.length l := by
  obtain ⟨l, e, hr, _, _, hc⟩ := ReadsInt.ofRowC (k := .i64) (w := w) (a := a) (len := len) (cap := cap) (zs := zs) (by
    cases a with
    | none =>
      have := h5 rfl
      subst this
      exact .inl ⟨rfl, by omega, rfl, List.eq_nil_of_length_eq_zero h3⟩
    | some x => exact .inr ⟨x, rfl, h1, h2, h3, fun i hi => h6 x rfl i (by omega), h4⟩)
  exact ⟨l, e, hc, Kd.C_of_reads (d := (0 : Int)) (h1 := fun _ => rfl) hr⟩
theorem rows {w : World} {x : Addr} {len cap : Nat} {A : Nat → Option Addr} {Ls C : Nat → Nat} (hl : len ≤ cap) (hm : cap ≤ maxLen)
    (h : ∀ r, r < cap → w.cell? (x.add r) = some (.slice (A r) (Ls r) (C r)) ∧ ∃ l : List Int, Ls r = l.length ∧ l.length ≤ C r ∧ Kd.C (Kd.int .i64) w (A r) l.length l) :
    ∃ L : List (List Int), len = L.length ∧ Kd.C (Kd.slice 3 (Kd.int .i64)) w (some x) L.length L := by
  obtain ⟨f, hf⟩ := Go.Deep.choose_lt (n := cap) (p := fun r l => Ls r = l.length ∧ l.length ≤ C r ∧ Kd.C (Kd.int .i64) w (A r) l.length l) (fun r hr => (h r hr).2)
  have e : ((List.range len).map f).length = len := by simp
  refine ⟨(List.range len).map f, e.symm, rfl, ?_, fun _ => ⟨x, rfl, fun j p hj => ?_⟩⟩
  · rw [e]
    have : maxLen = 9223372036854775807 := by decide
    omega
  · have hjl : j < len := by
      have := (List.getElem?_eq_some_iff.1 hj).1
      omega
    have ep : f j = p := by simpa [hjl] using hj
    subst ep
    obtain ⟨e1, e2, e3⟩ := hf j (by omega)
    refine ⟨[.slice (A j) (f j).length (C j)], rfl, ⟨A j, C j, rfl, e2, e3⟩, fun i u hu => ?_⟩
    cases i with
    | zero =>
      obtain rfl : Value.slice (A j) (f j).length (C j) = u := by simpa using hu
      show w.cell? (x.add (j * 1 + 0)) = _
      rw [Nat.mul_one, Nat.add_zero, ← e1]
      exact (h j (by omega)).1
    | succ i => simp at hu
open Go.ChangeShapes Go.WideShapes Go.ChangeAt
open Go.ChangeMaps (open_string shut_string)
theorem own : ownKnob Try.prog.godebug = none := by kernel_rfl
theorem laidOut : laidOutB Try.prog = true := by kernel_rfl
set_option maxRecDepth 100000 in
theorem lifted (os : Os) (started : os.Started) (H : Type) (enc : TypeId × Value → H) :
    ReturnsInHanded {} Try.checked os 3 .any (Rows.fnExactFromUnitBlocksSpec.pre6 enc Try.prog Try.f3 Rows.fnExactFromUnitBlocksRow.domain false) (Rows.fnExactFromUnitBlocksSpec.post enc Try.prog Try.f3 false true false false) := by
  refine returnsInHanded_of_change_sized (C := Try.checked) own started (by kernel_rfl) Try.func3
    (ChangeSpec.witness6 (enc := enc) (C := Try.checked) false ⟨#[], #[.slice none 0 0], []⟩ 8 (by kernel_rfl) (by kernel_rfl) (by kernel_rfl) (by kernel_rfl)) ?_
  intro W base args ds gs before hval0 hW hcnd hsz0 _
  have hval : ∀ (j : Nat) t v, Try.f3.params[j]? = some t → args[j]? = some v → Value.okWide Try.prog W .any base t v := hval0
  have hW' := hW
  obtain ⟨p, q, hA0, hV, rfl, hfz, hnd⟩ := hW
  have hA : DataW.TrodAll enc Try.prog W 0 (fun _ => true) true Try.f3.params.toList args.toList ds p := hA0
  rw [Try.params3] at hA hval
  obtain ⟨v0, vs0, d0, ds0, p0, q0, hargs, rfl, rfl, h0, r0⟩ := trodAll_cons hA
  obtain ⟨rfl, rfl, rfl⟩ := trodAll_nil r0
  obtain rfl : args = #[v0] := by cases args; simp_all
  obtain ⟨rfl, rfl⟩ := trodVars_none hV
  obtain ⟨a0, len0, cap0, rfl⟩ := okWide_slice Try.underlying22 (hval 0 22 v0 rfl rfl)
  have k0 := h0
  have lt0 : ∀ x ∈ p0, x.block < W.heap.size := by obtain ⟨m, hm⟩ := k0; exact DataW.trod_lt m _ _ _ hm
  obtain ⟨L, rfl, hC, hc⟩ : ∃ L : List (List Int), len0 = L.length ∧ Kd.C (Kd.slice 3 (Kd.int .i64)) W a0 L.length L ∧ len0 ≤ cap0 := by
    obtain ⟨fuel, hf⟩ := h0
    rcases Go.Deep.open_int_rows Try.underlying22 Try.underlying24 Try.underlying3 (by kernel_rfl) (by kernel_rfl) hf with ⟨hcs, _⟩ | ⟨x, l, c, A, Ls, C, Z, hcs, _, hl, hm, _, hcell⟩
    · simp [Value.cells] at hcs
      obtain ⟨rfl, rfl, rfl⟩ := hcs
      exact ⟨[], rfl, ⟨rfl, Nat.zero_le _, fun h => absurd h (Nat.lt_irrefl 0)⟩, Nat.le_refl _⟩
    · simp [Value.cells] at hcs
      obtain ⟨rfl, rfl, rfl⟩ := hcs
      obtain ⟨L, e, hC⟩ := rows (w := W) hl hm (fun r hr => ⟨(hcell r hr).1, row1 (hcell r hr).2.1 (hcell r hr).2.2.1 (hcell r hr).2.2.2.1 (hcell r hr).2.2.2.2.1 (hcell r hr).2.2.2.2.2.1 (fun a' ha => ((hcell r hr).2.2.2.2.2.2 a' ha).2)⟩)
      exact ⟨L, e, hC, hl⟩
  clear hA0 hval0 hsz0
  refine (walk a0 cap0 L W hC hc).mono fun e W' ⟨he, bel⟩ => ?_
  subst he
  exact ⟨_, rfl, _, _, _, [], _, [], hW', trodAll_mk1 (shut_bool Try.underlying4 _), (trodAll_cons_mk (Below.trod laidOut (by kernel_rfl) (of_decide_eq_true (by kernel_rfl)) k0 bel lt0) trodAll_mk0), rfl, bel.frame _, fun h => by cases h⟩
theorem over : Rows.fnExactFromUnitBlocksRow.holds Try.pinned (OpenSpec.ofChange Rows.fnExactFromUnitBlocksSpec) :=
  OpenClaim.holds_of_wide 3 Try.f3 rfl rfl rfl rfl rfl rfl rfl ⟨rfl, rfl, rfl, rfl, rfl⟩ rfl rfl rfl rfl rfl (by kernel_rfl) Try.func3 (by kernel_rfl)
    (of_decide_eq_true (by kernel_rfl)) (by unfold Func.isWrapper; first | (rw [if_pos (by decide +kernel)]; kernel_rfl) | (rw [if_neg (by decide +kernel)]; exact ⟨rfl, rfl⟩))
    (fun os started H enc _ => lifted os started H enc)
theorem proved : Rows.FnExactFromUnitBlocksSaid := over
#print axioms proved
end Go.Proofs.Ytdhfildgjmkgaaa.fnExactFromUnitBlocks
namespace Go.Proofs.Ytdhfildgjmkgaaa
/-- The row, under a short name, for the claim. -/
theorem fnExactFromUnitBlocks_holds : Rows.FnExactFromUnitBlocksSaid := fnExactFromUnitBlocks.proved
end Go.Proofs.Ytdhfildgjmkgaaa
