-- written by a program of this session (wip/gen/xpatch.py over the translation); Lean checks it
import Derived.Test.YtgfedgnpffockaaProg
import Derived.Below
import Derived.Deep.Draws
import Derived.Deep.AppendLies
import Derived.Maps.AppendAt
import Derived.OwnWalk
import Derived.Laws.BytesArg
import Derived.Laws.MakeOwn
import Derived.Laws.OwnMore
import Derived.Deep.OwnRows
import Derived.Tactics
import Derived.Lib.ConvBytes
import Derived.Laws.Slices
import Derived.WalkKit
import Derived.KernelRfl
import Derived.RowKit3
import Derived.Deep.LoopGhost
import Derived.Deep.QuietTactic
import Derived.BigQuiet
import Derived.WideLaws
import Derived.Deep.DeepCutAuto
import Derived.Deep.CutBlock
import Derived.Deep.RegionHeld3
import Derived.Laws.Rows
import Derived.Lib.AppendStr
import Derived.ArgAppend
import Derived.Laws.IdiomCopy
import Derived.OrdersHeld
import Derived.Laws.BitsLemmas
import Derived.RowKit
import Derived.Test.YtgfedgnpffockaaWWords
import Derived.Test.YtgfedgnpffockaaWLast
import Derived.Test.YtgfedgnpffockaaWTab
import Derived.Test.YtgfedgnpffockaaWFour
import Derived.Test.YtgfedgnpffockaaWQPut
import Derived.Test.YtgfedgnpffockaaWApart
import Derived.Test.YtgfedgnpffockaaWArr
import Derived.Test.YtgfedgnpffockaaWZeros
import Derived.Test.YtgfedgnpffockaaWFoot
import Derived.Test.YtgfedgnpffockaaWKept
import Derived.Test.YtgfedgnpffockaaWShare
import Derived.Test.YtgfedgnpffockaaWN
import Derived.Test.YtgfedgnpffockaaWFootNe
import Derived.Test.YtgfedgnpffockaaWAt
import Derived.Test.YtgfedgnpffockaaWEqStruct
import Derived.Test.YtgfedgnpffockaaWRepsOne
import Derived.Test.YtgfedgnpffockaaWInv
import Derived.Test.YtgfedgnpffockaaWInvWords
import Derived.Test.YtgfedgnpffockaaWGuard
import Derived.Test.YtgfedgnpffockaaWNEv
import Derived.Test.YtgfedgnpffockaaWMore
import Derived.Test.YtgfedgnpffockaaHandE
import Derived.Test.YtgfedgnpffockaaHandL
import Derived.Test.YtgfedgnpffockaaHandM
import Derived.Test.YtgfedgnpffockaaHandO
namespace Go.Proofs.Ytgfedgnpffockaa.PAll
open Go.RowKit Go.Proofs.Ytgfedgnpffockaa.Hand Go.Proofs.YtgfedgnpffockaaW.PrintWords Go.Proofs.YtgfedgnpffockaaW.PrintLast Go.Proofs.YtgfedgnpffockaaW.PrintMore
attribute [local go_sem] max2_int min2_int max_two min_two max_three min_three max_four min_four   -- for this text's walks alone
set_option linter.unusedVariables false
set_option linter.unusedSimpArgs false



def errW : Option Int → Value
  | none => .nilIface
  | some c => .iface 0 (.int .i64 c)
theorem errW_none : errW none = .nilIface := rfl
theorem errW_some (c : Int) : errW (some c) = .iface 0 (.int .i64 c) := rfl

theorem info3 : (Try.prog.info? 3).map (fun i => (i.zero, i.size, i.bytes)) = some (some (.int .i64 0), 1, 8) := by kernel_rfl
-- the values' own types

/-! blocks that recur -/
theorem ob_ {α β : Type} {o : Option α} {f : α → Option β} {r : β} (h : o.bind f = some r) : ∃ t, Aside0 (o = some t) ∧ f t = some r := (Option.bind_eq_some_iff.mp h).imp fun _ h => ⟨⟨h.1⟩, h.2⟩
theorem nf_ : ¬ (false = true) := by decide
theorem gl_ {P : Program} {ops : Array Oper} {Q : Exit → Act → World → Prop} {rest : List Oper} {oi : Oper} {a : Act} {w : World} (n : Tmp) {f : FuncId} {fn : Func} {az : Array Operand} {tz : Array TypeId} (hf : P.funcs[f]? = some fn) (args : Array Value) (h : Calls P f args w fun e w' => ∃ v, e = .returned v ∧ wpList P ops Q rest (a.put (some n) v) w') (hd : oi.dst = some n := by exact rfl) (hg : oi.guard = none := by exact rfl) (hname : (fn.name == "runtime.NumGoroutine") = false := by kernel_rfl) (hb : fn.body.isSome = true := by exact rfl) (hop : oi.op = .call { callee := .value (.func f), args := az, argTypes := tz } := by exact rfl) (hargs : az.map a.eval = args := by (try simp only [List.map_toArray, List.map_cons, List.map_nil]); first | done | rfl | (simp only [List.length_drop, List.length_take]; rfl)) : wpList P ops Q (oi :: rest) a w := goesL_ (some n) hd hg hf hname hb args hop hargs h
theorem q9d5_ {P : Prop} {Q1 : Prop} (x1_ : Q1) (h : Q1 → P := by intro x1_; (with_reducible repeat (first | apply Kd.R_alloc | apply Kd.R_drewN | apply Kd.R_drew)); exact x1_) : P := h x1_
theorem q0c4_ {P : Prop} (h : P := by repeat (first | (with_reducible first | exact HB.out | apply below_alloc | apply pw_below_drewN | apply below_drew1) | exact HB.out)) : P := h
theorem q7be_ {P : Prop} {Q1 : Prop} (x1_ : Q1) (h : Q1 → P := by intro x1_; repeat (first | (with_reducible first | exact x1_ | apply IsS44.alloc | apply IsS44.drewN | apply IsS44.drew | apply IsS44.set_1 | apply IsS44.set_2) | exact x1_)) : P := h x1_
theorem qe84_ {P : Prop} (h : P := by first | (with_reducible assumption) | assumption) : P := h
theorem q687_ {P : Prop} {Q1 : Prop} (x1_ : Q1) (h : Q1 → P := by intro x1_; repeat (first | (with_reducible first | exact HB.out | apply below_alloc | apply pw_below_drewN | apply below_drew1 | refine below_set ?_ (IsS44.ge x1_)) | exact HB.out)) : P := h x1_
theorem q1d6_ {P : Prop} (h : P := by repeat (first | (with_reducible first | exact HK.out | apply KeepBut.set_ | apply keep_drewN | apply keep_drew | apply keep_alloc) | exact HK.out)) : P := h
theorem qc8f_ {P : Prop} (h : P := by first | rfl | (simp; done) | (simp [*]; done)) : P := h
theorem qe02_ {P : Prop} {Q1 : Prop} (x1_ : Q1) (h : Q1 → P := by intro x1_; repeat (first | exact (Kd.C_below x1_ HB.out) | (with_reducible refine Kd.C_alloc ?_ _) | (with_reducible refine Kd.C_drewN ?_ _) | (with_reducible refine Kd.C_drew ?_))) : P := h x1_
theorem qce7_ {P : Prop} (h : P := by first | rfl | (simp [errW_none, errW_some] <;> rfl) | (simp [*, errW_none, errW_some] <;> rfl)) : P := h
theorem q5a8_ {P : Prop} {Q1 : Prop} (x1_ : Q1) (h : Q1 → P := by intro x1_; repeat (first | exact (Kd.R_reads' x1_).2.2 | (with_reducible refine Kd.C_alloc ?_ _) | (with_reducible refine Kd.C_drewN ?_ _) | (with_reducible refine Kd.C_drew ?_))) : P := h x1_
theorem q01c_ {P : Prop} (h : P := by repeat (first | (with_reducible first | exact HB.out | apply below_alloc | apply pw_below_drewN | apply below_drew1 | refine below_set ?_ GE427.out | refine below_set ?_ GE435.out) | exact HB.out)) : P := h
theorem q98d_ {P : Prop} (h : P := by repeat (first | exact HI.out | (with_reducible refine RpI.drewN ?_ _) | (with_reducible refine RpI.drew ?_) | (with_reducible refine RpI.alloc ?_ _))) : P := h
theorem q902_ {P : Prop} (h : P := by (with_reducible repeat (first | refine blk_drewN ?_ _ | refine blk_drew ?_ | refine blk_alloc ?_ _)); exact BK427.out) : P := h
theorem qffa_ {P : Prop} (h : P := by repeat (first | exact Drawn0.refl _ | apply Drawn0.step)) : P := h
theorem qc3e_ {P : Prop} (h : P := by (with_reducible repeat (first | refine blk_drewN ?_ _ | refine blk_drew ?_ | refine blk_alloc ?_ _)); exact BK435.out) : P := h
theorem q447_ {P : Prop} (h : P := by first | exact ⟨rfl, _, World.drewN_drewN _ _ _⟩ | exact ⟨rfl, _, Eq.trans (World.drewN_drewN _ _ _) (congrArg (World.drewN _) (Nat.add_assoc _ _ _))⟩) : P := h
theorem q201_ {P : Prop} {Q1 : Prop} (x1_ : Q1) (h : Q1 → P := by intro x1_; repeat (first | exact x1_ | (with_reducible refine Kd.C_alloc ?_ _) | (with_reducible refine Kd.C_drewN ?_ _) | (with_reducible refine Kd.C_drew ?_))) : P := h x1_
theorem qf9a_ {P : Prop} (h : P := by repeat (first | (with_reducible first | exact HB.out | apply below_alloc | apply pw_below_drewN | apply below_drew1 | refine below_set ?_ GE330.out) | exact HB.out)) : P := h
theorem qc52_ {P : Prop} (h : P := by repeat (first | exact HG.out | (with_reducible refine Rg0.drewN ?_ _) | (with_reducible refine Rg0.drew ?_))) : P := h
theorem qfba_ {P : Prop} (h : P := by first | (go_simp; done) | (go_simp; rfl)) : P := h
theorem q75a_ {P : Prop} {Q1 : Prop} (x1_ : Q1) (h : Q1 → P := by intro x1_; repeat (first | (with_reducible exact x1_) | (with_reducible refine Kd.C_alloc ?_ _) | (with_reducible refine Kd.C_drewN ?_ _) | (with_reducible refine Kd.C_drew ?_) | exact x1_)) : P := h x1_
theorem qb04_ {P : Prop} (h : P := by repeat (first | (with_reducible first | exact HB.out | apply below_alloc | apply pw_below_drewN | apply below_drew1 | refine below_set ?_ GE293.out | refine below_set ?_ GE297.out) | exact HB.out)) : P := h
theorem qf62_ {P : Prop} (h : P := by first | exact Kd.R_nil _ _ _ _ _ | exact Kd.N_nil _ _ _ _ _ | exact Kd.V_nil _ _ _ _ _ | exact Kd.Q_nil _ _ _ _ _ | exact Kd.S_nil _ _ _ _ _) : P := h
theorem qf05_ {P : Prop} (h : P := by repeat (first | (with_reducible first | exact HB.out | apply below_alloc | apply pw_below_drewN | apply below_drew1 | refine below_set ?_ GE427.out | refine below_set ?_ GE435.out | refine below_set ?_ GE471.out) | exact HB.out)) : P := h
theorem q5e2_ {P : Prop} {Q1 : Prop} (x1_ : Q1) (h : Q1 → P := by intro x1_; repeat (first | exact Kd.C_below x1_ HG.out.below | (with_reducible refine Kd.C_alloc ?_ _) | (with_reducible refine Kd.C_drewN ?_ _) | (with_reducible refine Kd.C_drew ?_))) : P := h x1_
theorem qa7b_ {P : Prop} (h : P := by repeat (first | (with_reducible first | exact HB.out | apply below_alloc | apply pw_below_drewN | apply below_drew1 | refine below_set ?_ GE339.out) | exact HB.out)) : P := h
theorem q796_ {P : Prop} (h : P := by repeat (first | (with_reducible first | exact HB.out | apply below_alloc | apply pw_below_drewN | apply below_drew1 | refine below_set ?_ GE310.out) | exact HB.out)) : P := h
theorem qad9_ {P : Prop} (h : P := by repeat (first | (with_reducible first | exact HB.out | apply below_alloc | apply pw_below_drewN | apply below_drew1 | refine below_set ?_ GE385.out) | exact HB.out)) : P := h
theorem q841_ {P : Prop} (h : P := by (with_reducible repeat (first | refine blk_drewN ?_ _ | refine blk_drew ?_ | refine blk_alloc ?_ _)); exact BK293.out) : P := h
theorem q4c0_ {P : Prop} (h : P := by repeat (first | (with_reducible first | exact HB.out | apply below_alloc | apply pw_below_drewN | apply below_drew1 | refine below_set ?_ GE320.out) | exact HB.out)) : P := h
theorem q084_ {P : Prop} (h : P := by repeat (first | (with_reducible first | exact HB.out | apply below_alloc | apply pw_below_drewN | apply below_drew1 | refine below_set ?_ GE427.out) | exact HB.out)) : P := h
theorem qaf5_ {P : Prop} (h : P := by repeat (first | (with_reducible first | exact HB.out | apply below_alloc | apply pw_below_drewN | apply below_drew1 | refine below_set ?_ GE427.out | refine below_set ?_ GE435.out | refine below_set ?_ GE455.out) | exact HB.out)) : P := h
theorem q539_ {P : Prop} (h : P := by (with_reducible repeat (first | refine blk_drewN ?_ _ | refine blk_drew ?_ | refine blk_alloc ?_ _)); exact BK330.out) : P := h
theorem q38b_ {P : Prop} (h : P := by repeat (first | (with_reducible first | exact HB.out | apply below_alloc | apply pw_below_drewN | apply below_drew1 | refine below_set ?_ GE293.out) | exact HB.out)) : P := h
theorem q1ad_ {P : Prop} (h : P := by repeat (first | (with_reducible first | exact HB.out | apply below_alloc | apply pw_below_drewN | apply below_drew1 | refine below_set ?_ GE320.out | refine below_set ?_ GE321.out) | exact HB.out)) : P := h
theorem q743_ {P : Prop} (h : P := by repeat (first | (with_reducible first | exact HB.out | apply below_alloc | apply pw_below_drewN | apply below_drew1 | refine below_set ?_ GE427.out | refine below_set ?_ GE435.out | refine below_set ?_ GE471.out | refine below_set ?_ GE479.out) | exact HB.out)) : P := h
theorem q37b_ {P : Prop} {Q1 : Prop} {Q2 : Prop} (x1_ : Q1) (x2_ : Q2) (h : Q1 → Q2 → P := by intro x1_ x2_; have := x1_; have := x2_; omega) : P := h x1_ x2_
theorem q79c_ {P : Prop} (h : P := by (with_reducible repeat (first | refine blk_drewN ?_ _ | refine blk_drew ?_ | refine blk_alloc ?_ _)); exact BK320.out) : P := h
theorem q7d9_ {P : Prop} {Q1 : Prop} (x1_ : Q1) (h : Q1 → P := by intro x1_; (with_reducible repeat (first | apply Kd.R_alloc | apply Kd.R_drewN | apply Kd.R_drew)); exact Kd.R_mono x1_ (fun _ hk => trivial)) : P := h x1_
theorem qed7_ {P : Prop} (h : P := by (with_reducible repeat (first | refine blk_drewN ?_ _ | refine blk_drew ?_ | refine blk_alloc ?_ _)); exact BK297.out) : P := h
theorem q657_ {P : Prop} (h : P := by (with_reducible repeat (first | refine blk_drewN ?_ _ | refine blk_drew ?_ | refine blk_alloc ?_ _)); exact BK339.out) : P := h
theorem q0ef_ {P : Prop} {Q1 : Prop} (x1_ : Q1) (h : Q1 → P := by intro x1_; (with_reducible repeat (first | apply Kd.R_alloc | apply Kd.R_drewN | apply Kd.R_drew)); exact Kd.R_mono x1_ (fun _ hk => ⟨trivial, hk⟩)) : P := h x1_
theorem qe0f_ {P : Prop} {Q1 : Prop} (x1_ : Q1) (h : Q1 → P := by intro x1_; (with_reducible repeat (first | apply Kd.R_alloc | apply Kd.R_drewN | apply Kd.R_drew)); exact Kd.R_mono x1_ (fun _ hk => hk.2)) : P := h x1_
theorem qb8f_ {P : Prop} {Q1 : Prop} (x1_ : Q1) (h : Q1 → P := by intro x1_; (with_reducible repeat (first | apply Kd.R_alloc | apply Kd.R_drewN | apply Kd.R_drew)); exact Kd.R_mono x1_ (fun _ hk => ⟨hk.1.1.1.1.1.1.1.1.1.1.1.2, ⟨hk.1.1.1.1.1.1.1.1.1.1.2, ⟨hk.1.1.1.1.1.1.1.1.1.1.1.1, ⟨hk.1.1.1.1.1.1.2, hk.1.1.1.1.1.2⟩⟩⟩⟩)) : P := h x1_
theorem q28f_ {P : Prop} {Q1 : Prop} (x1_ : Q1) (h : Q1 → P := by intro x1_; (with_reducible repeat (first | apply Kd.R_alloc | apply Kd.R_drewN | apply Kd.R_drew)); exact Kd.R_mono x1_ (fun _ hk => ⟨hk.1.1.1.1.1.1.1.1.1.1.1.2, ⟨hk.1.1.1.1.1.1.1.1.1.1.2, ⟨hk.1.1.1.1.1.1.2, ⟨hk.1.1.1.1.1.2, hk.1.1.1.1.1.1.1.1.1.1.1.1⟩⟩⟩⟩)) : P := h x1_
theorem q821_ {P : Prop} (h : P := by first | omega | exact Nat.le_refl _) : P := h
theorem q578_ {P : Prop} {Q1 : Prop} (x1_ : Q1) (h : Q1 → P := by intro x1_; repeat (first | exact (Kd.R_reads' x1_).2.2 | (with_reducible refine Kd.C_drewN ?_ _) | (with_reducible refine Kd.C_drew ?_))) : P := h x1_
theorem qfaf_ {P : Prop} {Q1 : Prop} (x1_ : Q1) (h : Q1 → P := by intro x1_; (with_reducible repeat (first | apply Kd.R_alloc | apply Kd.R_drewN | apply Kd.R_drew)); exact Kd.R_mono x1_ (fun _ hk => ⟨hk.1.1.1.1.1.1.1.1.1.1.1.1, ⟨hk.1.1.1.1.1.1.1.1.2, ⟨hk.1.1.1.1.1.1.1.2, ⟨hk.1.1.1.1.1.1.2, hk.1.1.1.1.1.2⟩⟩⟩⟩)) : P := h x1_
theorem q5fc_ {P : Prop} (h : P := by (with_reducible repeat (first | refine blk_drewN ?_ _ | refine blk_drew ?_ | refine blk_alloc ?_ _)); exact BK385.out) : P := h
theorem q4a6_ {P : Prop} (h : P := by (with_reducible repeat (first | refine blk_drewN ?_ _ | refine blk_drew ?_ | refine blk_alloc ?_ _)); exact BK471.out) : P := h
theorem q38e_ {P : Prop} {Q1 : Prop} (x1_ : Q1) (h : Q1 → P := by intro x1_; (with_reducible repeat (first | apply Kd.R_alloc | apply Kd.R_drewN | apply Kd.R_drew)); exact Kd.R_mono x1_ (fun _ hk => ⟨hk.1.1.1.1.1.1.2, ⟨hk.1.1.1.1.1.2, ⟨hk.1.1.1.1.1.1.1, ⟨hk.1.2, hk.2⟩⟩⟩⟩)) : P := h x1_
theorem q3c9_ {P : Prop} {Q1 : Prop} (x1_ : Q1) (h : Q1 → P := by intro x1_; (with_reducible repeat (first | apply Kd.R_alloc | apply Kd.R_drewN | apply Kd.R_drew)); exact Kd.R_mono x1_ (fun _ hk => ⟨hk.1.1.1.1.1.1.2, ⟨hk.1.1.1.1.1.2, ⟨hk.1.2, ⟨hk.2, hk.1.1.1.1.1.1.1⟩⟩⟩⟩)) : P := h x1_
theorem q0b4_ {P : Prop} {Q1 : Prop} (x1_ : Q1) (h : Q1 → P := by intro x1_; (with_reducible repeat (first | apply Kd.R_alloc | apply Kd.R_drewN | apply Kd.R_drew)); exact Kd.R_mono x1_ (fun _ hk => ⟨hk.1.1.1.1.1.1.1, ⟨hk.1.1.1.2, ⟨hk.1.1.2, ⟨hk.1.2, hk.2⟩⟩⟩⟩)) : P := h x1_
theorem q573_ {P : Prop} (h : P := by (with_reducible repeat (first | refine blk_drewN ?_ _ | refine blk_drew ?_ | refine blk_alloc ?_ _)); exact BK310.out) : P := h
theorem q0e9_ {P : Prop} {Q1 : Prop} {Q2 : Prop} {Q3 : Prop} (x1_ : Q1) (x2_ : Q2) (x3_ : Q3) (h : Q1 → Q2 → Q3 → P := by intro x1_ x2_ x3_; have := x1_; have := x2_; have := x3_; omega) : P := h x1_ x2_ x3_
theorem qa0e_ {P : Prop} (h : P := by repeat (first | (with_reducible first | exact HB.out | apply below_alloc | apply pw_below_drewN | apply below_drew1 | refine below_set ?_ GE335.out) | exact HB.out)) : P := h
theorem q32c_ {P : Prop} (h : P := by rw [ha]; exact (putSel_off rfl).trans rfl) : P := h
theorem q85a_ {P : Prop} {Q1 : Prop} (x1_ : Q1) (h : Q1 → P := by intro x1_; repeat (first | (with_reducible first | exact x1_ | apply below_alloc | apply pw_below_drewN | apply below_drew1 | refine below_set ?_ GW2.out) | exact x1_)) : P := h x1_
theorem q66c_ {P : Prop} {Q1 : Prop} (x1_ : Q1) (h : Q1 → P := by intro x1_; (with_reducible repeat (first | refine blk_drewN ?_ _ | refine blk_drew ?_ | refine blk_alloc ?_ _)); exact x1_) : P := h x1_
theorem qa8d_ {P : Prop} (h : P := by repeat (first | exact HP.out | (with_reducible refine RpI.drewN ?_ _) | (with_reducible refine RpI.drew ?_) | (with_reducible refine RpI.alloc ?_ _))) : P := h
theorem qef5_ {P : Prop} (h : P := by (try simp only [List.map_toArray, List.map_cons, List.map_nil]); first | done | rfl | (simp only [List.length_drop, List.length_take]; rfl)) : P := h
theorem q6e2_ {P : Prop} (h : P := by first | rfl | (simp; done)) : P := h
theorem q749_ {P : Prop} {Q1 : Prop} (x1_ : Q1) (h : Q1 → P := by intro x1_; repeat (first | exact (Kd.C_below x1_ q0c4_) | (with_reducible refine Kd.C_alloc ?_ _) | (with_reducible refine Kd.C_drewN ?_ _) | (with_reducible refine Kd.C_drew ?_))) : P := h x1_
theorem qe8c_ {P : Prop} {Q1 : Prop} (x1_ : Q1) (h : Q1 → P := by intro x1_; repeat (first | exact (q75a_ x1_) | (with_reducible refine Kd.C_alloc ?_ _) | (with_reducible refine Kd.C_drewN ?_ _) | (with_reducible refine Kd.C_drew ?_))) : P := h x1_
theorem qd79_ {P : Prop} {Q1 : Prop} (x1_ : Q1) (h : Q1 → P := by intro x1_; repeat (first | exact (Kd.C_below x1_ q1ad_) | (with_reducible refine Kd.C_alloc ?_ _) | (with_reducible refine Kd.C_drewN ?_ _) | (with_reducible refine Kd.C_drew ?_))) : P := h x1_
theorem qca6_ {P : Prop} {Q1 : Prop} (x1_ : Q1) (h : Q1 → P := by intro x1_; rw [Ny259.out]; exact Kd.C_take (m := (x5_2 : Int).toNat) ((Kd.R_reads' (Kd.R_after (ok := (fun _ => True)) (q9d5_ x1_) hg hat)).2.2) KL19.out) : P := h x1_
theorem q450_ {P : Prop} {Q1 : Prop} (x1_ : Q1) (h : Q1 → P := by intro x1_; rw [Ny276.out]; exact Kd.C_take (m := (x5_2 : Int).toNat) ((Kd.R_reads' (Kd.R_after (ok := (fun _ => True)) (q9d5_ x1_) hg hat)).2.2) KL32.out) : P := h x1_
end Go.Proofs.Ytgfedgnpffockaa.PAll
