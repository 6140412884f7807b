-- written by a program of this session (wip/gen/xpatch.py over the translation); Lean checks it
import Derived.Test.YtgfcnfbbiaeboaaGreatProg
import Derived.Below
import Derived.Deep.Draws
import Derived.Deep.AppendLies
import Derived.Maps.AppendAt
import Derived.OwnWalk
import Derived.Laws.BytesArg
import Derived.Laws.MakeOwn
import Derived.Laws.OwnMore
import Derived.Deep.OwnRows
import Derived.Tactics
import Derived.Lib.ConvBytes
import Derived.Laws.Slices
import Derived.WalkKit
import Derived.KernelRfl
import Derived.RowKit3
import Derived.Deep.LoopGhost
import Derived.Deep.QuietTactic
import Derived.BigQuiet
import Derived.WideLaws
import Derived.Deep.DeepCutAuto
import Derived.Deep.CutBlock
import Derived.Deep.RegionHeld3
import Derived.Laws.Rows
import Derived.Lib.AppendStr
import Derived.ArgAppend
import Derived.Laws.IdiomCopy
import Derived.OrdersHeld
import Derived.Laws.BitsLemmas
import Derived.RowKit
import Derived.Test.YtgfcnfbbiaeboaaGreatWWords
import Derived.Test.YtgfcnfbbiaeboaaGreatWLast
import Derived.Test.YtgfcnfbbiaeboaaGreatWTab
import Derived.Test.YtgfcnfbbiaeboaaGreatWApart
import Derived.Test.YtgfcnfbbiaeboaaGreatWFoot
import Derived.Test.YtgfcnfbbiaeboaaGreatWKept
import Derived.Test.YtgfcnfbbiaeboaaGreatWShare
import Derived.Test.YtgfcnfbbiaeboaaGreatWN
import Derived.Test.YtgfcnfbbiaeboaaGreatWAt
import Derived.Laws.StructEq
import Derived.Test.YtgfcnfbbiaeboaaGreatWRepsOne
import Derived.Test.YtgfcnfbbiaeboaaGreatWInv
import Derived.Test.YtgfcnfbbiaeboaaGreatWGuard
import Derived.Test.YtgfcnfbbiaeboaaGreatWMore
import Derived.Test.YtgfcnfbbiaeboaaGreatHandE
import Derived.Test.YtgfcnfbbiaeboaaGreatHandL
import Derived.Test.YtgfcnfbbiaeboaaGreatHandM
import Derived.Test.YtgfcnfbbiaeboaaGreatHandO
namespace Go.Proofs.YtgfcnfbbiaeboaaGreat.PAll
open Go.RowKit Go.Proofs.YtgfcnfbbiaeboaaGreat.Hand Go.Proofs.YtgfcnfbbiaeboaaGreatW.PrintWords Go.Proofs.YtgfcnfbbiaeboaaGreatW.PrintLast Go.Proofs.YtgfcnfbbiaeboaaGreatW.PrintMore
attribute [local go_sem] max2_int min2_int max_two min_two max_three min_three max_four min_four   -- for this text's walks alone
set_option linter.unusedVariables false
set_option linter.unusedSimpArgs false

def errW : Option Int → Value
  | none => .nilIface
  | some c => .iface 0 (.int .i64 c)
theorem errW_none : errW none = .nilIface := rfl
theorem errW_some (c : Int) : errW (some c) = .iface 0 (.int .i64 c) := rfl

theorem info3 : (Tryz.prog.info? 3).map (fun i => (i.zero, i.size, i.bytes)) = some (some (.int .i64 0), 1, 8) := by kernel_rfl
theorem info4 : (Tryz.prog.info? 4).map (fun i => (i.zero, i.size, i.bytes)) = some (some (.bool false), 1, 1) := by kernel_rfl
-- the values' own types

/-! blocks that recur -/
theorem ob_ {α β : Type} {o : Option α} {f : α → Option β} {r : β} (h : o.bind f = some r) : ∃ t, Aside0 (o = some t) ∧ f t = some r := (Option.bind_eq_some_iff.mp h).imp fun _ h => ⟨⟨h.1⟩, h.2⟩
theorem nf_ : ¬ (false = true) := by decide
theorem gl_ {P : Program} {ops : Array Oper} {Q : Exit → Act → World → Prop} {rest : List Oper} {oi : Oper} {a : Act} {w : World} (n : Tmp) {f : FuncId} {fn : Func} {az : Array Operand} {tz : Array TypeId} (hf : P.funcs[f]? = some fn) (args : Array Value) (h : Calls P f args w fun e w' => ∃ v, e = .returned v ∧ wpList P ops Q rest (a.put (some n) v) w') (hd : oi.dst = some n := by exact rfl) (hg : oi.guard = none := by exact rfl) (hname : (fn.name == "runtime.NumGoroutine") = false := by kernel_rfl) (hb : fn.body.isSome = true := by exact rfl) (hop : oi.op = .call { callee := .value (.func f), args := az, argTypes := tz } := by exact rfl) (hargs : az.map a.eval = args := by (try simp only [List.map_toArray, List.map_cons, List.map_nil]); first | done | rfl | (simp only [List.length_drop, List.length_take]; rfl)) : wpList P ops Q (oi :: rest) a w := goesL_ (some n) hd hg hf hname hb args hop hargs h
theorem q9d5_ {P : Prop} {Q1 : Prop} (x1_ : Q1) (h : Q1 → P := by intro x1_; (with_reducible repeat (first | apply Kd.R_alloc | apply Kd.R_drewN | apply Kd.R_drew)); exact x1_) : P := h x1_
theorem q0c4_ {P : Prop} (h : P := by repeat (first | (with_reducible first | exact HB.out | apply below_alloc | apply pw_below_drewN | apply below_drew1) | exact HB.out)) : P := h
theorem q940_ {P : Prop} {Q1 : Prop} (x1_ : Q1) (h : Q1 → P := by intro x1_; repeat (first | (with_reducible first | exact x1_ | apply IsS41.alloc | apply IsS41.drewN | apply IsS41.drew | apply IsS41.set_1 | apply IsS41.set_2) | exact x1_)) : P := h x1_
theorem q1d6_ {P : Prop} (h : P := by repeat (first | (with_reducible first | exact HK.out | apply KeepBut.set_ | apply keep_drewN | apply keep_drew | apply keep_alloc) | exact HK.out)) : P := h
theorem qe84_ {P : Prop} (h : P := by first | (with_reducible assumption) | assumption) : P := h
theorem q1dd_ {P : Prop} {Q1 : Prop} (x1_ : Q1) (h : Q1 → P := by intro x1_; repeat (first | (with_reducible first | exact HB.out | apply below_alloc | apply pw_below_drewN | apply below_drew1 | refine below_set ?_ (IsS41.ge x1_)) | exact HB.out)) : P := h x1_
theorem qce7_ {P : Prop} (h : P := by first | rfl | (simp [errW_none, errW_some] <;> rfl) | (simp [*, errW_none, errW_some] <;> rfl)) : P := h
theorem qe02_ {P : Prop} {Q1 : Prop} (x1_ : Q1) (h : Q1 → P := by intro x1_; repeat (first | exact (Kd.C_below x1_ HB.out) | (with_reducible refine Kd.C_alloc ?_ _) | (with_reducible refine Kd.C_drewN ?_ _) | (with_reducible refine Kd.C_drew ?_))) : P := h x1_
theorem q2b5_ {P : Prop} {Q1 : Prop} (x1_ : Q1) (h : Q1 → P := by intro x1_; repeat (first | (with_reducible first | exact x1_ | apply IsS41.alloc | apply IsS41.drewN | apply IsS41.drew | apply IsS41.set_1 | apply IsS41.set_2 | refine IsS41.far ?_ NB0_426.out _ | refine IsS41.far ?_ NB0_441.out _) | exact x1_)) : P := h x1_
theorem qc8f_ {P : Prop} (h : P := by first | rfl | (simp; done) | (simp [*]; done)) : P := h
theorem q5a8_ {P : Prop} {Q1 : Prop} (x1_ : Q1) (h : Q1 → P := by intro x1_; repeat (first | exact (Kd.R_reads' x1_).2.2 | (with_reducible refine Kd.C_alloc ?_ _) | (with_reducible refine Kd.C_drewN ?_ _) | (with_reducible refine Kd.C_drew ?_))) : P := h x1_
theorem qde4_ {P : Prop} (h : P := by repeat (first | (with_reducible first | exact HK.out | apply KeepBut.set_ | apply keep_drewN | apply keep_drew | apply keep_alloc | refine keep_far ?_ GW426.out _) | exact HK.out)) : P := h
theorem qe72_ {P : Prop} (h : P := by repeat (first | (with_reducible first | exact HB.out | apply below_alloc | apply pw_below_drewN | apply below_drew1 | refine below_set ?_ GE574.out | refine below_set ?_ GE582.out | refine below_set ?_ GE591.out) | exact HB.out)) : P := h
theorem q8fe_ {P : Prop} {Q1 : Prop} (x1_ : Q1) (h : Q1 → P := by intro x1_; repeat (first | (with_reducible first | exact x1_ | apply IsS41.alloc | apply IsS41.drewN | apply IsS41.drew | apply IsS41.set_1 | apply IsS41.set_2 | refine IsS41.far ?_ NB0_426.out _) | exact x1_)) : P := h x1_
theorem qc52_ {P : Prop} (h : P := by repeat (first | exact HG.out | (with_reducible refine Rg0.drewN ?_ _) | (with_reducible refine Rg0.drew ?_))) : P := h
theorem q201_ {P : Prop} {Q1 : Prop} (x1_ : Q1) (h : Q1 → P := by intro x1_; repeat (first | exact x1_ | (with_reducible refine Kd.C_alloc ?_ _) | (with_reducible refine Kd.C_drewN ?_ _) | (with_reducible refine Kd.C_drew ?_))) : P := h x1_
theorem q75d_ {P : Prop} {Q1 : Prop} (x1_ : Q1) (h : Q1 → P := by intro x1_; repeat (first | (with_reducible first | exact HB.out | apply below_alloc | apply pw_below_drewN | apply below_drew1 | refine below_set ?_ (IsS41.ge x1_) | refine below_set ?_ GE426.out) | exact HB.out)) : P := h x1_
theorem q270_ {P : Prop} (h : P := by (with_reducible repeat (first | refine blk_drewN ?_ _ | refine blk_drew ?_ | refine blk_alloc ?_ _)); exact BK426.out) : P := h
theorem qfba_ {P : Prop} (h : P := by first | (go_simp; done) | (go_simp; rfl)) : P := h
theorem qdab_ {P : Prop} (h : P := by (with_reducible repeat (first | refine blk_drewN ?_ _ | refine blk_drew ?_ | refine blk_alloc ?_ _)); exact BK574.out) : P := h
theorem q98d_ {P : Prop} (h : P := by repeat (first | exact HI.out | (with_reducible refine RpI.drewN ?_ _) | (with_reducible refine RpI.drew ?_) | (with_reducible refine RpI.alloc ?_ _))) : P := h
theorem qa36_ {P : Prop} (h : P := by (with_reducible repeat (first | refine blk_drewN ?_ _ | refine blk_drew ?_ | refine blk_alloc ?_ _)); exact BK582.out) : P := h
theorem q926_ {P : Prop} (h : P := by repeat (first | (with_reducible first | exact HB.out | apply below_alloc | apply pw_below_drewN | apply below_drew1 | refine below_set ?_ GE486.out) | exact HB.out)) : P := h
theorem q1bc_ {P : Prop} (h : P := by repeat (first | (with_reducible first | exact HK.out | apply KeepBut.set_ | apply keep_drewN | apply keep_drew | apply keep_alloc | refine keep_far ?_ GW426.out _ | refine keep_far ?_ GW441.out _) | exact HK.out)) : P := h
theorem q268_ {P : Prop} {Q1 : Prop} (x1_ : Q1) (h : Q1 → P := by intro x1_; repeat (first | (with_reducible first | exact HB.out | apply below_alloc | apply pw_below_drewN | apply below_drew1 | refine below_set ?_ (IsS41.ge x1_) | refine below_set ?_ GE426.out | refine below_set ?_ GE441.out) | exact HB.out)) : P := h x1_
theorem qffa_ {P : Prop} (h : P := by repeat (first | exact Drawn0.refl _ | apply Drawn0.step)) : P := h
theorem q447_ {P : Prop} (h : P := by first | exact ⟨rfl, _, World.drewN_drewN _ _ _⟩ | exact ⟨rfl, _, Eq.trans (World.drewN_drewN _ _ _) (congrArg (World.drewN _) (Nat.add_assoc _ _ _))⟩) : P := h
theorem q5e2_ {P : Prop} {Q1 : Prop} (x1_ : Q1) (h : Q1 → P := by intro x1_; repeat (first | exact Kd.C_below x1_ HG.out.below | (with_reducible refine Kd.C_alloc ?_ _) | (with_reducible refine Kd.C_drewN ?_ _) | (with_reducible refine Kd.C_drew ?_))) : P := h x1_
theorem q75a_ {P : Prop} {Q1 : Prop} (x1_ : Q1) (h : Q1 → P := by intro x1_; repeat (first | (with_reducible exact x1_) | (with_reducible refine Kd.C_alloc ?_ _) | (with_reducible refine Kd.C_drewN ?_ _) | (with_reducible refine Kd.C_drew ?_) | exact x1_)) : P := h x1_
theorem qf62_ {P : Prop} (h : P := by first | exact Kd.R_nil _ _ _ _ _ | exact Kd.N_nil _ _ _ _ _ | exact Kd.V_nil _ _ _ _ _ | exact Kd.Q_nil _ _ _ _ _ | exact Kd.S_nil _ _ _ _ _) : P := h
theorem q592_ {P : Prop} (h : P := by (with_reducible repeat (first | refine blk_drewN ?_ _ | refine blk_drew ?_ | refine blk_alloc ?_ _)); exact BK486.out) : P := h
theorem qe47_ {P : Prop} (h : P := by repeat (first | (with_reducible first | exact HB.out | apply below_alloc | apply pw_below_drewN | apply below_drew1 | refine below_set ?_ GE574.out | refine below_set ?_ GE582.out | refine below_set ?_ GE591.out | refine below_set ?_ GE618.out) | exact HB.out)) : P := h
theorem qd64_ {P : Prop} (h : P := by (with_reducible repeat (first | refine blk_drewN ?_ _ | refine blk_drew ?_ | refine blk_alloc ?_ _)); exact BK591.out) : P := h
theorem qe7e_ {P : Prop} (h : P := by repeat (first | (with_reducible first | exact HB.out | apply below_alloc | apply pw_below_drewN | apply below_drew1 | refine below_set ?_ GE471.out) | exact HB.out)) : P := h
theorem q654_ {P : Prop} (h : P := by repeat (first | (with_reducible first | exact HB.out | apply below_alloc | apply pw_below_drewN | apply below_drew1 | refine below_set ?_ GE358.out | refine below_set ?_ GE362.out) | exact HB.out)) : P := h
theorem q275_ {P : Prop} (h : P := by (with_reducible repeat (first | refine blk_drewN ?_ _ | refine blk_drew ?_ | refine blk_alloc ?_ _)); refine blk_far ?_ NB426_441.out _; (with_reducible repeat (first | refine blk_drewN ?_ _ | refine blk_drew ?_ | refine blk_alloc ?_ _)); refine blk_far ?_ NB426_441.out _; (with_reducible repeat (first | refine blk_drewN ?_ _ | refine blk_drew ?_ | refine blk_alloc ?_ _)); exact BK426.out) : P := h
theorem q935_ {P : Prop} (h : P := by repeat (first | (with_reducible first | exact HB.out | apply below_alloc | apply pw_below_drewN | apply below_drew1 | refine below_set ?_ GE574.out | refine below_set ?_ GE582.out) | exact HB.out)) : P := h
theorem qc29_ {P : Prop} (h : P := by (with_reducible repeat (first | refine blk_drewN ?_ _ | refine blk_drew ?_ | refine blk_alloc ?_ _)); refine blk_put (cs := #[.slice A8 s1.length c8, .slice none 0 0]) ?_ 1 _ rfl; (with_reducible repeat (first | refine blk_drewN ?_ _ | refine blk_drew ?_ | refine blk_alloc ?_ _)); refine blk_put (cs := #[.slice none 0 0, .slice none 0 0]) ?_ 0 _ rfl; (with_reducible repeat (first | refine blk_drewN ?_ _ | refine blk_drew ?_ | refine blk_alloc ?_ _)); refine blk_far ?_ HN8.out.2.1 _; (with_reducible repeat (first | refine blk_drewN ?_ _ | refine blk_drew ?_ | refine blk_alloc ?_ _)); refine blk_far ?_ HN8.out.2.1 _; (with_reducible repeat (first | refine blk_drewN ?_ _ | refine blk_drew ?_ | refine blk_alloc ?_ _)); exact HG.out.h6) : P := h
theorem q8fc_ {P : Prop} (h : P := by repeat (first | (with_reducible first | exact HB.out | apply below_alloc | apply pw_below_drewN | apply below_drew1 | refine below_set ?_ GE480.out) | exact HB.out)) : P := h
theorem q086_ {P : Prop} (h : P := by repeat (first | (with_reducible first | exact HB.out | apply below_alloc | apply pw_below_drewN | apply below_drew1 | refine below_set ?_ GE519.out) | exact HB.out)) : P := h
theorem qe63_ {P : Prop} (h : P := by repeat (first | (with_reducible first | exact HB.out | apply below_alloc | apply pw_below_drewN | apply below_drew1 | refine below_set ?_ GE574.out | refine below_set ?_ GE582.out | refine below_set ?_ GE591.out | refine below_set ?_ GE618.out | refine below_set ?_ GE630.out) | exact HB.out)) : P := h
theorem qa32_ {P : Prop} (h : P := by repeat (first | (with_reducible first | exact HB.out | apply below_alloc | apply pw_below_drewN | apply below_drew1 | refine below_set ?_ GE504.out) | exact HB.out)) : P := h
theorem q298_ {P : Prop} (h : P := by (with_reducible repeat (first | refine blk_drewN ?_ _ | refine blk_drew ?_ | refine blk_alloc ?_ _)); exact BK358.out) : P := h
theorem q7d9_ {P : Prop} {Q1 : Prop} (x1_ : Q1) (h : Q1 → P := by intro x1_; (with_reducible repeat (first | apply Kd.R_alloc | apply Kd.R_drewN | apply Kd.R_drew)); exact Kd.R_mono x1_ (fun _ hk => trivial)) : P := h x1_
theorem q8bf_ {P : Prop} (h : P := by repeat (first | (with_reducible first | exact HB.out | apply below_alloc | apply pw_below_drewN | apply below_drew1 | refine below_set ?_ GE234.out) | exact HB.out)) : P := h
theorem q5b3_ {P : Prop} (h : P := by repeat (first | (with_reducible first | exact HB.out | apply below_alloc | apply pw_below_drewN | apply below_drew1 | refine below_set ?_ GE302.out) | exact HB.out)) : P := h
theorem q036_ {P : Prop} (h : P := by repeat (first | (with_reducible first | exact HB.out | apply below_alloc | apply pw_below_drewN | apply below_drew1 | refine below_set ?_ GE514.out) | exact HB.out)) : P := h
theorem q957_ {P : Prop} (h : P := by repeat (first | (with_reducible first | exact HB.out | apply below_alloc | apply pw_below_drewN | apply below_drew1 | refine below_set ?_ GE538.out) | exact HB.out)) : P := h
theorem qfda_ {P : Prop} (h : P := by repeat (first | (with_reducible first | exact HB.out | apply below_alloc | apply pw_below_drewN | apply below_drew1 | refine below_set ?_ GE313.out) | exact HB.out)) : P := h
theorem q5c4_ {P : Prop} (h : P := by repeat (first | (with_reducible first | exact HB.out | apply below_alloc | apply pw_below_drewN | apply below_drew1 | refine below_set ?_ GE574.out) | exact HB.out)) : P := h
theorem q87a_ {P : Prop} (h : P := by (with_reducible repeat (first | refine blk_drewN ?_ _ | refine blk_drew ?_ | refine blk_alloc ?_ _)); refine blk_put (cs := #[.slice B0 l1_0.length d0, .slice none 0 0]) ?_ 1 _ rfl; (with_reducible repeat (first | refine blk_drewN ?_ _ | refine blk_drew ?_ | refine blk_alloc ?_ _)); refine blk_put (cs := #[.slice none 0 0, .slice none 0 0]) ?_ 0 _ rfl; (with_reducible repeat (first | refine blk_drewN ?_ _ | refine blk_drew ?_ | refine blk_alloc ?_ _)); exact HG.out.h6) : P := h
theorem q578_ {P : Prop} {Q1 : Prop} (x1_ : Q1) (h : Q1 → P := by intro x1_; repeat (first | exact (Kd.R_reads' x1_).2.2 | (with_reducible refine Kd.C_drewN ?_ _) | (with_reducible refine Kd.C_drew ?_))) : P := h x1_
theorem q684_ {P : Prop} (h : P := by (with_reducible repeat (first | refine blk_drewN ?_ _ | refine blk_drew ?_ | refine blk_alloc ?_ _)); refine blk_put (cs := #[.slice none 0 0, .slice none 0 0]) ?_ 1 _ rfl; (with_reducible repeat (first | refine blk_drewN ?_ _ | refine blk_drew ?_ | refine blk_alloc ?_ _)); refine blk_put (cs := #[.slice none 0 0, .slice none 0 0]) ?_ 0 _ rfl; (with_reducible repeat (first | refine blk_drewN ?_ _ | refine blk_drew ?_ | refine blk_alloc ?_ _)); exact HG.out.h6) : P := h
theorem qe0f_ {P : Prop} {Q1 : Prop} (x1_ : Q1) (h : Q1 → P := by intro x1_; (with_reducible repeat (first | apply Kd.R_alloc | apply Kd.R_drewN | apply Kd.R_drew)); exact Kd.R_mono x1_ (fun _ hk => hk.2)) : P := h x1_
theorem q4a6_ {P : Prop} (h : P := by (with_reducible repeat (first | refine blk_drewN ?_ _ | refine blk_drew ?_ | refine blk_alloc ?_ _)); exact BK471.out) : P := h
theorem q359_ {P : Prop} (h : P := by repeat (first | (with_reducible first | exact HB.out | apply below_alloc | apply pw_below_drewN | apply below_drew1 | refine below_set ?_ GE358.out) | exact HB.out)) : P := h
theorem q4f5_ {P : Prop} {Q1 : Prop} (x1_ : Q1) (h : Q1 → P := by intro x1_; repeat (first | (with_reducible first | exact HB.out | apply below_alloc | apply pw_below_drewN | apply below_drew1 | refine below_set ?_ (IsS41.ge x1_) | refine below_set ?_ GE455.out) | exact HB.out)) : P := h x1_
theorem q7e3_ {P : Prop} (h : P := by repeat (first | (with_reducible first | exact HB.out | apply below_alloc | apply pw_below_drewN | apply below_drew1 | refine below_set ?_ GE313.out | refine below_set ?_ GE314.out) | exact HB.out)) : P := h
theorem q37b_ {P : Prop} {Q1 : Prop} {Q2 : Prop} (x1_ : Q1) (x2_ : Q2) (h : Q1 → Q2 → P := by intro x1_ x2_; have := x1_; have := x2_; omega) : P := h x1_ x2_
theorem q57a_ {P : Prop} (h : P := by (with_reducible repeat (first | refine blk_drewN ?_ _ | refine blk_drew ?_ | refine blk_alloc ?_ _)); exact BK313.out) : P := h
theorem q313_ {P : Prop} (h : P := by (with_reducible repeat (first | refine blk_drewN ?_ _ | refine blk_drew ?_ | refine blk_alloc ?_ _)); exact BK618.out) : P := h
theorem qccf_ {P : Prop} (h : P := by repeat (first | (with_reducible first | exact HB.out | apply below_alloc | apply pw_below_drewN | apply below_drew1 | refine below_set ?_ GE529.out) | exact HB.out)) : P := h
theorem q0ef_ {P : Prop} {Q1 : Prop} (x1_ : Q1) (h : Q1 → P := by intro x1_; (with_reducible repeat (first | apply Kd.R_alloc | apply Kd.R_drewN | apply Kd.R_drew)); exact Kd.R_mono x1_ (fun _ hk => ⟨trivial, hk⟩)) : P := h x1_
theorem qff1_ {P : Prop} (h : P := by repeat (first | (with_reducible first | exact HB.out | apply below_alloc | apply pw_below_drewN | apply below_drew1 | refine below_set ?_ GE455.out) | exact HB.out)) : P := h
theorem q1a4_ {P : Prop} {Q1 : Prop} (x1_ : Q1) (h : Q1 → P := by intro x1_; (with_reducible repeat (first | apply Kd.R_alloc | apply Kd.R_drewN | apply Kd.R_drew)); exact Kd.R_mono x1_ (fun _ hk => ⟨hk.1.1.1.1.1.1.1.1.1.1.1.1.1.2, ⟨hk.1.1.1.1.1.1.1.1.1.1.1.1.1.1, ⟨hk.1.1.1.1.1.1.1.1.1.1.1.1.2, ⟨hk.1.1.1.1.1.1.1.1.1.1.1.2, ⟨hk.1.1.1.1.1.1.1.1.1.1.2, hk.1.1.1.1.1.1.1.1.1.2⟩⟩⟩⟩⟩)) : P := h x1_
theorem q4d0_ {P : Prop} {Q1 : Prop} (x1_ : Q1) (h : Q1 → P := by intro x1_; (with_reducible repeat (first | apply Kd.R_alloc | apply Kd.R_drewN | apply Kd.R_drew)); exact Kd.R_mono x1_ (fun _ hk => ⟨hk.1.1.1.1.1.1.1.1.1.1.1.1.1.2, ⟨hk.1.1.1.1.1.1.1.1.1.1.1.1.2, ⟨hk.1.1.1.1.1.1.1.1.1.1.1.2, ⟨hk.1.1.1.1.1.1.1.1.1.1.1.1.1.1, ⟨hk.1.1.1.1.1.1.1.1.1.1.2, hk.1.1.1.1.1.1.1.1.1.2⟩⟩⟩⟩⟩)) : P := h x1_
theorem q3fe_ {P : Prop} {Q1 : Prop} (x1_ : Q1) (h : Q1 → P := by intro x1_; (with_reducible repeat (first | apply Kd.R_alloc | apply Kd.R_drewN | apply Kd.R_drew)); exact Kd.R_mono x1_ (fun _ hk => ⟨hk.1.1.1.1.1.1.1.1.1.1.1.1.1.2, ⟨hk.1.1.1.1.1.1.1.1.1.1.1.1.2, ⟨hk.1.1.1.1.1.1.1.1.1.1.1.2, ⟨hk.1.1.1.1.1.1.1.1.1.1.2, ⟨hk.1.1.1.1.1.1.1.1.1.2, hk.1.1.1.1.1.1.1.1.1.1.1.1.1.1⟩⟩⟩⟩⟩)) : P := h x1_
theorem q05c_ {P : Prop} (h : P := by (with_reducible repeat (first | refine blk_drewN ?_ _ | refine blk_drew ?_ | refine blk_alloc ?_ _)); exact BK480.out) : P := h
theorem q108_ {P : Prop} (h : P := by (with_reducible repeat (first | refine blk_drewN ?_ _ | refine blk_drew ?_ | refine blk_alloc ?_ _)); exact BK362.out) : P := h
theorem qebf_ {P : Prop} (h : P := by (with_reducible repeat (first | refine blk_drewN ?_ _ | refine blk_drew ?_ | refine blk_alloc ?_ _)); exact BK504.out) : P := h
theorem q813_ {P : Prop} (h : P := by (with_reducible repeat (first | refine blk_drewN ?_ _ | refine blk_drew ?_ | refine blk_alloc ?_ _)); exact BK519.out) : P := h
theorem q3e9_ {P : Prop} {Q1 : Prop} {Q2 : Prop} {Q3 : Prop} {Q4 : Prop} (x1_ : Q1) (x2_ : Q2) (x3_ : Q3) (x4_ : Q4) (h : Q1 → Q2 → Q3 → Q4 → P := by intro x1_ x2_ x3_ x4_; have := x1_; have := x2_; have := x3_; have := x4_; omega) : P := h x1_ x2_ x3_ x4_
theorem qef5_ {P : Prop} (h : P := by (try simp only [List.map_toArray, List.map_cons, List.map_nil]); first | done | rfl | (simp only [List.length_drop, List.length_take]; rfl)) : P := h
theorem q506_ {P : Prop} (h : P := by first | (simp only [List.map_toArray, List.map_cons, List.map_nil, Act.eval, Array.getD_eq_getD_getElem?, Option.getD_some, e70]; done) | (simp only [List.map_toArray, List.map_cons, List.map_nil, Act.eval, Array.getD_eq_getD_getElem?, Option.getD_some, e70]; rfl)) : P := h
theorem q32c_ {P : Prop} (h : P := by rw [ha]; exact (putSel_off rfl).trans rfl) : P := h
theorem qafe_ {P : Prop} {Q1 : Prop} (x1_ : Q1) (h : Q1 → P := by intro x1_; (with_reducible repeat (first | apply Kd.R_alloc | apply Kd.R_drewN | apply Kd.R_drew)); exact Kd.R_mono x1_ (fun _ hk => ⟨hk.1.1.1.1.1.1.1.1.2, ⟨hk.1.1.1.1.1.1.1.1.1, ⟨hk.1.1.1.1.1.1.1.2, ⟨hk.1.1.1.1.1.1.2, ⟨hk.1.1.1.1.1.2, hk.1.1.1.1.2⟩⟩⟩⟩⟩)) : P := h x1_
theorem q69c_ {P : Prop} {Q1 : Prop} (x1_ : Q1) (h : Q1 → P := by intro x1_; (with_reducible repeat (first | apply Kd.R_alloc | apply Kd.R_drewN | apply Kd.R_drew)); exact Kd.R_mono x1_ (fun _ hk => ⟨hk.1.1.1.1.1.1.1.1.2, ⟨hk.1.1.1.1.1.1.1.2, ⟨hk.1.1.1.1.1.1.2, ⟨hk.1.1.1.1.1.1.1.1.1, ⟨hk.1.1.1.1.1.2, hk.1.1.1.1.2⟩⟩⟩⟩⟩)) : P := h x1_
theorem q705_ {P : Prop} {Q1 : Prop} (x1_ : Q1) (h : Q1 → P := by intro x1_; (with_reducible repeat (first | apply Kd.R_alloc | apply Kd.R_drewN | apply Kd.R_drew)); exact Kd.R_mono x1_ (fun _ hk => ⟨hk.1.1.1.1.1.1.1.1.2, ⟨hk.1.1.1.1.1.1.1.2, ⟨hk.1.1.1.1.1.1.2, ⟨hk.1.1.1.1.1.2, ⟨hk.1.1.1.1.2, hk.1.1.1.1.1.1.1.1.1⟩⟩⟩⟩⟩)) : P := h x1_
theorem q91d_ {P : Prop} (h : P := by (with_reducible repeat (first | refine blk_drewN ?_ _ | refine blk_drew ?_ | refine blk_alloc ?_ _)); exact BK455.out) : P := h
theorem qf1e_ {P : Prop} {Q1 : Prop} (x1_ : Q1) (h : Q1 → P := by intro x1_; repeat (first | exact x1_ | apply Kd.R_drewN | apply Kd.R_drew)) : P := h x1_
theorem q0d4_ {P : Prop} {Q1 : Prop} {Q2 : Prop} {Q3 : Prop} (x1_ : Q1) (x2_ : Q2) (x3_ : Q3) (h : Q1 → Q2 → Q3 → P := by intro x1_ x2_ x3_; have := x1_; have := x2_; have := x3_; first | omega | exact Nat.le_refl _) : P := h x1_ x2_ x3_
theorem q2d1_ {P : Prop} (h : P := by repeat (first | (with_reducible first | exact HG.out.below | apply below_alloc | apply pw_below_drewN | apply below_drew1 | refine below_set ?_ HG.out.ge6 | refine below_set ?_ HN8.out.2.2) | exact HG.out.below)) : P := h
theorem qae6_ {P : Prop} (h : P := by repeat (first | (with_reducible first | exact HG.out.below | apply below_alloc | apply pw_below_drewN | apply below_drew1 | refine below_set ?_ HG.out.ge6 | refine below_set ?_ HG.out.ge5) | exact HG.out.below)) : P := h
theorem q810_ {P : Prop} {Q1 : Prop} (x1_ : Q1) (h : Q1 → P := by intro x1_; (with_reducible repeat (first | apply Kd.R_alloc | apply Kd.R_drewN | apply Kd.R_drew)); exact Kd.R_mono x1_ (fun _ hk => ⟨hk.2, hk.1⟩)) : P := h x1_
theorem q6e2_ {P : Prop} (h : P := by first | rfl | (simp; done)) : P := h
theorem q697_ {P : Prop} (h : P := by repeat (first | (with_reducible first | exact HG.out.below | apply below_alloc | apply pw_below_drewN | apply below_drew1 | refine below_set ?_ HG.out.ge6) | exact HG.out.below)) : P := h
theorem q821_ {P : Prop} (h : P := by first | omega | exact Nat.le_refl _) : P := h
theorem q192_ {P : Prop} (h : P := by (with_reducible repeat (first | refine blk_drewN ?_ _ | refine blk_drew ?_ | refine blk_alloc ?_ _)); exact BK234.out) : P := h
theorem qb1a_ {P : Prop} (h : P := by (with_reducible repeat (first | refine blk_drewN ?_ _ | refine blk_drew ?_ | refine blk_alloc ?_ _)); exact BK302.out) : P := h
theorem qb9a_ {P : Prop} (h : P := by (with_reducible repeat (first | refine blk_drewN ?_ _ | refine blk_drew ?_ | refine blk_alloc ?_ _)); exact BK441.out) : P := h
theorem q9ae_ {P : Prop} (h : P := by (with_reducible repeat (first | refine blk_drewN ?_ _ | refine blk_drew ?_ | refine blk_alloc ?_ _)); exact BK514.out) : P := h
theorem q09c_ {P : Prop} (h : P := by (with_reducible repeat (first | refine blk_drewN ?_ _ | refine blk_drew ?_ | refine blk_alloc ?_ _)); exact BK538.out) : P := h
theorem q0c7_ {P : Prop} (h : P := by repeat (first | exact HG.out | (with_reducible refine Rg0.drewN ?_ _) | (with_reducible refine Rg0.drew ?_) | refine Rg0.set ?_ HN8.out.2.2 HN8.out.1 HN8.out.2.1 _ _)) : P := h
theorem qf76_ {P : Prop} (h : P := by repeat (first | (with_reducible first | exact HB.out | apply below_alloc | apply pw_below_drewN | apply below_drew1 | refine below_set ?_ GE194.out) | exact HB.out)) : P := h
theorem q701_ {P : Prop} (h : P := by repeat (first | (with_reducible first | exact HB.out | apply below_alloc | apply pw_below_drewN | apply below_drew1 | refine below_set ?_ GE543.out) | exact HB.out)) : P := h
theorem q85a_ {P : Prop} {Q1 : Prop} (x1_ : Q1) (h : Q1 → P := by intro x1_; repeat (first | (with_reducible first | exact x1_ | apply below_alloc | apply pw_below_drewN | apply below_drew1 | refine below_set ?_ GW2.out) | exact x1_)) : P := h x1_
theorem q66c_ {P : Prop} {Q1 : Prop} (x1_ : Q1) (h : Q1 → P := by intro x1_; (with_reducible repeat (first | refine blk_drewN ?_ _ | refine blk_drew ?_ | refine blk_alloc ?_ _)); exact x1_) : P := h x1_
theorem q13e_ {P : Prop} (h : P := by repeat (first | exact HG.out.below | apply pw_below_drewN | apply below_drew1)) : P := h
theorem qa8d_ {P : Prop} (h : P := by repeat (first | exact HP.out | (with_reducible refine RpI.drewN ?_ _) | (with_reducible refine RpI.drew ?_) | (with_reducible refine RpI.alloc ?_ _))) : P := h
theorem q002_ {P : Prop} (h : P := by first | simpa using c3 | (simp at c3 ⊢; omega)) : P := h
theorem qe8c_ {P : Prop} {Q1 : Prop} (x1_ : Q1) (h : Q1 → P := by intro x1_; repeat (first | exact (q75a_ x1_) | (with_reducible refine Kd.C_alloc ?_ _) | (with_reducible refine Kd.C_drewN ?_ _) | (with_reducible refine Kd.C_drew ?_))) : P := h x1_
theorem q8a0_ {P : Prop} (h : P := by (try simp only [List.map_toArray, List.map_cons, List.map_nil]); first | done | (rw [show (l0.take (x18_2 : Int).toNat).length = x18_2.toNat from (by rw [List.length_take]; have h_ : (x18_2 : Int) ≤ (l0.length : Int) := of_decide_eq_true qe84_; omega)] <;> rfl) | rfl | (simp only [List.length_drop, List.length_take]; rfl)) : P := h
theorem q02c_ {P : Prop} {Q1 : Prop} (x1_ : Q1) (h : Q1 → P := by intro x1_; repeat (first | exact (Kd.C_below x1_ q7e3_) | (with_reducible refine Kd.C_alloc ?_ _) | (with_reducible refine Kd.C_drewN ?_ _) | (with_reducible refine Kd.C_drew ?_))) : P := h x1_
theorem qaec_ {P : Prop} {Q1 : Prop} (x1_ : Q1) (h : Q1 → P := by intro x1_; rw [Ny127.out]; exact Kd.C_take (m := (t124 : Int).toNat) ((Kd.R_reads' (Kd.R_after (ok := (fun _ => True)) (q9d5_ x1_) hg hat)).2.2) KL18.out) : P := h x1_
theorem qb32_ {P : Prop} {Q1 : Prop} (x1_ : Q1) (h : Q1 → P := by intro x1_; rw [Ny324.out]; exact Kd.C_take (m := (x5_2 : Int).toNat) ((Kd.R_reads' (Kd.R_after (ok := (fun _ => True)) (q9d5_ x1_) hg hat)).2.2) KL19.out) : P := h x1_
theorem qcbe_ {P : Prop} {Q1 : Prop} (x1_ : Q1) (h : Q1 → P := by intro x1_; rw [Ny341.out]; exact Kd.C_take (m := (x5_2 : Int).toNat) ((Kd.R_reads' (Kd.R_after (ok := (fun _ => True)) (q9d5_ x1_) hg hat)).2.2) KL32.out) : P := h x1_
end Go.Proofs.YtgfcnfbbiaeboaaGreat.PAll
