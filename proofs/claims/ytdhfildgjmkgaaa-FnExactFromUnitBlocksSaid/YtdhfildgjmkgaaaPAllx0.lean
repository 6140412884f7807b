-- written by a program of this session (wip/gen/xpatch.py over the translation); Lean checks it
import Derived.Test.YtdhfildgjmkgaaaProg
import Derived.Below
import Derived.Deep.Draws
import Derived.Deep.AppendLies
import Derived.Maps.AppendAt
import Derived.OwnWalk
import Derived.Laws.BytesArg
import Derived.Laws.MakeOwn
import Derived.Laws.OwnMore
import Derived.Deep.OwnRows
import Derived.Tactics
import Derived.Lib.ConvBytes
import Derived.Laws.Slices
import Derived.WalkKit
import Derived.KernelRfl
import Derived.RowKit3
import Derived.Deep.LoopGhost
import Derived.Deep.QuietTactic
import Derived.BigQuiet
import Derived.WideLaws
import Derived.Deep.DeepCutAuto
import Derived.Deep.CutBlock
import Derived.Deep.RegionHeld3
import Derived.Laws.Rows
import Derived.Lib.AppendStr
import Derived.ArgAppend
import Derived.Laws.IdiomCopy
import Derived.OrdersHeld
import Derived.Laws.BitsLemmas
import Derived.RowKit
import Derived.Test.YtdhfildgjmkgaaaWWords
import Derived.Test.YtdhfildgjmkgaaaWLast
import Derived.Test.YtdhfildgjmkgaaaWTab
import Derived.Test.YtdhfildgjmkgaaaWFour
import Derived.Test.YtdhfildgjmkgaaaWQPut
import Derived.Test.YtdhfildgjmkgaaaWApart
import Derived.Test.YtdhfildgjmkgaaaWArr
import Derived.Test.YtdhfildgjmkgaaaWZeros
import Derived.Test.YtdhfildgjmkgaaaWFoot
import Derived.Test.YtdhfildgjmkgaaaWKept
import Derived.Test.YtdhfildgjmkgaaaWShare
import Derived.Test.YtdhfildgjmkgaaaWN
import Derived.Test.YtdhfildgjmkgaaaWFootNe
import Derived.Test.YtdhfildgjmkgaaaWAt
import Derived.Test.YtdhfildgjmkgaaaWEqStruct
import Derived.Test.YtdhfildgjmkgaaaWRepsOne
import Derived.Test.YtdhfildgjmkgaaaWInv
import Derived.Test.YtdhfildgjmkgaaaWInvWords
import Derived.Test.YtdhfildgjmkgaaaWGuard
import Derived.Test.YtdhfildgjmkgaaaWNEv
import Derived.Test.YtdhfildgjmkgaaaWMore
import Derived.Test.YtdhfildgjmkgaaaHandE
import Derived.Test.YtdhfildgjmkgaaaHandF
import Derived.Test.YtdhfildgjmkgaaaHandN
namespace Go.Proofs.Ytdhfildgjmkgaaa.PAll
open Go.RowKit Go.Proofs.Ytdhfildgjmkgaaa.Hand Go.Proofs.YtdhfildgjmkgaaaW.PrintWords Go.Proofs.YtdhfildgjmkgaaaW.PrintLast Go.Proofs.YtdhfildgjmkgaaaW.PrintMore
attribute [local go_sem] max2_int min2_int max_two min_two max_three min_three max_four min_four   -- for this text's walks alone
set_option linter.unusedVariables false
set_option linter.unusedSimpArgs false



def errW : Option Int → Value
  | none => .nilIface
  | some c => .iface 0 (.int .i64 c)
theorem errW_none : errW none = .nilIface := rfl
theorem errW_some (c : Int) : errW (some c) = .iface 0 (.int .i64 c) := rfl

theorem info3 : (Try.prog.info? 3).map (fun i => (i.zero, i.size, i.bytes)) = some (some (.int .i64 0), 1, 8) := by kernel_rfl
theorem info4 : (Try.prog.info? 4).map (fun i => (i.zero, i.size, i.bytes)) = some (some (.bool false), 1, 1) := by kernel_rfl
theorem info24 : (Try.prog.info? 24).map (fun i => (i.zero, i.size, i.bytes)) = some (some (.slice none 0 0), 1, 24) := by kernel_rfl
-- the values' own types
def rd_L1 (xs : List (List Int)) (i : Int) : (List Int) := xs.getD i.toNat ([] : List Int)
theorem at_L1 {w : World} {A : Option Addr} {n : Nat} {xs : List (List Int)} (h : Kd.C (Kd.slice 3 (Kd.int .i64)) w A n xs) (i : Int) (h0 : 0 ≤ i) (h1 : i < n) : ∃ ad A0 c0, A = some ad ∧ w.cell? (ad.add i.toNat) = some (.slice A0 (rd_L1 xs i).length c0) ∧ (rd_L1 xs i).length ≤ c0 ∧ (Kd.int .i64).C w A0 (rd_L1 xs i).length (rd_L1 xs i) := by
  obtain ⟨ad, c, e, _, hK, hc0⟩ := Kd.C_get h ([] : List Int) i h0 h1
  have hc : ∀ j u, c[j]? = some u → w.cell? (ad.add (i.toNat * 1 + j)) = some u := hc0
  obtain ⟨A0, c0, rfl, l0, g0⟩ := hK
  exact ⟨ad, A0, c0, e, by have hq := hc 0 _ rfl; rwa [Nat.mul_one, Nat.add_zero] at hq, l0, g0⟩

/-! blocks that recur -/
theorem ob_ {α β : Type} {o : Option α} {f : α → Option β} {r : β} (h : o.bind f = some r) : ∃ t, Aside0 (o = some t) ∧ f t = some r := (Option.bind_eq_some_iff.mp h).imp fun _ h => ⟨⟨h.1⟩, h.2⟩
theorem nf_ : ¬ (false = true) := by decide
theorem gl_ {P : Program} {ops : Array Oper} {Q : Exit → Act → World → Prop} {rest : List Oper} {oi : Oper} {a : Act} {w : World} (n : Tmp) {f : FuncId} {fn : Func} {az : Array Operand} {tz : Array TypeId} (hf : P.funcs[f]? = some fn) (args : Array Value) (h : Calls P f args w fun e w' => ∃ v, e = .returned v ∧ wpList P ops Q rest (a.put (some n) v) w') (hd : oi.dst = some n := by exact rfl) (hg : oi.guard = none := by exact rfl) (hname : (fn.name == "runtime.NumGoroutine") = false := by kernel_rfl) (hb : fn.body.isSome = true := by exact rfl) (hop : oi.op = .call { callee := .value (.func f), args := az, argTypes := tz } := by exact rfl) (hargs : az.map a.eval = args := by (try simp only [List.map_toArray, List.map_cons, List.map_nil]); first | done | rfl | (simp only [List.length_drop, List.length_take]; rfl)) : wpList P ops Q (oi :: rest) a w := goesL_ (some n) hd hg hf hname hb args hop hargs h
theorem q0c4_ {P : Prop} (h : P := by repeat (first | (with_reducible first | exact HB.out | apply below_alloc | apply pw_below_drewN | apply below_drew1) | exact HB.out)) : P := h
theorem q9d5_ {P : Prop} {Q1 : Prop} (x1_ : Q1) (h : Q1 → P := by intro x1_; (with_reducible repeat (first | apply Kd.R_alloc | apply Kd.R_drewN | apply Kd.R_drew)); exact x1_) : P := h x1_
theorem qe84_ {P : Prop} (h : P := by first | (with_reducible assumption) | assumption) : P := h
theorem qc8f_ {P : Prop} (h : P := by first | rfl | (simp; done) | (simp [*]; done)) : P := h
theorem qce7_ {P : Prop} (h : P := by first | rfl | (simp [errW_none, errW_some] <;> rfl) | (simp [*, errW_none, errW_some] <;> rfl)) : P := h
theorem q201_ {P : Prop} {Q1 : Prop} (x1_ : Q1) (h : Q1 → P := by intro x1_; repeat (first | exact x1_ | (with_reducible refine Kd.C_alloc ?_ _) | (with_reducible refine Kd.C_drewN ?_ _) | (with_reducible refine Kd.C_drew ?_))) : P := h x1_
theorem qffa_ {P : Prop} (h : P := by repeat (first | exact Drawn0.refl _ | apply Drawn0.step)) : P := h
theorem qe02_ {P : Prop} {Q1 : Prop} (x1_ : Q1) (h : Q1 → P := by intro x1_; repeat (first | exact (Kd.C_below x1_ HB.out) | (with_reducible refine Kd.C_alloc ?_ _) | (with_reducible refine Kd.C_drewN ?_ _) | (with_reducible refine Kd.C_drew ?_))) : P := h x1_
theorem q5a8_ {P : Prop} {Q1 : Prop} (x1_ : Q1) (h : Q1 → P := by intro x1_; repeat (first | exact (Kd.R_reads' x1_).2.2 | (with_reducible refine Kd.C_alloc ?_ _) | (with_reducible refine Kd.C_drewN ?_ _) | (with_reducible refine Kd.C_drew ?_))) : P := h x1_
theorem qf62_ {P : Prop} (h : P := by first | exact Kd.R_nil _ _ _ _ _ | exact Kd.N_nil _ _ _ _ _ | exact Kd.V_nil _ _ _ _ _ | exact Kd.Q_nil _ _ _ _ _ | exact Kd.S_nil _ _ _ _ _) : P := h
theorem q75a_ {P : Prop} {Q1 : Prop} (x1_ : Q1) (h : Q1 → P := by intro x1_; repeat (first | (with_reducible exact x1_) | (with_reducible refine Kd.C_alloc ?_ _) | (with_reducible refine Kd.C_drewN ?_ _) | (with_reducible refine Kd.C_drew ?_) | exact x1_)) : P := h x1_
theorem qd7e_ {P : Prop} {Q1 : Prop} (x1_ : Q1) (h : Q1 → P := by intro x1_; (with_reducible repeat (first | apply Kd.S_alloc | apply Kd.S_drewN | apply Kd.S_drew)); exact x1_) : P := h x1_
theorem q7d9_ {P : Prop} {Q1 : Prop} (x1_ : Q1) (h : Q1 → P := by intro x1_; (with_reducible repeat (first | apply Kd.R_alloc | apply Kd.R_drewN | apply Kd.R_drew)); exact Kd.R_mono x1_ (fun _ hk => trivial)) : P := h x1_
theorem qe0f_ {P : Prop} {Q1 : Prop} (x1_ : Q1) (h : Q1 → P := by intro x1_; (with_reducible repeat (first | apply Kd.R_alloc | apply Kd.R_drewN | apply Kd.R_drew)); exact Kd.R_mono x1_ (fun _ hk => hk.2)) : P := h x1_
theorem q447_ {P : Prop} (h : P := by first | exact ⟨rfl, _, World.drewN_drewN _ _ _⟩ | exact ⟨rfl, _, Eq.trans (World.drewN_drewN _ _ _) (congrArg (World.drewN _) (Nat.add_assoc _ _ _))⟩) : P := h
theorem qc14_ {P : Prop} (h : P := by first | exact Kd.S_nil _ _ _ _ _ | exact Kd.N_nil _ _ _ _ _ | exact Kd.V_nil _ _ _ _ _ | exact Kd.Q_nil _ _ _ _ _ | exact Kd.R_nil _ _ _ _ _) : P := h
theorem qfba_ {P : Prop} (h : P := by first | (go_simp; done) | (go_simp; rfl)) : P := h
theorem qf72_ {P : Prop} (h : P := by repeat (first | (with_reducible first | exact HK.out | apply Kept.alloc | apply Kept.drewN | apply Kept.drew) | exact HK.out)) : P := h
theorem q0ef_ {P : Prop} {Q1 : Prop} (x1_ : Q1) (h : Q1 → P := by intro x1_; (with_reducible repeat (first | apply Kd.R_alloc | apply Kd.R_drewN | apply Kd.R_drew)); exact Kd.R_mono x1_ (fun _ hk => ⟨trivial, hk⟩)) : P := h x1_
theorem q912_ {P : Prop} {Q1 : Prop} (x1_ : Q1) (h : Q1 → P := by intro x1_; repeat (first | exact x1_ | refine Kd.H_alloc ?_ _ | refine Kd.H_drewN ?_ _ | refine Kd.H_drew ?_)) : P := h x1_
theorem q002_ {P : Prop} (h : P := by first | simpa using c3 | (simp at c3 ⊢; omega)) : P := h
theorem q37b_ {P : Prop} {Q1 : Prop} {Q2 : Prop} (x1_ : Q1) (x2_ : Q2) (h : Q1 → Q2 → P := by intro x1_ x2_; have := x1_; have := x2_; omega) : P := h x1_ x2_
theorem q269_ {P : Prop} {Q1 : Prop} (x1_ : Q1) (h : Q1 → P := by intro x1_; repeat (first | exact (Kd.S_reads' x1_).2.2 | (with_reducible refine Kd.C_alloc ?_ _) | (with_reducible refine Kd.C_drewN ?_ _) | (with_reducible refine Kd.C_drew ?_))) : P := h x1_
theorem q607_ {P : Prop} {Q1 : Prop} (x1_ : Q1) (h : Q1 → P := by intro x1_; (with_reducible repeat (first | apply Kd.S_alloc | apply Kd.S_drewN | apply Kd.S_drew)); exact Kd.S_mono x1_ (fun k_ hk => ⟨hk, fun e_ => e_⟩)) : P := h x1_
theorem qe8c_ {P : Prop} {Q1 : Prop} (x1_ : Q1) (h : Q1 → P := by intro x1_; repeat (first | exact (q75a_ x1_) | (with_reducible refine Kd.C_alloc ?_ _) | (with_reducible refine Kd.C_drewN ?_ _) | (with_reducible refine Kd.C_drew ?_))) : P := h x1_
theorem q4f8_ {P : Prop} {Q1 : Prop} (x1_ : Q1) (h : Q1 → P := by intro x1_; rw [Ny147.out]; exact Kd.C_take (m := (x6_2 : Int).toNat) ((Kd.R_reads' (Kd.R_after (ok := (fun _ => True)) (q9d5_ x1_) hg hat)).2.2) KL19.out) : P := h x1_
theorem q356_ {P : Prop} {Q1 : Prop} (x1_ : Q1) (h : Q1 → P := by intro x1_; rw [Ny164.out]; exact Kd.C_take (m := (x6_2 : Int).toNat) ((Kd.R_reads' (Kd.R_after (ok := (fun _ => True)) (q9d5_ x1_) hg hat)).2.2) KL32.out) : P := h x1_
end Go.Proofs.Ytdhfildgjmkgaaa.PAll
