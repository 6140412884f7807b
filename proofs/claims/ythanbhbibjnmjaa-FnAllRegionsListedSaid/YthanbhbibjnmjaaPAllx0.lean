-- written by a program of this session (wip/gen/xpatch.py over the translation); Lean checks it
import Derived.Test.YthanbhbibjnmjaaProg
import Derived.Below
import Derived.Deep.Draws
import Derived.Deep.AppendLies
import Derived.Maps.AppendAt
import Derived.OwnWalk
import Derived.Laws.BytesArg
import Derived.Laws.MakeOwn
import Derived.Laws.OwnMore
import Derived.Deep.OwnRows
import Derived.Tactics
import Derived.Lib.ConvBytes
import Derived.Laws.Slices
import Derived.WalkKit
import Derived.KernelRfl
import Derived.RowKit3
import Derived.Deep.LoopGhost
import Derived.Deep.QuietTactic
import Derived.BigQuiet
import Derived.WideLaws
import Derived.Deep.DeepCutAuto
import Derived.Deep.CutBlock
import Derived.Deep.RegionHeld3
import Derived.Laws.Rows
import Derived.Lib.AppendStr
import Derived.ArgAppend
import Derived.Laws.IdiomCopy
import Derived.OrdersHeld
import Derived.Laws.BitsLemmas
import Derived.RowKit
import Derived.Test.YthanbhbibjnmjaaWWords
import Derived.Test.YthanbhbibjnmjaaWLast
import Derived.Test.YthanbhbibjnmjaaWTab
import Derived.Test.YthanbhbibjnmjaaWFour
import Derived.Test.YthanbhbibjnmjaaWQPut
import Derived.Test.YthanbhbibjnmjaaWApart
import Derived.Test.YthanbhbibjnmjaaWArr
import Derived.Test.YthanbhbibjnmjaaWZeros
import Derived.Test.YthanbhbibjnmjaaWFoot
import Derived.Test.YthanbhbibjnmjaaWKept
import Derived.Test.YthanbhbibjnmjaaWShare
import Derived.Test.YthanbhbibjnmjaaWN
import Derived.Test.YthanbhbibjnmjaaWFootNe
import Derived.Test.YthanbhbibjnmjaaWAt
import Derived.Test.YthanbhbibjnmjaaWEqStruct
import Derived.Test.YthanbhbibjnmjaaWRepsOne
import Derived.Test.YthanbhbibjnmjaaWInv
import Derived.Test.YthanbhbibjnmjaaWInvWords
import Derived.Test.YthanbhbibjnmjaaWGuard
import Derived.Test.YthanbhbibjnmjaaWNEv
import Derived.Test.YthanbhbibjnmjaaWMore
import Derived.Test.YthanbhbibjnmjaaHandE
import Derived.Test.YthanbhbibjnmjaaHandL
import Derived.Test.YthanbhbibjnmjaaHandM
namespace Go.Proofs.Ythanbhbibjnmjaa.PAll
open Go.RowKit Go.Proofs.Ythanbhbibjnmjaa.Hand Go.Proofs.YthanbhbibjnmjaaW.PrintWords Go.Proofs.YthanbhbibjnmjaaW.PrintLast Go.Proofs.YthanbhbibjnmjaaW.PrintMore
attribute [local go_sem] max2_int min2_int max_two min_two max_three min_three max_four min_four   -- for this text's walks alone
set_option linter.unusedVariables false
set_option linter.unusedSimpArgs false



def errW : Option Int → Value
  | none => .nilIface
  | some c => .iface 0 (.int .i64 c)
theorem errW_none : errW none = .nilIface := rfl
theorem errW_some (c : Int) : errW (some c) = .iface 0 (.int .i64 c) := rfl

theorem info3 : (Try.prog.info? 3).map (fun i => (i.zero, i.size, i.bytes)) = some (some (.int .i64 0), 1, 8) := by kernel_rfl
theorem info31 : (Try.prog.info? 31).map (fun i => (i.zero, i.size, i.bytes)) = some (some (.slice none 0 0), 1, 24) := by kernel_rfl
theorem info33 : (Try.prog.info? 33).map (fun i => (i.zero, i.size, i.bytes)) = some (some (.agg #[(.slice none 0 0), (.slice none 0 0)]), 2, 48) := by kernel_rfl
-- the values' own types
def rd_L2 (xs : List (List Int)) (i : Int) : (List Int) := xs.getD i.toNat ([] : List Int)
theorem at_L2 {w : World} {A : Option Addr} {n : Nat} {xs : List (List Int)} (h : Kd.C (Kd.slice 3 (Kd.int .i64)) w A n xs) (i : Int) (h0 : 0 ≤ i) (h1 : i < n) : ∃ ad A0 c0, A = some ad ∧ w.cell? (ad.add i.toNat) = some (.slice A0 (rd_L2 xs i).length c0) ∧ (rd_L2 xs i).length ≤ c0 ∧ (Kd.int .i64).C w A0 (rd_L2 xs i).length (rd_L2 xs i) := by
  obtain ⟨ad, c, e, _, hK, hc0⟩ := Kd.C_get h ([] : List Int) i h0 h1
  have hc : ∀ j u, c[j]? = some u → w.cell? (ad.add (i.toNat * 1 + j)) = some u := hc0
  obtain ⟨A0, c0, rfl, l0, g0⟩ := hK
  exact ⟨ad, A0, c0, e, by have hq := hc 0 _ rfl; rwa [Nat.mul_one, Nat.add_zero] at hq, l0, g0⟩

/-! #### struct type 33 -/
structure S33 where
  f0 : (List Int)
  f1 : (List Int)
def z33 : S33 := ⟨([] : List Int), ([] : List Int)⟩
def k33 : Kd S33 := Kd.iso (Kd.pair (Kd.slice 3 (Kd.int .i64)) (Kd.slice 3 (Kd.int .i64))) (fun x : S33 => (x.f0, x.f1))
theorem k33_open {w : World} {x : S33} {cs : List Value} (h : k33.K w x cs) : ∃ A0 c0 A1 c1, cs = [.slice A0 x.f0.length c0, .slice A1 x.f1.length c1] ∧ x.f0.length ≤ c0 ∧ (Kd.int .i64).C w A0 x.f0.length x.f0 ∧ x.f1.length ≤ c1 ∧ (Kd.int .i64).C w A1 x.f1.length x.f1 := by
  obtain ⟨_, _, rfl, ⟨A0, c0, rfl, l0, g0⟩, ⟨A1, c1, rfl, l1, g1⟩⟩ := h
  exact ⟨A0, c0, A1, c1, rfl, l0, g0, l1, g1⟩
theorem k33_openM {w : World} {base : Nat} {ok : Nat → Prop} {x : S33} {cs : List Value} (h : k33.M w base ok x cs) : ∃ v0 v1, cs = [v0, v1] ∧ (Kd.int .i64).R 3 w base ok v0 x.f0 ∧ (Kd.int .i64).R 3 w base ok v1 x.f1 := by
  obtain ⟨_, _, rfl, ⟨v0, rfl, g0⟩, ⟨v1, rfl, g1⟩⟩ := h
  exact ⟨v0, v1, rfl, g0, g1⟩
theorem k33_mk (w : World) (x : S33) {A0 : Option Addr} {c0 : Nat} (l0 : x.f0.length ≤ c0) (g0 : (Kd.int .i64).C w A0 x.f0.length x.f0) {A1 : Option Addr} {c1 : Nat} (l1 : x.f1.length ≤ c1) (g1 : (Kd.int .i64).C w A1 x.f1.length x.f1) : k33.K w x [.slice A0 x.f0.length c0, .slice A1 x.f1.length c1] := ⟨[.slice A0 x.f0.length c0], [.slice A1 x.f1.length c1], rfl, ⟨A0, c0, rfl, l0, g0⟩, ⟨A1, c1, rfl, l1, g1⟩⟩
theorem k33_mkM (w : World) (base : Nat) (ok : Nat → Prop) (x : S33) {v0 : Value} (g0 : (Kd.int .i64).R 3 w base ok v0 x.f0) {v1 : Value} (g1 : (Kd.int .i64).R 3 w base ok v1 x.f1) : k33.M w base ok x [v0, v1] := ⟨[v0], [v1], rfl, ⟨v0, rfl, g0⟩, ⟨v1, rfl, g1⟩⟩
theorem k33_openF {W : World} {ok : Nat → Prop} {x : S33} {cs : List Value} (h : Kd.FK k33 W ok x cs) : ∃ A0 c0 A1 c1, cs = [.slice A0 x.f0.length c0, .slice A1 x.f1.length c1] ∧ x.f0.length ≤ c0 ∧ Kd.F (Kd.int .i64) W ok A0 x.f0.length x.f0 ∧ x.f1.length ≤ c1 ∧ Kd.F (Kd.int .i64) W ok A1 x.f1.length x.f1 := by
  obtain ⟨A0, c0, A1, c1, rfl, l0, _, l1, _⟩ := k33_open (Kd.FK_now h)
  exact ⟨A0, c0, A1, c1, rfl, l0, (fun W' hW => by obtain ⟨A0_, c0_, A1_, c1_, he, l0_, g0_, l1_, g1_⟩ := k33_open (h W' hW); injection (Option.some.inj (show some (Value.slice A0 x.f0.length c0) = some (Value.slice A0_ x.f0.length c0_) from congrArg (fun l => l[0]?) he)) with ha_ _ _; rw [ha_]; exact g0_), l1, (fun W' hW => by obtain ⟨A0_, c0_, A1_, c1_, he, l0_, g0_, l1_, g1_⟩ := k33_open (h W' hW); injection (Option.some.inj (show some (Value.slice A1 x.f1.length c1) = some (Value.slice A1_ x.f1.length c1_) from congrArg (fun l => l[1]?) he)) with ha_ _ _; rw [ha_]; exact g1_)⟩
theorem k33_mkF (W : World) (ok : Nat → Prop) (x : S33) {A0 : Option Addr} {c0 : Nat} (l0 : x.f0.length ≤ c0) (g0 : Kd.F (Kd.int .i64) W ok A0 x.f0.length x.f0) {A1 : Option Addr} {c1 : Nat} (l1 : x.f1.length ≤ c1) (g1 : Kd.F (Kd.int .i64) W ok A1 x.f1.length x.f1) : Kd.FK k33 W ok x [.slice A0 x.f0.length c0, .slice A1 x.f1.length c1] := fun W2 hW => k33_mk W2 x l0 (g0 W2 hW) l1 (g1 W2 hW)
def rd_T33 (xs : List S33) (i : Int) : S33 := xs.getD i.toNat z33
theorem at_T33 {w : World} {A : Option Addr} {n : Nat} {xs : List S33} (h : Kd.C k33 w A n xs) (i : Int) (h0 : 0 ≤ i) (h1 : i < n) : ∃ ad A0 c0 A1 c1, A = some ad ∧ w.cell? (ad.add (i.toNat * 2)) = some (.slice A0 (rd_T33 xs i).f0.length c0) ∧ w.cell? ⟨(ad.add (i.toNat * 2)).block, (ad.add (i.toNat * 2)).off + 1, none⟩ = some (.slice A1 (rd_T33 xs i).f1.length c1) ∧ (rd_T33 xs i).f0.length ≤ c0 ∧ (Kd.int .i64).C w A0 (rd_T33 xs i).f0.length (rd_T33 xs i).f0 ∧ (rd_T33 xs i).f1.length ≤ c1 ∧ (Kd.int .i64).C w A1 (rd_T33 xs i).f1.length (rd_T33 xs i).f1 := by
  obtain ⟨ad, c, e, _, hK, hc0⟩ := Kd.C_get h z33 i h0 h1
  have hc : ∀ j u, c[j]? = some u → w.cell? (ad.add (i.toNat * 2 + j)) = some u := hc0
  obtain ⟨A0, c0, A1, c1, rfl, l0, g0, l1, g1⟩ := k33_open hK
  exact ⟨ad, A0, c0, A1, c1, e, hc 0 _ rfl, by rw [← add_field _ _ 1 (by omega)]; exact hc 1 _ rfl, l0, g0, l1, g1⟩

/-! blocks that recur -/
theorem ob_ {α β : Type} {o : Option α} {f : α → Option β} {r : β} (h : o.bind f = some r) : ∃ t, Aside0 (o = some t) ∧ f t = some r := (Option.bind_eq_some_iff.mp h).imp fun _ h => ⟨⟨h.1⟩, h.2⟩
theorem nf_ : ¬ (false = true) := by decide
theorem gl_ {P : Program} {ops : Array Oper} {Q : Exit → Act → World → Prop} {rest : List Oper} {oi : Oper} {a : Act} {w : World} (n : Tmp) {f : FuncId} {fn : Func} {az : Array Operand} {tz : Array TypeId} (hf : P.funcs[f]? = some fn) (args : Array Value) (h : Calls P f args w fun e w' => ∃ v, e = .returned v ∧ wpList P ops Q rest (a.put (some n) v) w') (hd : oi.dst = some n := by exact rfl) (hg : oi.guard = none := by exact rfl) (hname : (fn.name == "runtime.NumGoroutine") = false := by kernel_rfl) (hb : fn.body.isSome = true := by exact rfl) (hop : oi.op = .call { callee := .value (.func f), args := az, argTypes := tz } := by exact rfl) (hargs : az.map a.eval = args := by (try simp only [List.map_toArray, List.map_cons, List.map_nil]); first | done | rfl | (simp only [List.length_drop, List.length_take]; rfl)) : wpList P ops Q (oi :: rest) a w := goesL_ (some n) hd hg hf hname hb args hop hargs h
theorem q0c4_ {P : Prop} (h : P := by repeat (first | (with_reducible first | exact HB.out | apply below_alloc | apply pw_below_drewN | apply below_drew1) | exact HB.out)) : P := h
theorem qe84_ {P : Prop} (h : P := by first | (with_reducible assumption) | assumption) : P := h
theorem q9d5_ {P : Prop} {Q1 : Prop} (x1_ : Q1) (h : Q1 → P := by intro x1_; (with_reducible repeat (first | apply Kd.R_alloc | apply Kd.R_drewN | apply Kd.R_drew)); exact x1_) : P := h x1_
theorem qc8f_ {P : Prop} (h : P := by first | rfl | (simp; done) | (simp [*]; done)) : P := h
theorem qce7_ {P : Prop} (h : P := by first | rfl | (simp [errW_none, errW_some] <;> rfl) | (simp [*, errW_none, errW_some] <;> rfl)) : P := h
theorem q75a_ {P : Prop} {Q1 : Prop} (x1_ : Q1) (h : Q1 → P := by intro x1_; repeat (first | (with_reducible exact x1_) | (with_reducible refine Kd.C_alloc ?_ _) | (with_reducible refine Kd.C_drewN ?_ _) | (with_reducible refine Kd.C_drew ?_) | exact x1_)) : P := h x1_
theorem q28a_ {P : Prop} {Q1 : Prop} (x1_ : Q1) (h : Q1 → P := by intro x1_; repeat (first | (with_reducible first | exact HB.out | apply below_alloc | apply pw_below_drewN | apply below_drew1 | refine below_set ?_ (IsS43.ge x1_)) | exact HB.out)) : P := h x1_
theorem q2c9_ {P : Prop} {Q1 : Prop} (x1_ : Q1) (h : Q1 → P := by intro x1_; repeat (first | (with_reducible first | exact x1_ | apply IsS43.alloc | apply IsS43.drewN | apply IsS43.drew | apply IsS43.set_1 | apply IsS43.set_2) | exact x1_)) : P := h x1_
theorem qe02_ {P : Prop} {Q1 : Prop} (x1_ : Q1) (h : Q1 → P := by intro x1_; repeat (first | exact (Kd.C_below x1_ HB.out) | (with_reducible refine Kd.C_alloc ?_ _) | (with_reducible refine Kd.C_drewN ?_ _) | (with_reducible refine Kd.C_drew ?_))) : P := h x1_
theorem qfba_ {P : Prop} {Q1 : Prop} (x1_ : Q1) (h : Q1 → P := by intro x1_; (with_reducible repeat (first | apply Kd.N_alloc | apply Kd.N_drewN | apply Kd.N_drew)); exact x1_) : P := h x1_
theorem qc52_ {P : Prop} (h : P := by repeat (first | exact HG.out | (with_reducible refine Rg0.drewN ?_ _) | (with_reducible refine Rg0.drew ?_))) : P := h
theorem q1d6_ {P : Prop} (h : P := by repeat (first | (with_reducible first | exact HK.out | apply KeepBut.set_ | apply keep_drewN | apply keep_drew | apply keep_alloc) | exact HK.out)) : P := h
theorem q35c_ {P : Prop} {Q1 : Prop} (x1_ : Q1) (h : Q1 → P := by intro x1_; (with_reducible repeat (first | apply Kd.V_alloc | apply Kd.V_drewN | apply Kd.V_drew)); exact (Kd.V_mono (Kd.V_far (p := ⟨gb407, 1, none⟩) (Kd.V_far (p := ⟨gb407, 0, none⟩) (Kd.V_mono x1_ (fun k_ hk => (⟨hk, hk.2⟩ : _ ∧ k_ ≠ gb407))) (fun _ hk => hk.2) (.slice A406_0 ((rd_T33 t382 x67_1).f0).length c406_0)) (fun _ hk => hk.2) (.slice A406_1 ((rd_T33 t382 x67_1).f1).length c406_1)) (fun _ h_ => h_.1))) : P := h x1_
theorem q5e2_ {P : Prop} {Q1 : Prop} (x1_ : Q1) (h : Q1 → P := by intro x1_; repeat (first | exact Kd.C_below x1_ HG.out.below | (with_reducible refine Kd.C_alloc ?_ _) | (with_reducible refine Kd.C_drewN ?_ _) | (with_reducible refine Kd.C_drew ?_))) : P := h x1_
theorem q201_ {P : Prop} {Q1 : Prop} (x1_ : Q1) (h : Q1 → P := by intro x1_; repeat (first | exact x1_ | (with_reducible refine Kd.C_alloc ?_ _) | (with_reducible refine Kd.C_drewN ?_ _) | (with_reducible refine Kd.C_drew ?_))) : P := h x1_
theorem qffa_ {P : Prop} (h : P := by repeat (first | exact Drawn0.refl _ | apply Drawn0.step)) : P := h
theorem q5a8_ {P : Prop} {Q1 : Prop} (x1_ : Q1) (h : Q1 → P := by intro x1_; repeat (first | exact (Kd.R_reads' x1_).2.2 | (with_reducible refine Kd.C_alloc ?_ _) | (with_reducible refine Kd.C_drewN ?_ _) | (with_reducible refine Kd.C_drew ?_))) : P := h x1_
theorem qbb9_ {P : Prop} (h : P := by repeat (first | (with_reducible first | exact HB.out | apply below_alloc | apply pw_below_drewN | apply below_drew1 | refine below_set ?_ GE343.out) | exact HB.out)) : P := h
theorem qebe_ {P : Prop} (h : P := by repeat (first | (with_reducible first | exact HB.out | apply below_alloc | apply pw_below_drewN | apply below_drew1 | refine below_set ?_ GE137.out) | exact HB.out)) : P := h
theorem qba7_ {P : Prop} (h : P := by first | (go_simp; done) | (go_simp; rfl)) : P := h
theorem q7f8_ {P : Prop} {Q1 : Prop} (x1_ : Q1) (h : Q1 → P := by intro x1_; (with_reducible repeat (first | apply Kd.N_alloc | apply Kd.N_drewN | apply Kd.N_drew)); exact (Kd.N_mono (Kd.N_far (p := ⟨gb407, 1, none⟩) (Kd.N_far (p := ⟨gb407, 0, none⟩) (Kd.N_mono x1_ (fun k_ hk => (⟨hk, hk.2⟩ : _ ∧ k_ ≠ gb407))) (fun _ hk => hk.2) (.slice A406_0 ((rd_T33 t382 x67_1).f0).length c406_0)) (fun _ hk => hk.2) (.slice A406_1 ((rd_T33 t382 x67_1).f1).length c406_1)) (fun _ h_ => h_.1))) : P := h x1_
theorem q16c_ {P : Prop} {Q1 : Prop} (x1_ : Q1) (h : Q1 → P := by intro x1_; (with_reducible repeat (first | apply Kd.V_alloc | apply Kd.V_drewN | apply Kd.V_drew)); exact x1_) : P := h x1_
theorem qc29_ {P : Prop} (h : P := by (with_reducible repeat (first | refine blk_drewN ?_ _ | refine blk_drew ?_ | refine blk_alloc ?_ _)); refine blk_put (cs := #[.slice A8 s1.length c8, .slice none 0 0]) ?_ 1 _ rfl; (with_reducible repeat (first | refine blk_drewN ?_ _ | refine blk_drew ?_ | refine blk_alloc ?_ _)); refine blk_put (cs := #[.slice none 0 0, .slice none 0 0]) ?_ 0 _ rfl; (with_reducible repeat (first | refine blk_drewN ?_ _ | refine blk_drew ?_ | refine blk_alloc ?_ _)); refine blk_far ?_ HN8.out.2.1 _; (with_reducible repeat (first | refine blk_drewN ?_ _ | refine blk_drew ?_ | refine blk_alloc ?_ _)); refine blk_far ?_ HN8.out.2.1 _; (with_reducible repeat (first | refine blk_drewN ?_ _ | refine blk_drew ?_ | refine blk_alloc ?_ _)); exact HG.out.h6) : P := h
theorem q9d6_ {P : Prop} (h : P := by (with_reducible repeat (first | refine blk_drewN ?_ _ | refine blk_drew ?_ | refine blk_alloc ?_ _)); exact BK137.out) : P := h
theorem q805_ {P : Prop} (h : P := by repeat (first | (with_reducible first | exact HB.out | apply below_alloc | apply pw_below_drewN | apply below_drew1 | refine below_set ?_ GE348.out) | exact HB.out)) : P := h
theorem qd7e_ {P : Prop} {Q1 : Prop} (x1_ : Q1) (h : Q1 → P := by intro x1_; (with_reducible repeat (first | apply Kd.S_alloc | apply Kd.S_drewN | apply Kd.S_drew)); exact x1_) : P := h x1_
theorem qc14_ {P : Prop} (h : P := by first | exact Kd.S_nil _ _ _ _ _ | exact Kd.N_nil _ _ _ _ _ | exact Kd.V_nil _ _ _ _ _ | exact Kd.Q_nil _ _ _ _ _ | exact Kd.R_nil _ _ _ _ _) : P := h
theorem q10a_ {P : Prop} (h : P := by repeat (first | (with_reducible first | exact HB.out | apply below_alloc | apply pw_below_drewN | apply below_drew1 | refine below_set ?_ GE360.out) | exact HB.out)) : P := h
theorem q87a_ {P : Prop} (h : P := by (with_reducible repeat (first | refine blk_drewN ?_ _ | refine blk_drew ?_ | refine blk_alloc ?_ _)); refine blk_put (cs := #[.slice B0 l1_0.length d0, .slice none 0 0]) ?_ 1 _ rfl; (with_reducible repeat (first | refine blk_drewN ?_ _ | refine blk_drew ?_ | refine blk_alloc ?_ _)); refine blk_put (cs := #[.slice none 0 0, .slice none 0 0]) ?_ 0 _ rfl; (with_reducible repeat (first | refine blk_drewN ?_ _ | refine blk_drew ?_ | refine blk_alloc ?_ _)); exact HG.out.h6) : P := h
theorem q578_ {P : Prop} {Q1 : Prop} (x1_ : Q1) (h : Q1 → P := by intro x1_; repeat (first | exact (Kd.R_reads' x1_).2.2 | (with_reducible refine Kd.C_drewN ?_ _) | (with_reducible refine Kd.C_drew ?_))) : P := h x1_
theorem q684_ {P : Prop} (h : P := by (with_reducible repeat (first | refine blk_drewN ?_ _ | refine blk_drew ?_ | refine blk_alloc ?_ _)); refine blk_put (cs := #[.slice none 0 0, .slice none 0 0]) ?_ 1 _ rfl; (with_reducible repeat (first | refine blk_drewN ?_ _ | refine blk_drew ?_ | refine blk_alloc ?_ _)); refine blk_put (cs := #[.slice none 0 0, .slice none 0 0]) ?_ 0 _ rfl; (with_reducible repeat (first | refine blk_drewN ?_ _ | refine blk_drew ?_ | refine blk_alloc ?_ _)); exact HG.out.h6) : P := h
theorem qf98_ {P : Prop} {Q1 : Prop} (x1_ : Q1) (h : Q1 → P := by intro x1_; (with_reducible repeat (first | apply Kd.N_alloc | apply Kd.N_drewN | apply Kd.N_drew)); exact Kd.N_mono (Kd.N_far (p := ⟨gb329, 1, none⟩) (Kd.N_far (p := ⟨gb329, 0, none⟩) (Kd.N_mono x1_ (fun k_ hk => (⟨hk, hk.2⟩ : _ ∧ k_ ≠ gb329))) (fun _ hk => hk.2) (.slice Ao14 t322.length co14)) (fun _ hk => hk.2) (.slice Ao16 t325.length co16)) (fun _ hk => ⟨hk.1.1.1, ⟨hk.1.1.2.1, ⟨hk.1.1.2.2.1, ⟨hk.1.1.2.2.2, hk.1.2⟩⟩⟩⟩)) : P := h x1_
theorem qef5_ {P : Prop} (h : P := by (try simp only [List.map_toArray, List.map_cons, List.map_nil]); first | done | rfl | (simp only [List.length_drop, List.length_take]; rfl)) : P := h
theorem q67c_ {P : Prop} (h : P := by (with_reducible repeat (first | refine blk_drewN ?_ _ | refine blk_drew ?_ | refine blk_alloc ?_ _)); exact BK343.out) : P := h
theorem q8c8_ {P : Prop} (h : P := by repeat (first | (with_reducible first | exact HB.out | apply below_alloc | apply pw_below_drewN | apply below_drew1 | refine below_set ?_ GE329.out) | exact HB.out)) : P := h
theorem q875_ {P : Prop} (h : P := by repeat (first | (with_reducible first | exact HB.out | apply below_alloc | apply pw_below_drewN | apply below_drew1 | refine below_set ?_ GE360.out | refine below_set ?_ GE361.out) | exact HB.out)) : P := h
theorem q002_ {P : Prop} (h : P := by (with_reducible repeat (first | refine blk_drewN ?_ _ | refine blk_drew ?_ | refine blk_alloc ?_ _)); exact BK360.out) : P := h
theorem q293_ {P : Prop} (h : P := by repeat (first | (with_reducible first | exact HB.out | apply below_alloc | apply pw_below_drewN | apply below_drew1 | refine below_set ?_ GE224.out) | exact HB.out)) : P := h
theorem qf5b_ {P : Prop} (h : P := by repeat (first | (with_reducible first | exact HB.out | apply below_alloc | apply pw_below_drewN | apply below_drew1 | refine below_set ?_ GE407.out) | exact HB.out)) : P := h
theorem qe34_ {P : Prop} (h : P := by (with_reducible repeat (first | refine blk_drewN ?_ _ | refine blk_drew ?_ | refine blk_alloc ?_ _)); exact BK348.out) : P := h
theorem q506_ {P : Prop} (h : P := by first | (simp only [List.map_toArray, List.map_cons, List.map_nil, Act.eval, Array.getD_eq_getD_getElem?, Option.getD_some, e70]; done) | (simp only [List.map_toArray, List.map_cons, List.map_nil, Act.eval, Array.getD_eq_getD_getElem?, Option.getD_some, e70]; rfl)) : P := h
theorem qf1e_ {P : Prop} {Q1 : Prop} (x1_ : Q1) (h : Q1 → P := by intro x1_; repeat (first | exact x1_ | apply Kd.R_drewN | apply Kd.R_drew)) : P := h x1_
theorem q2d1_ {P : Prop} (h : P := by repeat (first | (with_reducible first | exact HG.out.below | apply below_alloc | apply pw_below_drewN | apply below_drew1 | refine below_set ?_ HG.out.ge6 | refine below_set ?_ HN8.out.2.2) | exact HG.out.below)) : P := h
theorem qae6_ {P : Prop} (h : P := by repeat (first | (with_reducible first | exact HG.out.below | apply below_alloc | apply pw_below_drewN | apply below_drew1 | refine below_set ?_ HG.out.ge6 | refine below_set ?_ HG.out.ge5) | exact HG.out.below)) : P := h
theorem q7d9_ {P : Prop} {Q1 : Prop} (x1_ : Q1) (h : Q1 → P := by intro x1_; (with_reducible repeat (first | apply Kd.R_alloc | apply Kd.R_drewN | apply Kd.R_drew)); exact Kd.R_mono x1_ (fun _ hk => trivial)) : P := h x1_
theorem q0e9_ {P : Prop} {Q1 : Prop} {Q2 : Prop} {Q3 : Prop} (x1_ : Q1) (x2_ : Q2) (x3_ : Q3) (h : Q1 → Q2 → Q3 → P := by intro x1_ x2_ x3_; have := x1_; have := x2_; have := x3_; omega) : P := h x1_ x2_ x3_
theorem qe0f_ {P : Prop} {Q1 : Prop} (x1_ : Q1) (h : Q1 → P := by intro x1_; (with_reducible repeat (first | apply Kd.R_alloc | apply Kd.R_drewN | apply Kd.R_drew)); exact Kd.R_mono x1_ (fun _ hk => hk.2)) : P := h x1_
theorem q697_ {P : Prop} (h : P := by repeat (first | (with_reducible first | exact HG.out.below | apply below_alloc | apply pw_below_drewN | apply below_drew1 | refine below_set ?_ HG.out.ge6) | exact HG.out.below)) : P := h
theorem q0c7_ {P : Prop} (h : P := by repeat (first | exact HG.out | (with_reducible refine Rg0.drewN ?_ _) | (with_reducible refine Rg0.drew ?_) | refine Rg0.set ?_ HN8.out.2.2 HN8.out.1 HN8.out.2.1 _ _)) : P := h
theorem qbd5_ {P : Prop} (h : P := by repeat (first | (with_reducible first | exact HB.out | apply below_alloc | apply pw_below_drewN | apply below_drew1 | refine below_set ?_ GE169.out) | exact HB.out)) : P := h
theorem q32c_ {P : Prop} (h : P := by rw [ha]; exact (putSel_off rfl).trans rfl) : P := h
theorem q8a8_ {P : Prop} (h : P := by simp [Value.ownBlock] at e_) : P := h
theorem q01a_ {P : Prop} {Q1 : Prop} (x1_ : Q1) (h : Q1 → P := by intro x1_; (with_reducible repeat (first | apply Kd.N_alloc | apply Kd.N_drewN | apply Kd.N_drew)); exact Kd.N_mono x1_ (fun _ hk => ⟨hk.1.1.1, ⟨hk.1.1.2.1, hk.1.1.2.2⟩⟩)) : P := h x1_
theorem q0d4_ {P : Prop} {Q1 : Prop} {Q2 : Prop} {Q3 : Prop} (x1_ : Q1) (x2_ : Q2) (x3_ : Q3) (h : Q1 → Q2 → Q3 → P := by intro x1_ x2_ x3_; have := x1_; have := x2_; have := x3_; first | omega | exact Nat.le_refl _) : P := h x1_ x2_ x3_
theorem q813_ {P : Prop} (h : P := by repeat (first | exact HG.out.below | apply pw_below_drewN | apply below_drew1)) : P := h
theorem qf62_ {P : Prop} (h : P := by first | exact Kd.R_nil _ _ _ _ _ | exact Kd.N_nil _ _ _ _ _ | exact Kd.V_nil _ _ _ _ _ | exact Kd.Q_nil _ _ _ _ _ | exact Kd.S_nil _ _ _ _ _) : P := h
theorem qd88_ {P : Prop} {Q1 : Prop} (x1_ : Q1) (h : Q1 → P := by intro x1_; (with_reducible repeat (first | apply Kd.N_alloc | apply Kd.N_drewN | apply Kd.N_drew)); exact Kd.N_mono x1_ (fun _ hk => ⟨hk.1, ⟨hk.2, hk.1⟩⟩)) : P := h x1_
theorem q2ae_ {P : Prop} {Q1 : Prop} (x1_ : Q1) (h : Q1 → P := by intro x1_; (with_reducible repeat (first | apply Kd.N_alloc | apply Kd.N_drewN | apply Kd.N_drew)); exact Kd.N_mono x1_ (fun _ hk => ⟨hk.1.1.1, hk.1.1.2⟩)) : P := h x1_
theorem q3e9_ {P : Prop} {Q1 : Prop} {Q2 : Prop} {Q3 : Prop} {Q4 : Prop} (x1_ : Q1) (x2_ : Q2) (x3_ : Q3) (x4_ : Q4) (h : Q1 → Q2 → Q3 → Q4 → P := by intro x1_ x2_ x3_ x4_; have := x1_; have := x2_; have := x3_; have := x4_; omega) : P := h x1_ x2_ x3_ x4_
theorem q02f_ {P : Prop} (h : P := by first | simpa using c3 | (simp at c3 ⊢; omega)) : P := h
theorem q37b_ {P : Prop} {Q1 : Prop} {Q2 : Prop} (x1_ : Q1) (x2_ : Q2) (h : Q1 → Q2 → P := by intro x1_ x2_; have := x1_; have := x2_; omega) : P := h x1_ x2_
theorem qcfd_ {P : Prop} {Q1 : Prop} (x1_ : Q1) (h : Q1 → P := by intro x1_; (with_reducible repeat (first | apply Kd.N_alloc | apply Kd.N_drewN | apply Kd.N_drew)); exact Kd.N_mono x1_ (fun _ hk => ⟨hk.1.2, hk.2⟩)) : P := h x1_
theorem q600_ {P : Prop} {Q1 : Prop} (x1_ : Q1) (h : Q1 → P := by intro x1_; (with_reducible repeat (first | apply Kd.R_alloc | apply Kd.R_drewN | apply Kd.R_drew)); exact Kd.R_mono x1_ (fun _ hk => ⟨hk.1.2, hk.2⟩)) : P := h x1_
theorem q810_ {P : Prop} {Q1 : Prop} (x1_ : Q1) (h : Q1 → P := by intro x1_; (with_reducible repeat (first | apply Kd.R_alloc | apply Kd.R_drewN | apply Kd.R_drew)); exact Kd.R_mono x1_ (fun _ hk => ⟨hk.2, hk.1⟩)) : P := h x1_
theorem qe8c_ {P : Prop} {Q1 : Prop} (x1_ : Q1) (h : Q1 → P := by intro x1_; repeat (first | exact (q75a_ x1_) | (with_reducible refine Kd.C_alloc ?_ _) | (with_reducible refine Kd.C_drewN ?_ _) | (with_reducible refine Kd.C_drew ?_))) : P := h x1_
theorem q018_ {P : Prop} {Q1 : Prop} (x1_ : Q1) (h : Q1 → P := by intro x1_; repeat (first | exact ((Kd.V_reads' (q35c_ x1_)).2.2) | (with_reducible refine Kd.C_alloc ?_ _) | (with_reducible refine Kd.C_drewN ?_ _) | (with_reducible refine Kd.C_drew ?_))) : P := h x1_
theorem qe8f_ {P : Prop} {Q1 : Prop} (x1_ : Q1) (h : Q1 → P := by intro x1_; repeat (first | exact (Kd.C_below x1_ q875_) | (with_reducible refine Kd.C_alloc ?_ _) | (with_reducible refine Kd.C_drewN ?_ _) | (with_reducible refine Kd.C_drew ?_))) : P := h x1_
end Go.Proofs.Ythanbhbibjnmjaa.PAll
