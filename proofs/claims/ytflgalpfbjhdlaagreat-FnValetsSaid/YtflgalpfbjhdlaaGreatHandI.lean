/- The contract of impl.indices at any predicate that tells a bool in every world; and of LuckyCars' closure. Condition: a list of at most 1000 numbers. -/
import Derived.Test.YtflgalpfbjhdlaaGreatHandB
import Derived.OwnWalk
import Derived.Deep.AppendLies
import Derived.Maps.AppendAt
import Derived.Deep.OwnRows
import Derived.Laws.MakeOwn
import Derived.Laws.OwnMore
import Derived.WalkKit
import Derived.RowKit3
namespace Go.Proofs.YtflgalpfbjhdlaaGreat.Hand
open Go.RowKit Go.Proofs.YtflgalpfbjhdlaaGreatW.PrintWords Go.Proofs.YtflgalpfbjhdlaaGreatW.PrintLast Go.Proofs.YtflgalpfbjhdlaaGreatW.PrintMore
set_option linter.unusedVariables false
set_option linter.unusedSimpArgs false
/-- The numbers of the places below n whose numbers are so. -/
def idxT (p : Int → Bool) (l : List Int) : Nat → List Int
  | 0 => []
  | n + 1 => if p (rd l (n : Int)) = true then idxT p l n ++ [(n : Int)] else idxT p l n
theorem idxT_length (p : Int → Bool) (l : List Int) : ∀ n, (idxT p l n).length ≤ n
  | 0 => Nat.le_refl _
  | n + 1 => by
    have := idxT_length p l n
    rw [idxT]
    split
    · rw [List.length_append, List.length_singleton]; omega
    · omega
/-- What a closure that only tells a bool is asked, in every world. -/
def TellsAny (g : Nat) (lb : Array Value) (p : Int → Bool) : Prop :=
  ∀ (x : Int) (V : World), Calls Tryz.prog g (#[.int .i64 x] ++ lb) V fun e w' => e = .returned (.bool (p x)) ∧ Drawn0 V w'
set_option maxRecDepth 100000 in
set_option maxHeartbeats 4000000 in
theorem indices_any (p : Int → Bool) (g : Nat) (lb : Array Value) (eg : ∀ args w, (callFunc g args).run Tryz.prog w = .ok (.enter g args) w)
    (A0 : Option Addr) (c0 : Nat) (l0 : List Int) (w : World) (hr0 : Kd.C (Kd.int .i64) w A0 l0.length l0) (hl : l0.length ≤ 1000) (hp : TellsAny g lb p) :
    Calls Tryz.prog 53 #[.slice A0 l0.length c0, .func (.func g) #[] lb] w fun e w' => ∃ v : Value, e = .returned v ∧ Kd.R (Kd.int .i64) 3 w' w.heap.size (fun _ => True) v (idxT p l0 l0.length) ∧ Below w.heap.size w w' := by
  have HL : Aside0 (l0.length ≤ 1000) := ⟨hl⟩
  have HR0 := Aside0.mk hr0
  have HP := Aside0.mk hp
  clear hr0 hp hl
  have HB := Aside0.mk (show Below w.heap.size w (w.alloc (.cells #[] 3)) from below_alloc (Below.refl _ _) _)
  have hx0 : (w.alloc (.cells #[] 3)).heap[w.heap.size]? = some (.cells #[] 3 (0, 0)) := blk_new w _
  have HO := Aside0.mk (show Kd.R (Kd.int .i64) 3 (w.alloc (.cells #[] 3)) w.heap.size (fun _ => True) (.slice (some ⟨w.heap.size, 0, none⟩) 0 0) (idxT p l0 0) from Kd.R_of_own ⟨by simp [idxT, encs], .inr ⟨w.heap.size, 0, #[], rfl, by omega, hx0, by simp [idxT], by simp, by simp, by simp [idxT, encs]⟩⟩ (fun _ _ => trivial))
  clear hx0
  go_enter Tryz.func53, Tryz.ntmps53
  go_wp2
  go_loopg [5, 11] l0.length (fun kq v5 v11 w' => ∃ (i : Nat) (iz : Int), v11 = .int .i64 iz ∧ Aside0 (iz = (i : Int)) ∧ Aside0 (i + kq = l0.length) ∧ Aside0 (Kd.R (Kd.int .i64) 3 w' w.heap.size (fun _ => True) v5 (idxT p l0 i)) ∧ Aside0 (Below w.heap.size w w'))
  case atStart => exact ⟨0, 0, rfl, ⟨rfl⟩, ⟨by omega⟩, HO, HB⟩
  case round =>
    clear HO HB
    obtain ⟨i, iz, rfl, NI, NK, HO, HB⟩ := hrel
    cases gk with
    | zero =>
      have hi : i = l0.length := by have := NK.out; omega
      subst hi
      have q1 : decide (iz < (l0.length : Int)) = false := decide_eq_false (by have := NI.out; omega)
      go_wp2
      go_ret
      exact ⟨_, rfl, HO.out, HB.out⟩
    | succ d =>
      have hi0 : 0 ≤ iz := by have := NI.out; omega
      have hin : iz < (l0.length : Int) := by have := NI.out; have := NK.out; omega
      have q1 : decide (iz < (l0.length : Int)) = true := decide_eq_true hin
      obtain ⟨ad0, e0, hx⟩ := Kd.at_int (Kd.C_below HR0.out HB.out) iz hi0 hin
      cases e0
      obtain ⟨x, hxx⟩ : ∃ x, x = rd l0 iz := ⟨_, rfl⟩
      rw [← hxx] at hx
      have NX := Aside0.mk (show x = rd l0 (i : Int) by rw [hxx, NI.out])
      clear hxx
      replace hi0 := eq_true hi0
      replace hin := eq_true hin
      have hcall := HP.out x
      cases hq : p x with
      | false =>
        rw [hq] at hcall
        have HQ := Aside0.mk (show idxT p l0 (i + 1) = idxT p l0 i by rw [idxT, ← NX.out, hq]; rfl)
        clear hq
        go_wp2_with (go_at_fn g; refine (hcall _).mono ?_; rintro e w' ⟨rfl, ⟨nd, rfl⟩⟩)
        go_roundg d
        case measure => omega
        case rel => exact ⟨i + 1, _, rfl, ⟨by rw [NI.out]; have := NK.out; have := HL.out; rw [wrap64_in _ (by omega) (by omega)]; omega⟩, ⟨by have := NK.out; omega⟩, ⟨by rw [HQ.out]; exact Kd.R_drewN HO.out _⟩, ⟨pw_below_drewN HB.out _⟩⟩
      | true =>
        rw [hq] at hcall
        have HQ := Aside0.mk (show idxT p l0 (i + 1) = idxT p l0 i ++ [(i : Int)] by rw [idxT, ← NX.out, if_pos hq])
        have HQL := Aside0.mk (idxT_length p l0 i)
        clear hq
        go_wp2_with (first | (go_at_fn g; refine (hcall _).mono ?_; rintro e w' ⟨rfl, ⟨nd, rfl⟩⟩) | ((with_reducible refine gate_builtin (b := .append) (xs := #[.tmp 19, .tmp 21]) rfl ?_); at_builtin; refine Kd.R_append (Kd.int .i64) (w0 := w) w.heap.size rfl (.tmp 19) (.tmp 21) 24 3 (.int .i64 0) 8 rfl Tryz.underlying24 info_int rfl (by decide) (by omega) u5 (idxT p l0 i) iz [.int .i64 iz] (fun _ => True) (fun _ => False) rfl rfl ?aP (fun _ hk => hk.elim) ?aF ?aO ?aB ?aS ?aL ?_; (case aP => exact rfl); (case aB => exact (by repeat (first | (with_reducible first | exact HB.out | apply below_alloc | apply pw_below_drewN | apply below_drew1) | exact HB.out))); (case aF => exact (fun _ _ => trivial)); (case aO => exact (by (with_reducible repeat (first | apply Kd.R_alloc | apply Kd.R_drewN | apply Kd.R_drew)); exact HO.out)); (case aS => exact (below_size (by repeat (first | (with_reducible first | exact HB.out | apply below_alloc | apply pw_below_drewN | apply below_drew1) | exact HB.out)))); (case aL => have := HL.out; have := HQL.out; have := NK.out; omega); intro v179 w8 ho hb hg hat; have n0_ := Aside0.mk hb; have n1_ := Aside0.mk ho; clear HB HO; have HB := n0_; have HO := n1_; clear n0_ n1_; clear ho hb hg hat))
        go_roundg d
        case measure => omega
        case rel => exact ⟨i + 1, _, rfl, ⟨by rw [NI.out]; have := NK.out; have := HL.out; rw [wrap64_in _ (by omega) (by omega)]; omega⟩, ⟨by have := NK.out; omega⟩, ⟨by rw [HQ.out]; have e := HO.out; rw [NI.out] at e; first | exact e | ((with_reducible repeat (first | apply Kd.R_alloc | apply Kd.R_drewN | apply Kd.R_drew)); exact e)⟩, ⟨by repeat (first | (with_reducible first | exact HB.out | apply below_alloc | apply pw_below_drewN | apply below_drew1) | exact HB.out)⟩⟩
theorem lucky_tells : TellsAny 54 #[] (fun x => decide (x = 0)) := by
  intro x V
  show Calls Tryz.prog 54 #[.int .i64 x] V _
  go_enter Tryz.func54, Tryz.ntmps54
  go_wp2
  go_ret
  exact ⟨by first | rfl | simp, Drawn0.refl _⟩
end Go.Proofs.YtflgalpfbjhdlaaGreat.Hand
