/- Contracts, proved by hand, in the form of the printed ones: countIf at the program's closures, areBetween, slices.Clone of ints. Conditions: what each theorem states. -/
import Derived.Test.YtdhfildgjmkgaaaHandA
namespace Go.Proofs.Ytdhfildgjmkgaaa.Hand
open Go.RowKit Go.Proofs.YtdhfildgjmkgaaaW.PrintWords Go.Proofs.YtdhfildgjmkgaaaW.PrintLast Go.Proofs.YtdhfildgjmkgaaaW.PrintMore
set_option linter.unusedVariables false
set_option linter.unusedSimpArgs false

theorem info_int : (Try.prog.info? 3).map (fun i => (i.zero, i.size, i.bytes)) = some (some (.int .i64 0), 1, 8) := by kernel_rfl


theorem between_any (n lo hi : Int) (w : World) :
    Calls Try.prog 57 #[.int .i64 n, .int .i64 lo, .int .i64 hi] w fun e w' => e = .returned (.bool (decide (lo ≤ n ∧ n ≤ hi))) ∧ Drawn0 w w' := by
  by_cases c : lo ≤ n
  · have c4b0 : decide (lo ≤ n) = true := decide_eq_true c
    have E : Aside0 (decide (lo ≤ n ∧ n ≤ hi) = decide (n ≤ hi)) := ⟨by simp [c]⟩
    clear c
    rw [E.out]
    go_enter Try.func57, Try.ntmps57
    go_wp2
    go_ret
    exact ⟨rfl, by repeat (first | exact Drawn0.refl _ | apply Drawn0.step)⟩
  · have c4b0 : decide (lo ≤ n) = false := decide_eq_false c
    have E : Aside0 (decide (lo ≤ n ∧ n ≤ hi) = false) := ⟨by simp [c]⟩
    clear c
    rw [E.out]
    go_enter Try.func57, Try.ntmps57
    go_wp2
    go_ret
    exact ⟨rfl, by repeat (first | exact Drawn0.refl _ | apply Drawn0.step)⟩
theorem tells_areBetween (g1 : Nat) (a1 : Int) (g2 : Nat) (a2 : Int) (w : World) (hb1 : w.heap[g1]? = some (.cells #[.int .i64 a1] 3 (0, 0))) (hb2 : w.heap[g2]? = some (.cells #[.int .i64 a2] 3 (0, 0))) :
    Tells 56 #[.pointer (some ⟨g1, 0, none⟩), .pointer (some ⟨g2, 0, none⟩)] (fun x => !decide (a1 ≤ x ∧ x ≤ a2)) w := fun x m => by
  have hc1 : (w.drewN m).cell? ⟨g1, 0, none⟩ = some (.int .i64 a1) := (blk_cell (blk_drewN hb1 m) 0).trans rfl
  have hc2 : (w.drewN m).cell? ⟨g2, 0, none⟩ = some (.int .i64 a2) := (blk_cell (blk_drewN hb2 m) 0).trans rfl
  show Calls Try.prog 56 #[.int .i64 x, .pointer (some ⟨g1, 0, none⟩), .pointer (some ⟨g2, 0, none⟩)] _ fun e w' => e = .returned (.bool (!decide (a1 ≤ x ∧ x ≤ a2))) ∧ Drawn0 (w.drewN m) w'
  have hB := between_any x a1 a2
  generalize decide (a1 ≤ x ∧ x ≤ a2) = b at hB ⊢
  have HB := Aside0.mk hB
  clear hB
  go_enter Try.func56, Try.ntmps56
  go_wp2_with (go_at_call 57; refine (HB.out _).mono ?_; rintro e w' ⟨rfl, ⟨nd, rfl⟩⟩)
  go_ret
  exact ⟨rfl, ⟨⟨nd, (World.drewN_drewN _ _ _).symm⟩⟩⟩
def impl_areBetween.f (l0 : List Int) (a1 a2 : Int) : Option Bool := some (l0.all (fun x => decide (a1 ≤ x ∧ x ≤ a2)))
set_option maxHeartbeats 1000000 in
theorem impl_areBetween.calls (A0 : Option Addr) (c0 : Nat) (l0 : List Int) (a1 a2 : Int) (r : Bool) (w : World) (hr0 : Kd.C (Kd.int .i64) w A0 l0.length l0) (hc0 : l0.length ≤ c0) (h : impl_areBetween.f l0 a1 a2 = some r) :
    Calls Try.prog 47 #[.slice A0 l0.length c0, .int .i64 a1, .int .i64 a2] w fun e w' => e = .returned (.bool r) ∧ Below w.heap.size w w' := by
  have er : r = !(l0.any (fun x => !decide (a1 ≤ x ∧ x ≤ a2))) := by
    rw [← Option.some.inj h, List.not_any_eq_all_not]
    congr 1
    funext x
    rw [Bool.not_not]
  subst er
  clear h
  have W0 : ((w.alloc (.cells #[.int .i64 a1] 3)).alloc (.cells #[.int .i64 a2] 3)).heap[w.heap.size]? = some (.cells #[.int .i64 a1] 3 (0, 0)) := blk_alloc (blk_new w _) _
  have W1 : ((w.alloc (.cells #[.int .i64 a1] 3)).alloc (.cells #[.int .i64 a2] 3)).heap[w.heap.size + 1]? = some (.cells #[.int .i64 a2] 3 (0, 0)) := by
    have h1 := blk_new (w.alloc (.cells #[.int .i64 a1] 3)) (.cells #[.int .i64 a2] 3)
    rw [World.size_alloc] at h1
    exact h1
  have HC := Aside0.mk (containsFunc_any _ _ _ (enters_of Try.func56 (by kernel_rfl) rfl) A0 c0 l0 _ (Kd.C_alloc (Kd.C_alloc hr0 _) _) (tells_areBetween w.heap.size a1 (w.heap.size + 1) a2 _ W0 W1))
  clear hr0 W0 W1
  generalize l0.any (fun x => !decide (a1 ≤ x ∧ x ≤ a2)) = b at HC ⊢
  go_enter Try.func47, Try.ntmps47
  go_wp2_with (go_at_call 55; refine HC.out.mono ?_; rintro e w' ⟨rfl, ⟨nd, rfl⟩⟩)
  go_ret
  exact ⟨rfl, pw_below_drewN (below_alloc (below_alloc (Below.refl _ _) _) _) _⟩

end Go.Proofs.Ytdhfildgjmkgaaa.Hand
