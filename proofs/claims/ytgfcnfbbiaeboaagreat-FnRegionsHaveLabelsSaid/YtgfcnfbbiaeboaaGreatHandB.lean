/- Contracts, proved by hand, in the form of the printed ones: countIf at the program's closures, areBetween, slices.Clone of ints. Conditions: what each theorem states. -/
import Derived.Test.YtgfcnfbbiaeboaaGreatHandA
namespace Go.Proofs.YtgfcnfbbiaeboaaGreat.Hand
open Go.RowKit Go.Proofs.YtgfcnfbbiaeboaaGreatW.PrintWords Go.Proofs.YtgfcnfbbiaeboaaGreatW.PrintLast Go.Proofs.YtgfcnfbbiaeboaaGreatW.PrintMore
set_option linter.unusedVariables false
set_option linter.unusedSimpArgs false

theorem info_int : (Tryz.prog.info? 3).map (fun i => (i.zero, i.size, i.bytes)) = some (some (.int .i64 0), 1, 8) := by kernel_rfl

theorem tells_labelAt1 (g1 : Nat) (a1 : Int) (w : World) (hb1 : w.heap[g1]? = some (.cells #[.int .i64 a1] 3 (0, 0))) :
    Tells 53 #[.pointer (some ⟨g1, 0, none⟩)] (fun x => decide (x > a1)) w := fun x m => by
  have hc : (w.drewN m).cell? ⟨g1, 0, none⟩ = some (.int .i64 a1) := (blk_cell (blk_drewN hb1 m) 0).trans rfl
  show Calls Tryz.prog 53 #[.int .i64 x, .pointer (some ⟨g1, 0, none⟩)] _ _
  go_enter Tryz.func53, Tryz.ntmps53
  go_wp2
  go_ret
  exact ⟨rfl, by repeat (first | exact Drawn0.refl _ | apply Drawn0.step)⟩
def countIf_labelAt1.f (l0 : List Int) (a1 : Int) : Option Int := some (cnt (fun x => decide (x > a1)) l0)
theorem countIf_labelAt1.calls (A0 : Option Addr) (c0 : Nat) (l0 : List Int) (g1 : Nat) (a1 : Int) (r : Int) (w : World) (hr0 : Kd.C (Kd.int .i64) w A0 l0.length l0) (hc0 : l0.length ≤ c0)
    (hb1 : w.heap[g1]? = some (.cells #[.int .i64 a1] 3 (0, 0))) (h : countIf_labelAt1.f l0 a1 = some r) :
    Calls Tryz.prog 52 #[.slice A0 l0.length c0, .func (.func 53) #[] #[.pointer (some ⟨g1, 0, none⟩)]] w fun e w' => e = .returned (.int .i64 r) ∧ Drawn0 w w' := by
  obtain rfl := Option.some.inj h
  exact countIf_any _ _ _ (enters_of Tryz.func53 (by kernel_rfl) rfl) A0 c0 l0 w hr0 (tells_labelAt1 g1 a1 w hb1)
theorem tells_labelAt2 (g1 : Nat) (a1 : Int) (w : World) (hb1 : w.heap[g1]? = some (.cells #[.int .i64 a1] 3 (0, 0))) :
    Tells 54 #[.pointer (some ⟨g1, 0, none⟩)] (fun x => decide (x < a1)) w := fun x m => by
  have hc : (w.drewN m).cell? ⟨g1, 0, none⟩ = some (.int .i64 a1) := (blk_cell (blk_drewN hb1 m) 0).trans rfl
  show Calls Tryz.prog 54 #[.int .i64 x, .pointer (some ⟨g1, 0, none⟩)] _ _
  go_enter Tryz.func54, Tryz.ntmps54
  go_wp2
  go_ret
  exact ⟨rfl, by repeat (first | exact Drawn0.refl _ | apply Drawn0.step)⟩
def countIf_labelAt2.f (l0 : List Int) (a1 : Int) : Option Int := some (cnt (fun x => decide (x < a1)) l0)
theorem countIf_labelAt2.calls (A0 : Option Addr) (c0 : Nat) (l0 : List Int) (g1 : Nat) (a1 : Int) (r : Int) (w : World) (hr0 : Kd.C (Kd.int .i64) w A0 l0.length l0) (hc0 : l0.length ≤ c0)
    (hb1 : w.heap[g1]? = some (.cells #[.int .i64 a1] 3 (0, 0))) (h : countIf_labelAt2.f l0 a1 = some r) :
    Calls Tryz.prog 52 #[.slice A0 l0.length c0, .func (.func 54) #[] #[.pointer (some ⟨g1, 0, none⟩)]] w fun e w' => e = .returned (.int .i64 r) ∧ Drawn0 w w' := by
  obtain rfl := Option.some.inj h
  exact countIf_any _ _ _ (enters_of Tryz.func54 (by kernel_rfl) rfl) A0 c0 l0 w hr0 (tells_labelAt2 g1 a1 w hb1)

theorem between_any (n lo hi : Int) (w : World) :
    Calls Tryz.prog 66 #[.int .i64 n, .int .i64 lo, .int .i64 hi] w fun e w' => e = .returned (.bool (decide (lo ≤ n ∧ n ≤ hi))) ∧ Drawn0 w w' := by
  by_cases c : lo ≤ n
  · have c4b0 : decide (lo ≤ n) = true := decide_eq_true c
    have E : Aside0 (decide (lo ≤ n ∧ n ≤ hi) = decide (n ≤ hi)) := ⟨by simp [c]⟩
    clear c
    rw [E.out]
    go_enter Tryz.func66, Tryz.ntmps66
    go_wp2
    go_ret
    exact ⟨rfl, by repeat (first | exact Drawn0.refl _ | apply Drawn0.step)⟩
  · have c4b0 : decide (lo ≤ n) = false := decide_eq_false c
    have E : Aside0 (decide (lo ≤ n ∧ n ≤ hi) = false) := ⟨by simp [c]⟩
    clear c
    rw [E.out]
    go_enter Tryz.func66, Tryz.ntmps66
    go_wp2
    go_ret
    exact ⟨rfl, by repeat (first | exact Drawn0.refl _ | apply Drawn0.step)⟩
theorem tells_areBetween (g1 : Nat) (a1 : Int) (g2 : Nat) (a2 : Int) (w : World) (hb1 : w.heap[g1]? = some (.cells #[.int .i64 a1] 3 (0, 0))) (hb2 : w.heap[g2]? = some (.cells #[.int .i64 a2] 3 (0, 0))) :
    Tells 68 #[.pointer (some ⟨g1, 0, none⟩), .pointer (some ⟨g2, 0, none⟩)] (fun x => !decide (a1 ≤ x ∧ x ≤ a2)) w := fun x m => by
  have hc1 : (w.drewN m).cell? ⟨g1, 0, none⟩ = some (.int .i64 a1) := (blk_cell (blk_drewN hb1 m) 0).trans rfl
  have hc2 : (w.drewN m).cell? ⟨g2, 0, none⟩ = some (.int .i64 a2) := (blk_cell (blk_drewN hb2 m) 0).trans rfl
  show Calls Tryz.prog 68 #[.int .i64 x, .pointer (some ⟨g1, 0, none⟩), .pointer (some ⟨g2, 0, none⟩)] _ fun e w' => e = .returned (.bool (!decide (a1 ≤ x ∧ x ≤ a2))) ∧ Drawn0 (w.drewN m) w'
  have hB := between_any x a1 a2
  generalize decide (a1 ≤ x ∧ x ≤ a2) = b at hB ⊢
  have HB := Aside0.mk hB
  clear hB
  go_enter Tryz.func68, Tryz.ntmps68
  go_wp2_with (go_at_call 66; refine (HB.out _).mono ?_; rintro e w' ⟨rfl, ⟨nd, rfl⟩⟩)
  go_ret
  exact ⟨rfl, ⟨⟨nd, (World.drewN_drewN _ _ _).symm⟩⟩⟩
def impl_areBetween.f (l0 : List Int) (a1 a2 : Int) : Option Bool := some (l0.all (fun x => decide (a1 ≤ x ∧ x ≤ a2)))
set_option maxHeartbeats 1000000 in
theorem impl_areBetween.calls (A0 : Option Addr) (c0 : Nat) (l0 : List Int) (a1 a2 : Int) (r : Bool) (w : World) (hr0 : Kd.C (Kd.int .i64) w A0 l0.length l0) (hc0 : l0.length ≤ c0) (h : impl_areBetween.f l0 a1 a2 = some r) :
    Calls Tryz.prog 56 #[.slice A0 l0.length c0, .int .i64 a1, .int .i64 a2] w fun e w' => e = .returned (.bool r) ∧ Below w.heap.size w w' := by
  have er : r = !(l0.any (fun x => !decide (a1 ≤ x ∧ x ≤ a2))) := by
    rw [← Option.some.inj h, List.not_any_eq_all_not]
    congr 1
    funext x
    rw [Bool.not_not]
  subst er
  clear h
  have W0 : ((w.alloc (.cells #[.int .i64 a1] 3)).alloc (.cells #[.int .i64 a2] 3)).heap[w.heap.size]? = some (.cells #[.int .i64 a1] 3 (0, 0)) := blk_alloc (blk_new w _) _
  have W1 : ((w.alloc (.cells #[.int .i64 a1] 3)).alloc (.cells #[.int .i64 a2] 3)).heap[w.heap.size + 1]? = some (.cells #[.int .i64 a2] 3 (0, 0)) := by
    have h1 := blk_new (w.alloc (.cells #[.int .i64 a1] 3)) (.cells #[.int .i64 a2] 3)
    rw [World.size_alloc] at h1
    exact h1
  have HC := Aside0.mk (containsFunc_any _ _ _ (enters_of Tryz.func68 (by kernel_rfl) rfl) A0 c0 l0 _ (Kd.C_alloc (Kd.C_alloc hr0 _) _) (tells_areBetween w.heap.size a1 (w.heap.size + 1) a2 _ W0 W1))
  clear hr0 W0 W1
  generalize l0.any (fun x => !decide (a1 ≤ x ∧ x ≤ a2)) = b at HC ⊢
  go_enter Tryz.func56, Tryz.ntmps56
  go_wp2_with (go_at_call 67; refine HC.out.mono ?_; rintro e w' ⟨rfl, ⟨nd, rfl⟩⟩)
  go_ret
  exact ⟨rfl, pw_below_drewN (below_alloc (below_alloc (Below.refl _ _) _) _) _⟩

def slices_Clone_int_int.f (l0 : List Int) : Option (List Int) := if l0.length < 17592186044416 then some l0 else none
set_option maxHeartbeats 8000000 in
set_option maxRecDepth 100000 in
theorem slices_Clone_int_int.calls (A0 : Option Addr) (c0 : Nat) (l0 : List Int) (r : List Int) (w : World) (hr0 : Kd.C (Kd.int .i64) w A0 l0.length l0) (hc0 : l0.length ≤ c0) (h : slices_Clone_int_int.f l0 = some r) :
    Calls Tryz.prog 41 #[.slice A0 l0.length c0] w fun e w' => ∃ v0_ : Value, e = .returned (v0_) ∧ Kd.R (Kd.int .i64) 3 w' w.heap.size (fun _ => True) v0_ r ∧ Below w.heap.size w w' := by
  have q22 : ∀ (w : World) (a : Option Addr) (n c n' c' : Nat), (binOp .eql 24 (.slice a n c) (.slice none n' c')).run Tryz.prog w = .ok (.bool a.isNone) w := fun w a n c n' c' => Lib.run_eql_slice_nil w _ _ a n c n' c' Tryz.underlying24
  have HQ := Aside0.mk q22
  unfold slices_Clone_int_int.f at h
  by_cases c2 : l0.length < 17592186044416
  · rw [if_pos c2] at h
    obtain rfl := Option.some.inj h
    clear h
    have LM := Aside0.mk c2
    clear c2
    have HR0 := Aside0.mk hr0
    have HC0 := Aside0.mk hc0
    clear hc0
    cases A0 with
    | none =>
      have h0 : l0 = [] := by
        rcases Nat.eq_zero_or_pos l0.length with h0 | h0
        · exact List.eq_nil_of_length_eq_zero h0
        · obtain ⟨ad, e, _⟩ := hr0.2.2 h0
          cases e
      clear hr0 HR0
      subst h0
      have q2 := HQ.out
      go_enter Tryz.func41, Tryz.ntmps41
      go_wp2
      go_ret
      exact ⟨_, rfl, Kd.R_nil _ _ _ _ _, Below.refl _ _⟩
    | some ad =>
      clear hr0
      have q2 := fun w n c n' c' => (HQ.out w (some ad) n c n' c')
      simp only [Option.isNone] at q2
      clear q22
      have HB := Aside0.mk (Below.refl w.heap.size w)
      go_enter Tryz.func41, Tryz.ntmps41
      go_wp2_with (first | ((with_reducible refine gate_dst (N := 5) rfl ?_); refine Kd.R_lit (Kd.int .i64) _ 3 ?hg (N := 5) ?hd (xs := ([] : List Int)) (inner := []) (ok := fun _ => True) (okp := fun _ => True) ?hr ?hp (fun _ hk => hk) trivial (Below.refl _ _) (Nat.le_refl _) (by simp) ?_; (case hd => rfl); (case hg => rfl); (case hr => first | (go_simp; done) | (go_simp; rfl)); (case hp => exact (Reps.none _ _)); intro v135 w3 ho4 hb hg_ hnew_; clear hg_ hnew_; have n0_ := Aside0.mk (Kd.R_lower ho4 (below_size HB.out)); have n1_ := Aside0.mk (below_step HB.out hb); clear HB; have HO136 := n0_; have HB := n1_; clear n0_ n1_; clear hb ho4) | ((with_reducible refine gate_builtin (b := .append) (xs := #[.tmp 5, .tmp 6]) rfl ?_); at_builtin; refine Kd.R_append_rows (Kd.int .i64) (w0 := w) w.heap.size rfl (.tmp 5) (.tmp 6) 24 3 (.int .i64 0) 8 rfl Tryz.underlying24 info_int rfl (by decide) (by omega) v135 [] l0 _ _ _ (fun _ => True) (fun _ => False) rfl rfl ?aO ?aR (fun _ _ h => h) (fun _ h => h.elim) ?aF ?aB ?aS ?aL ?_; (case aR => exact (Kd.C_below HR0.out HB.out)); (case aB => exact HB.out); (case aF => exact (fun _ _ => trivial)); (case aO => exact HO136.out); (case aS => exact (below_size HB.out)); (case aL => have := LM.out; simp only [List.length_nil]; omega); intro v138 w5 ho hb hg hat; rw [List.nil_append] at ho; have n0_ := Aside0.mk (hb); have n1_ := Aside0.mk (ho); clear HB; clear HO136; have HB := n0_; have HO139 := n1_; clear n0_ n1_; clear ho hb hg hat))
      go_ret
      exact ⟨_, rfl, HO139.out, HB.out⟩
  · rw [if_neg c2] at h
    cases h
end Go.Proofs.YtgfcnfbbiaeboaaGreat.Hand
