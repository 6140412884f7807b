/- Slices of slices in the laws: what their marks come to (the walk of markIntSS at a slice of the call's own, no two rows of which are one; and plain facts). Conditions: totals below 2^40. -/
import Derived.Test.YtmledbfeefnfmaaPAllx3
import Derived.Test.YtmledbfeefnfmaaBaseM
namespace Go.Proofs.Ytmledbfeefnfmaa.PAll
open Go.RowKit Go.Proofs.Ytmledbfeefnfmaa.Hand Go.Proofs.YtmledbfeefnfmaaW.PrintWords Go.Proofs.YtmledbfeefnfmaaW.PrintLast Go.Proofs.YtmledbfeefnfmaaW.PrintMore Go.Proofs.Ytmledbfeefnfmaa.Plain
set_option linter.unusedVariables false
set_option linter.unusedSimpArgs false
/-- What markIntSS comes to. -/
def markSS.l0 : Nat → List (List Int) → Int → Int → Option (Int × List (List Int))
  | 0, _, _, _ => none
  | k + 1, x0, x1, x5 => if x5 < (x0.length : Int) then (if 0 ≤ x5 then ((laws_markIntS.f k (rd_L1 x0 x5) x1).bind fun b => markSS.l0 k (x0.set x5.toNat b.2) b.1 (wrap64 (x5 + 1))) else none) else some (x1, x0)
set_option maxHeartbeats 8000000 in
set_option maxRecDepth 100000 in
theorem markSS.calls (k : Nat) (ls : List (List Int)) (a1 r1 : Int) (rs : List (List Int)) (v : Value) (w0 w : World) (hB : Below w0.heap.size w0 w) (ho : Kd.S (Kd.slice 3 (Kd.int .i64)) 28 w w0.heap.size (fun _ => True) v ls) (h : markSS.l0 k ls a1 0 = some (r1, rs)) :
    Calls Try.prog 8 #[v, .int .i64 a1] w fun e w' => e = .returned (.int .i64 r1) ∧ Kd.S (Kd.slice 3 (Kd.int .i64)) 28 w' w0.heap.size (fun _ => True) v rs ∧ Below w0.heap.size w0 w' := by
  have HO := Aside0.mk ho
  have HB := Aside0.mk hB
  have H' := Aside0.mk h
  clear hB h
  obtain ⟨A0, c0, e0⟩ := Kd.S_slice ho
  clear ho
  subst e0
  go_enter Try.func8, Try.ntmps8
  go_wp2
  go_loopg [1, 5] k (fun kq v1 v5 w' => ∃ (ls1 : List (List Int)) (x1 x5 : Int), v1 = .int .i64 x1 ∧ v5 = .int .i64 x5 ∧ Aside0 (ls1.length = ls.length) ∧ Aside0 (markSS.l0 kq ls1 x1 x5 = some (r1, rs)) ∧ Aside0 (kq ≤ k) ∧ Aside0 (Kd.S (Kd.slice 3 (Kd.int .i64)) 28 w' w0.heap.size (fun _ => True) (.slice A0 ls.length c0) ls1) ∧ Aside0 (Below w0.heap.size w0 w'))
  case atStart => exact ⟨ls, a1, 0, rfl, rfl, ⟨rfl⟩, H', ⟨Nat.le_refl _⟩, HO, HB⟩
  case round =>
    clear H' HO HB
    obtain ⟨ls1, x1, x5, rfl, rfl, HL, HA, HK1, HO, HB⟩ := hrel
    cases gk with
    | zero => exact absurd HA.out (by simp [markSS.l0])
    | succ k1 =>
      have H := HA.out
      clear HA
      simp only [markSS.l0] at H
      rw [HL.out] at H
      by_cases c3 : x5 < (ls.length : Int)
      · rw [if_pos c3] at H
        by_cases c4 : 0 ≤ x5
        · rw [if_pos c4] at H
          obtain ⟨b, h27, H⟩ := Option.bind_eq_some_iff.mp H
          have A27 := Aside0.mk h27
          have H' := Aside0.mk H
          clear H h27
          obtain ⟨ad, A1, c1, eA, hcell, hcap, hC⟩ := at_L1 (Kd.S_reads' HO.out).2.2 x5 c4 (by rw [HL.out]; exact c3)
          subst eA
          clear hcell hcap hC
          obtain ⟨oki, c, hcl, hM, hcc, hoki, hback⟩ := Kd.S_borrow HO.out ([] : List Int) x5 c4 c3
          obtain ⟨ve, rfl, hR⟩ := hM
          have hx : wr.cell? (ad.add x5.toNat) = some ve := by
            have := hcc 0 ve rfl
            rwa [show x5.toNat * (Kd.slice 3 (Kd.int .i64)).sz + 0 = x5.toNat from by rw [show (Kd.slice 3 (Kd.int .i64)).sz = 1 from rfl]; omega] at this
          have HC := Aside0.mk (laws_markIntS.calls k1 (fun k_ => some k_ = ve.ownBlock) ve (rd_L1 ls1 x5) x1 b.1 b.2 w0 wr HB.out (Kd.R_tight rfl hR) A27.out)
          have HR := Aside0.mk hR
          have HBK := Aside0.mk (fun (w1 : World) (x' : List Int) (hg : wr.grownBy w1 ve.ownBlock) (h2 : Kd.R (Kd.int .i64) 3 w1 w0.heap.size oki ve x') => hback (w1 := w1) (row := ve.ownBlock) (x' := x') hg (fun k_ hk_ => hR.1 k_ hk_) ⟨ve, rfl, h2⟩)
          clear hcl hcc hoki hback hR
          have c3b0 : decide (x5 < (ls.length : Int)) = true := decide_eq_true c3
          have q1 : (x5 < (ls.length : Int)) = True := eq_true c3
          have q2 : (0 ≤ x5) = True := eq_true c4
          clear c3 c4
          go_wp2_with (go_at_call 22; refine HC.out.mono ?_; rintro e w' ⟨rfl, hR2, hb2, hk2⟩; have n0_ := Aside0.mk (HBK.out w' b.2 ⟨hb2.os.trans HB.out.os.symm, hb2.tape.trans HB.out.tape.symm, hb2.output.trans HB.out.output.symm, hk2.1, fun i hi hn => hk2.2 i hi hn⟩ (Kd.R_mono (Kd.R_tight rfl hR2) (fun k_ hk_ => HR.out.1 k_ hk_.symm))); have n1_ := Aside0.mk hb2; clear HO HB HC HBK HR hR2 hb2 hk2; have HO := n0_; have HB := n1_; clear n0_ n1_)
          go_roundg k1
          case measure => have := HK1.out; omega
          case rel => exact ⟨ls1.set x5.toNat b.2, b.1, wrap64 (x5 + 1), rfl, (by first | rfl | (simp; done) | (simp [*]; done)), ⟨by rw [List.length_set]; exact HL.out⟩, H', ⟨by have := HK1.out; omega⟩, HO, HB⟩
        · rw [if_neg c4] at H
          exact absurd H (by simp)
      · rw [if_neg c3] at H
        have c3b0 : decide (x5 < (ls.length : Int)) = false := decide_eq_false c3
        clear c3
        simp only [Option.some.injEq, Prod.mk.injEq] at H
        obtain ⟨rfl, rfl⟩ := H
        go_wp2
        go_ret
        exact ⟨rfl, HO.out, HB.out⟩
end Go.Proofs.Ytmledbfeefnfmaa.PAll
namespace Go.Proofs.Ytmledbfeefnfmaa.Plain
open Go.RowKit Go.Proofs.Ytmledbfeefnfmaa.PAll Go.Proofs.YtmledbfeefnfmaaW.PrintWords Go.Proofs.YtmledbfeefnfmaaW.PrintLast Go.Proofs.Ytmledbfeefnfmaa.Hand
def tot : List (List Int) → Nat
  | [] => 0
  | l :: ls => l.length + tot ls
def marks : Int → List (List Int) → List (List Int)
  | _, [] => []
  | s, l :: ls => iota s l.length :: marks (s + (l.length : Int)) ls
theorem rd_L2_mid (pre : List (List Int)) (x : List Int) (rest : List (List Int)) : rd_L1 (pre ++ x :: rest) (pre.length : Int) = x := by
  unfold rd_L1
  rw [Int.toNat_natCast, List.getD_eq_getElem?_getD, List.getElem?_append_right (Nat.le_refl _), Nat.sub_self]
  rfl
theorem markSS_ev : ∀ (rest pre : List (List Int)) (s : Int), 0 ≤ s → s + (tot rest : Int) ≤ 1099511627776 → pre.length + rest.length ≤ 1099511627776 →
    Ev (fun k => markSS.l0 k (pre ++ rest) s (pre.length : Int)) (s + (tot rest : Int), pre ++ marks s rest) := by
  intro rest
  induction rest with
  | nil =>
    intro pre s h0 h1 h2
    rw [show s + ((tot [] : Nat) : Int) = s by simp [tot], show pre ++ marks s [] = pre ++ [] from rfl]
    refine Ev.step (f := fun _ => some (s, pre ++ [])) (fun k => ?_) (Ev.now _)
    rw [markSS.l0, if_neg (by simp)]
  | cons x rest ih =>
    intro pre s h0 h1 h2
    rw [tot] at h1
    rw [List.length_cons] at h2
    refine Ev.step (f := ?f1) (fun k => ?h1) ?g1
    case h1 => rw [markSS.l0, if_pos (by simp; omega), if_pos (by omega), rd_L2_mid, Int.toNat_natCast]
    refine Ev.bind (markIntS_ev x s h0 (by omega) (by omega)) ?_
    have h := ih (pre ++ [iota s x.length]) (s + (x.length : Int)) (by omega) (by omega) (by simp; omega)
    rw [List.length_append, List.length_singleton, List.append_assoc, List.append_assoc] at h
    dsimp only
    rw [List.set_append_right _ _ (Nat.le_refl _), Nat.sub_self, List.set_cons_zero, wrap_succ pre.length (by omega), tot, show s + ((x.length + tot rest : Nat) : Int) = s + (x.length : Int) + (tot rest : Int) by omega]
    exact h
theorem heldSS_ev : ∀ (rest pre : List (List Int)) (s : Int), 0 ≤ s → s + (tot rest : Int) ≤ 1099511627776 → pre.length + rest.length ≤ 1099511627776 →
    Ev (fun k => laws_heldIntSS.l0 k (pre ++ marks s rest) s (pre.length : Int)) (s + (tot rest : Int)) := by
  intro rest
  induction rest with
  | nil =>
    intro pre s h0 h1 h2
    rw [show s + ((tot [] : Nat) : Int) = s by simp [tot]]
    refine Ev.step (f := fun _ => some s) (fun k => ?_) (Ev.now _)
    rw [laws_heldIntSS.l0, if_neg (by simp [marks])]
  | cons x rest ih =>
    intro pre s h0 h1 h2
    rw [tot] at h1
    rw [List.length_cons] at h2
    rw [marks]
    refine Ev.step (f := ?f1) (fun k => ?h1) ?g1
    case h1 => rw [laws_heldIntSS.l0, if_pos (by simp; omega), if_pos (by omega), rd_L2_mid]
    refine Ev.bind (heldIntS_ev s x.length h0 (by omega) (by omega)) (Ev.neg (by omega) ?_)
    have h := ih (pre ++ [iota s x.length]) (s + (x.length : Int)) (by omega) (by omega) (by simp; omega)
    rw [List.length_append, List.length_singleton, List.append_assoc] at h
    rw [wrap_succ pre.length (by omega), tot, show s + ((x.length + tot rest : Nat) : Int) = s + (x.length : Int) + (tot rest : Int) by omega]
    exact h
theorem eqSS_l0 (ls : List (List Int)) (hs : ls.length ≤ 1099511627776) (hx : ∀ x ∈ ls, x.length ≤ 1099511627776) : ∀ (d n : Nat), n + d = ls.length →
    Ev (fun k => laws_eqIntSS.l0 k ls ls (n : Int)) true := by
  intro d
  induction d with
  | zero =>
    intro n hn
    refine Ev.step (f := fun _ => some true) (fun k => ?_) (Ev.now _)
    rw [laws_eqIntSS.l0, if_neg (by omega)]
  | succ d ih =>
    intro n hn
    have hlt : n < ls.length := by omega
    have e : rd_L1 ls (n : Int) = ls[n] := by
      unfold rd_L1
      rw [Int.toNat_natCast, List.getD_eq_getElem?_getD, List.getElem?_eq_getElem hlt]
      rfl
    refine Ev.step (f := ?f1) (fun k => ?h1) ?g1
    case h1 => rw [laws_eqIntSS.l0, if_pos (by omega), if_pos (by omega), if_pos (by omega), e]
    refine Ev.bind (eqIntS_same ls[n] (hx _ (List.getElem_mem hlt))) (Ev.pos rfl ?_)
    rw [wrap_succ n (by omega)]
    exact ih (n + 1) (by omega)
theorem eqSS_same (ls : List (List Int)) (hs : ls.length ≤ 1099511627776) (hx : ∀ x ∈ ls, x.length ≤ 1099511627776) : Ev (fun k => laws_eqIntSS.f k ls ls) true := by
  unfold laws_eqIntSS.f
  exact Ev.pos rfl (eqSS_l0 ls hs hx ls.length 0 (by omega))
theorem tot_le : ∀ (ls : List (List Int)) (m : Nat), (∀ x ∈ ls, x.length ≤ m) → tot ls ≤ ls.length * m := by
  intro ls
  induction ls with
  | nil => intro m _; simp [tot]
  | cons x ls ih =>
    intro m h
    have h1 := ih m (fun y hy => h y (List.mem_cons_of_mem _ hy))
    have h2 := h x List.mem_cons_self
    rw [tot, List.length_cons, Nat.add_mul]
    omega
/-- The four facts that a law over a slice of slices needs. -/
theorem ss_facts (ls : List (List Int)) (hs : ls.length ≤ 1000000) (hx : ∀ x ∈ ls, x.length ≤ 1000) :
    ∃ m ms, 0 ≤ m ∧ (∃ k, laws_eqIntSS.f k ls ls = some true) ∧ (∃ k, markSS.l0 k ls 1 0 = some (m, ms)) ∧ (∃ k, laws_heldIntSS.f k ms 1 = some m) := by
  have ht := tot_le ls 1000 hx
  have h1 := markSS_ev ls [] 1 (by omega) (by omega) (by simp; omega)
  have h2 := heldSS_ev ls [] 1 (by omega) (by omega) (by simp; omega)
  have h3 := eqSS_same ls (by omega) (fun x h => by have := hx x h; omega)
  simp only [List.nil_append, List.length_nil] at h1 h2
  obtain ⟨k1, h1⟩ := h1
  obtain ⟨k2, h2⟩ := h2
  obtain ⟨k3, h3⟩ := h3
  exact ⟨_, _, by omega, ⟨k3, h3 k3 (Nat.le_refl _)⟩, ⟨k1, h1 k1 (Nat.le_refl _)⟩, ⟨k2, h2 k2 (Nat.le_refl _)⟩⟩
end Go.Proofs.Ytmledbfeefnfmaa.Plain
