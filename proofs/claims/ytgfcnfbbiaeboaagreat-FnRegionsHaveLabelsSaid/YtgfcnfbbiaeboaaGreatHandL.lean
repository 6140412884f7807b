/- The contract of the closure in impl.PointOfRegion: most[p] and 'again' are written where the value is less; its loops as functions; what the walk keeps. -/
import Derived.Test.YtgfcnfbbiaeboaaGreatHandE
namespace Go.Proofs.YtgfcnfbbiaeboaaGreat.Hand
open Go.RowKit Go.Shelf Go.Maps Go.Sort
open Go.Proofs.YtgfcnfbbiaeboaaGreatW.PrintWords Go.Proofs.YtgfcnfbbiaeboaaGreatW.PrintLast
set_option linter.unusedVariables false
set_option linter.unusedSimpArgs false
set_option maxRecDepth 100000 in
set_option maxHeartbeats 2000000 in
theorem least_calls (gm ga g cap : Nat) (p : Nat) (v : Int) (xs : List Int) (b : Bool) (w : World) (base : Nat) (ok : Nat → Prop)
    (hm : w.heap[gm]? = some (.cells #[.slice (some ⟨g, 0, none⟩) xs.length cap] 24 (0, 0))) (ha : w.heap[ga]? = some (.cells #[.bool b] 4 (0, 0)))
    (hR : Kd.R (Kd.int .i64) 3 w base ok (.slice (some ⟨g, 0, none⟩) xs.length cap) xs) (hp : p < xs.length) :
    Calls Tryz.prog 27 #[.int .i64 (p : Int), .int .i64 v, .pointer (some ⟨gm, 0, none⟩), .pointer (some ⟨ga, 0, none⟩)] w fun e w' => e = .returned (.tuple #[]) ∧
      ∃ m, w' = if v < rd xs (p : Int) then ((w.drewN m).setCell ⟨g, p, none⟩ (.int .i64 v)).setCell ⟨ga, 0, none⟩ (.bool true) else w.drewN m := by
  have hcz : w.cell? ⟨gm, 0, none⟩ = some (.slice (some ⟨g, 0, none⟩) xs.length cap) := (blk_cell hm 0).trans rfl
  have hca : w.cell? ⟨ga, 0, none⟩ = some (.bool b) := (blk_cell ha 0).trans rfl
  have hfa : w.frozen? ⟨ga, 0, none⟩ = false := blk_frozen ha 0
  obtain ⟨hcp, hfp⟩ := own_at_of (d := (0 : Int)) (Kd.own_of_R hR) (p : Int) (by omega) (by omega)
  rw [Int.toNat_natCast] at hcp hfp
  have q1 : ((0 : Int) ≤ (p : Int)) = True := eq_true (by omega)
  have q2 : ((p : Int) < (xs.length : Int)) = True := eq_true (by omega)
  have hgne : g ≠ ga := fun e => Kd.R_ne hR ha (by decide) (by rw [e]; rfl)
  have hcp' : w.cell? ⟨g, p, none⟩ = some (.int .i64 (rd xs (p : Int))) := hcp
  generalize hx : rd xs (p : Int) = x at hcp' ⊢
  clear hcp hm ha hR hp hx
  by_cases hc : v < x
  · have c1 : decide (v < x) = true := decide_eq_true hc
    rw [show (fun (e : Ending) (w' : World) => e = .returned (.tuple #[]) ∧ ∃ m, w' = if v < x then ((w.drewN m).setCell ⟨g, p, none⟩ (.int .i64 v)).setCell ⟨ga, 0, none⟩ (.bool true) else w.drewN m) = fun (e : Ending) (w' : World) => e = .returned (.tuple #[]) ∧ ∃ m, w' = ((w.drewN m).setCell ⟨g, p, none⟩ (.int .i64 v)).setCell ⟨ga, 0, none⟩ (.bool true) from by funext e w'; simp only [if_pos hc]]
    clear hc
    go_enter Tryz.func27, Tryz.ntmps27
    go_wp2
    refine bodyPost_end (results_none rfl _ _ _) rfl ?_
    exact ⟨rfl, 0, rfl⟩
  · have c1 : decide (v < x) = false := decide_eq_false hc
    rw [show (fun (e : Ending) (w' : World) => e = .returned (.tuple #[]) ∧ ∃ m, w' = if v < x then ((w.drewN m).setCell ⟨g, p, none⟩ (.int .i64 v)).setCell ⟨ga, 0, none⟩ (.bool true) else w.drewN m) = fun (e : Ending) (w' : World) => e = .returned (.tuple #[]) ∧ ∃ m, w' = w.drewN m from by funext e w'; simp only [if_neg hc]]
    clear hc
    go_enter Tryz.func27, Tryz.ntmps27
    go_wp2
    refine bodyPost_end (results_none rfl _ _ _) rfl ?_
    exact ⟨rfl, 0, rfl⟩
/-- The closure: most[p] and 'again'. -/
def least (p : Nat) (v : Int) (s : List Int × Bool) : List Int × Bool := if v < rd s.1 (p : Int) then (s.1.set p v, true) else s
def ptQ (far : List Int) (p : Nat) : Nat → Nat → List Int × Bool → List Int × Bool
  | 0, _, s => s
  | d + 1, q, s => ptQ far p d (q + 1) (if (q : Int) < rd far (p : Int) then least p (wrap64 (wrap64 (rd s.1 (q : Int) - 100) - 1)) s else least q (wrap64 (wrap64 (rd s.1 (p : Int) + 100) - 1)) s)
def ptP (far : List Int) : Nat → Nat → List Int × Bool → List Int × Bool
  | 0, _, s => s
  | d + 1, p, s => ptP far d (p + 1) (ptQ far p p 0 (least p (wrap64 (rd s.1 ((p - 1 : Nat) : Int) - 1)) s))
def ptT (far : List Int) (n : Nat) : Nat → List Int × Bool → Option (List Int)
  | 0, _ => none
  | k + 1, s => if s.2 = true then ptT far n k (ptP far (n - 1) 1 (s.1, false)) else some s.1
/-- The memory of the walk of impl.PointOfRegion: the parameter's box, the row 'most' behind a box, the box of 'again'. -/
structure PtI (w0 : World) (gb gm ga : Nat) (c0 c1 : Value) (v : Value) (n : Nat) (s : List Int × Bool) (w : World) : Prop where
  below : Below w0.heap.size w0 w
  box : w.heap[gb]? = some (.cells #[c0, c1] 27 (0, 0))
  gmost : w.heap[gm]? = some (.cells #[v] 24 (0, 0))
  gagain : w.heap[ga]? = some (.cells #[.bool s.2] 4 (0, 0))
  row : Kd.R (Kd.int .i64) 3 w w0.heap.size (fun _ => True) v s.1
  len : s.1.length = n
  above : w0.heap.size ≤ ga
theorem least_inv (w0 w : World) (gb gm ga n : Nat) (c0 c1 v : Value) (s : List Int × Bool) (p : Nat) (x : Int) (h : PtI w0 gb gm ga c0 c1 v n s w) (hp : p < n) :
    Calls Tryz.prog 27 #[.int .i64 (p : Int), .int .i64 x, .pointer (some ⟨gm, 0, none⟩), .pointer (some ⟨ga, 0, none⟩)] w fun e w' => e = .returned (.tuple #[]) ∧ PtI w0 gb gm ga c0 c1 v n (least p x s) w' := by
  obtain ⟨xs, b⟩ := s
  obtain ⟨hB, hb, hm, ha, hR, hl, hA⟩ := h
  dsimp only at ha hR hl
  subst hl
  obtain ⟨g, cap, rfl, hg0, hg1, cells, hg2⟩ := Kd.R_form hR (by omega)
  refine (least_calls gm ga g cap p x xs b w w0.heap.size (fun _ => True) hm ha hR hp).mono ?_
  rintro e w' ⟨rfl, m, hw⟩
  refine ⟨rfl, ?_⟩
  have hB1 := pw_below_drewN hB m
  have hb1 := blk_drewN hb m
  have hm1 := blk_drewN hm m
  have ha1 := blk_drewN ha m
  have hR1 := Kd.R_drewN hR m
  have hg3 := blk_drewN hg2 m
  unfold least
  dsimp only
  by_cases hc : x < rd xs (p : Int)
  · rw [if_pos hc] at hw ⊢
    subst hw
    have e1 := Kd.R_putg hR1 (p : Int) x
    rw [Int.toNat_natCast] at e1
    have hb2 := blk_far hb1 (p := ⟨g, p, none⟩) (blk_ne hb1 hg3 (by decide)) (.int .i64 x)
    have hm2 := blk_far hm1 (p := ⟨g, p, none⟩) (blk_ne hm1 hg3 (by decide)) (.int .i64 x)
    have ha2 := blk_far ha1 (p := ⟨g, p, none⟩) (blk_ne ha1 hg3 (by decide)) (.int .i64 x)
    refine ⟨below_set (below_set hB1 hg0) hA, blk_far hb2 (p := ⟨ga, 0, none⟩) (blk_ne hb2 ha2 (by decide)) _, blk_far hm2 (p := ⟨ga, 0, none⟩) (blk_ne hm2 ha2 (by decide)) _, blk_set ha2 0 _, ?_, by dsimp only; rw [List.length_set], hA⟩
    exact Kd.R_set e1.1 ha2 (by decide) 0 _
  · rw [if_neg hc] at hw ⊢
    subst hw
    exact ⟨hB1, hb1, hm1, ha1, hR1, rfl, hA⟩
end Go.Proofs.YtgfcnfbbiaeboaaGreat.Hand
