/- How many slope parking functions go on a list: the program's count and the reference's one come to one number, made place by place. Conditions: a slope; a list no longer than it, of numbers from 0 on and below the number across. -/
import Derived.Test.YtibmphdbkhchdaaPAllx1
import Derived.Test.YtibmphdbkhchdaaPAllx2
import Derived.Test.YtibmphdbkhchdaaPAllx3
import Derived.Test.YtibmphdbkhchdaaPAllx4
import Derived.Test.YtibmphdbkhchdaaBaseR
import Derived.Test.YtibmphdbkhchdaaBaseI
namespace Go.Proofs.Ytibmphdbkhchdaa.Plain
open Go.RowKit Go.Proofs.YtibmphdbkhchdaaW.PrintWords Go.Proofs.YtibmphdbkhchdaaW.PrintLast Go.Proofs.Ytibmphdbkhchdaa.Hand Go.Proofs.Ytibmphdbkhchdaa.PAll
set_option linter.unusedVariables false

theorem slChoose_fin : ∀ n : Fin 7, ∀ k : Fin 7, k.1 ≤ n.1 → spec_slChoose.f 60 (n.1 : Int) (k.1 : Int) = some (bin n.1 k.1 : Int) := by decide +kernel
theorem slChoose_ev (n k : Nat) (hn : n ≤ 6) (hk : k ≤ n) : Ev (fun q => spec_slChoose.f q (n : Int) (k : Int)) (bin n k : Int) :=
  Ev.of (k := 60) (fun q => spec_slChoose.mono _ _ q) (slChoose_fin ⟨n, by omega⟩ ⟨k, by omega⟩ hk)
/-- How many slope parking functions go on a list. -/
def sways (l : List Int) (n a : Int) : Int :=
  rd (dp (n.toNat - l.length) (fun v => upTo l (v : Int)) (fun v => upTo (bnds n a) (v : Int)) a.toNat 0 (1 :: List.replicate (n.toNat - l.length) 0)) ((n.toNat - l.length : Nat) : Int)

theorem slNeed_l0 (v : Int) (bs : List Int) (hs : bs.length ≤ 1099511627776) : ∀ (d n : Nat) (m : Int), n + d = bs.length → m = cnt (fun x => decide (x ≤ v)) (bs.take n) →
    Ev (fun k => spec_slNeed.l0 k v m bs (bs.length : Int) (n : Int)) (upTo bs v) := by
  intro d
  induction d with
  | zero =>
    intro n m hn hm
    refine Ev.step (f := fun _ => some m) (fun k => ?_) (Ev.const ?_)
    · rw [spec_slNeed.l0, if_neg (by omega)]
    · rw [hm, List.take_of_length_le (by omega)]
      rfl
  | succ d ih =>
    intro n m hn hm
    have h1 : n < bs.length := by omega
    have hc := cnt_snoc (fun x => decide (x ≤ v)) bs (n : Int) (by omega) (by omega)
    rw [show ((n : Int) + 1).toNat = n + 1 by omega, Int.toNat_natCast, ← hm, rd_nat bs n h1] at hc
    have h2 := cnt_le (fun x => decide (x ≤ v)) (bs.take n)
    have h3 := cnt_nonneg (fun x => decide (x ≤ v)) (bs.take n)
    rw [← hm] at h2 h3
    have h4 : (bs.take n).length ≤ n := List.length_take_le _ _
    by_cases hx : bs[n] ≤ v
    · rw [if_pos (decide_eq_true hx)] at hc
      refine Ev.step (fun k => ?_) (ih (n + 1) (m + 1) (by omega) hc.symm)
      rw [spec_slNeed.l0, if_pos (by omega), if_pos (by omega), if_pos (by omega), rd_nat bs n h1, if_pos hx, wrap64_in (m + 1) (by omega) (by omega), wrap_succ n (by omega)]
    · rw [if_neg (by rw [decide_eq_false hx]; decide), Int.add_zero] at hc
      refine Ev.step (fun k => ?_) (ih (n + 1) m (by omega) hc.symm)
      rw [spec_slNeed.l0, if_pos (by omega), if_pos (by omega), if_pos (by omega), rd_nat bs n h1, if_neg hx, wrap_succ n (by omega)]
theorem slNeed_ev {n a : Int} (h : slope n a = true) (v : Int) : Ev (fun k => spec_slNeed.f k n a v) (upTo (bnds n a) v) := by
  have hin := slope_in h
  unfold spec_slNeed.f
  exact Ev.bind (slBounds_ev h) (slNeed_l0 v (bnds n a) (by rw [bnds_length]; omega) (bnds n a).length 0 0 (by omega) (by simp [cnt]))

/-! ### the reference's table -/
theorem slWays_l3 {n a : Int} (h : slope n a = true) (hv : List Int) (left : Nat) (hleft : left ≤ 6) (fixed w : Int) (hf : 0 ≤ fixed ∧ fixed ≤ 1000) (v : Nat) (kk : Nat) (hk : kk ≤ left) (wl : List Int) (r : Int) : ∀ (d m : Nat) (nxt : List Int), m + d = left - kk + 1 → nxt.length = left + 1 →
    Ev (fun k => spec_slWays.l2 k n a hv (left : Int) fixed (v : Int) (inn left fixed (upTo (bnds n a) (v : Int)) w kk d m nxt) wl (wl.length : Int) ((kk + 1 : Nat) : Int)) r →
    Ev (fun k => spec_slWays.l3 k n a hv (left : Int) fixed (v : Int) nxt (kk : Int) w (m : Int) wl (wl.length : Int) (kk : Int)) r := by
  intro d
  induction d with
  | zero =>
    intro m nxt hm hn hg
    refine Ev.step (fun k => ?_) hg
    rw [spec_slWays.l3, wrap64_in ((kk : Int) + (m : Int)) (by omega) (by omega), if_neg (by omega), wrap_succ kk (by omega)]
    rfl
  | succ d ih =>
    intro m nxt hm hn hg
    have e1 : wrap64 ((kk : Int) + (m : Int)) = ((kk + m : Nat) : Int) := by rw [wrap64_in _ (by omega) (by omega)]; omega
    have e2 : wrap64 ((wrap64 (fixed + (kk : Int))) + (m : Int)) = fixed + (kk : Int) + (m : Int) := by rw [wrap64_in (fixed + (kk : Int)) (by omega) (by omega), wrap64_in _ (by omega) (by omega)]
    have e3 : wrap64 ((left : Int) - (kk : Int)) = ((left - kk : Nat) : Int) := by rw [wrap64_in _ (by omega) (by omega)]; omega
    rw [inn] at hg
    refine Ev.step (f := ?f1) (fun k => ?h1) ?g1
    case h1 => rw [spec_slWays.l3, e1, e2, e3, if_pos (by omega)]
    refine Ev.bind (slNeed_ev h (v : Int)) ?_
    by_cases hc : fixed + (kk : Int) + (m : Int) ≥ upTo (bnds n a) (v : Int)
    · rw [if_pos hc] at hg
      refine Ev.pos hc (Ev.pos (by omega) (Ev.pos (by omega) (Ev.bind (slChoose_ev (left - kk) m (by omega) (by omega)) ?_)))
      rw [Int.toNat_natCast, wrap_succ m (by omega)]
      exact ih (m + 1) _ (by omega) (by simpa using hn) hg
    · rw [if_neg hc] at hg
      refine Ev.neg hc ?_
      rw [wrap_succ m (by omega)]
      exact ih (m + 1) _ (by omega) hn hg
theorem slWays_l2 {n a : Int} (h : slope n a = true) (hv : List Int) (left : Nat) (hleft : left ≤ 6) (fixed : Int) (hf : 0 ≤ fixed ∧ fixed ≤ 1000) (v : Nat) (hv1 : (v : Int) < 1000) (wl : List Int) (hw : wl.length = left + 1) (r : Int) : ∀ (d kk : Nat) (nxt : List Int), kk + d = left + 1 → nxt.length = left + 1 →
    Ev (fun k => spec_slWays.l1 k n a hv (left : Int) (outr left fixed (upTo (bnds n a) (v : Int)) wl d kk nxt) fixed ((v + 1 : Nat) : Int)) r →
    Ev (fun k => spec_slWays.l2 k n a hv (left : Int) fixed (v : Int) nxt wl (wl.length : Int) (kk : Int)) r := by
  intro d
  induction d with
  | zero =>
    intro kk nxt hm hn hg
    refine Ev.step (fun k => ?_) hg
    rw [spec_slWays.l2, if_neg (by omega), wrap_succ v (by omega)]
    rfl
  | succ d ih =>
    intro kk nxt hm hn hg
    rw [outr] at hg
    refine Ev.step (f := ?f1) (fun k => ?h1) ?g1
    case h1 => rw [spec_slWays.l2, if_pos (by omega), if_pos (by omega), if_pos (by omega)]
    have h0 := slWays_l3 h hv left hleft fixed (rd wl (kk : Int)) hf v kk (by omega) wl r (left - kk + 1) 0 nxt (by omega) hn (ih (kk + 1) _ (by omega) (by rw [inn_length]; exact hn) hg)
    exact h0
theorem slWays_l1 {n a : Int} (h : slope n a = true) (l : List Int) (left : Nat) (hleft : left ≤ 6) (hl : l.length ≤ 6) (hv : List Int) (hhl : (hv.length : Int) = a) (hh : ∀ v : Nat, (v : Int) < a → rd hv (v : Int) = cnt (fun x => decide (x = (v : Int))) l) : ∀ (d v : Nat) (wl : List Int), (v : Int) + (d : Int) = a → wl.length = left + 1 →
    Ev (fun k => spec_slWays.l1 k n a hv (left : Int) wl (upTo l ((v : Int) - 1)) (v : Int)) (rd (dp left (fun v => upTo l (v : Int)) (fun v => upTo (bnds n a) (v : Int)) d v wl) (left : Int)) := by
  have hin := slope_in h
  intro d
  induction d with
  | zero =>
    intro v wl hd hw
    refine Ev.step (f := fun _ => some (rd wl (left : Int))) (fun k => ?_) (Ev.now _)
    rw [spec_slWays.l1, if_neg (by omega), if_pos (by omega), if_pos (by omega)]
  | succ d ih =>
    intro v wl hd hw
    have hu := upTo_in l (v : Int)
    have e1 : wrap64 (upTo l ((v : Int) - 1) + rd hv (v : Int)) = upTo l (v : Int) := by rw [hh v (by omega), upTo_step, wrap64_in _ (by omega) (by omega)]
    have e2 : wrap64 ((left : Int) + 1) = ((left + 1 : Nat) : Int) := wrap_succ left (by omega)
    rw [dp]
    have h0 := ih (v + 1) (outr left (upTo l (v : Int)) (upTo (bnds n a) (v : Int)) wl (left + 1) 0 (List.replicate (left + 1) 0)) (by omega) (by rw [outr_length]; simp)
    rw [show (((v + 1 : Nat) : Int) - 1) = (v : Int) by omega] at h0
    have h2 := slWays_l2 h hv left hleft (upTo l (v : Int)) (by omega) v (by omega) wl hw _ (left + 1) 0 (List.replicate (left + 1) 0) (by omega) (by simp) h0
    obtain ⟨u0, hu0⟩ : ∃ u, upTo l ((v : Int) - 1) = u := ⟨_, rfl⟩
    rw [hu0]
    rw [hu0] at e1
    refine Ev.step (fun k => ?_) h2
    rw [spec_slWays.l1, if_pos (by omega), if_pos (by omega), if_pos (by omega), e2, if_pos (by omega), if_pos (by omega), Int.toNat_natCast, e1]
    rfl
/-- How often each number stands in a list. -/
def hist (A : Nat) (l : List Int) : List Int := (List.range A).map fun j : Nat => cnt (fun x => decide (x = (j : Int))) l
theorem hist_length (A : Nat) (l : List Int) : (hist A l).length = A := by simp [hist]
theorem hist_get (A : Nat) (l : List Int) (j : Nat) (h : j < A) : rd (hist A l) (j : Int) = cnt (fun x => decide (x = (j : Int))) l := by
  rw [rd_nat _ j (by rw [hist_length]; exact h)]
  simp [hist]
theorem hist_snoc (A : Nat) (l : List Int) (j : Nat) (h : j < A) (hl : l.length ≤ 1099511627776) : hist A (l ++ [(j : Int)]) = (hist A l).set j (wrap64 (rd (hist A l) (j : Int) + 1)) := by
  have h2 := cnt_nonneg (fun x => decide (x = (j : Int))) l
  have h3 := cnt_le (fun x => decide (x = (j : Int))) l
  rw [hist_get A l j h, wrap64_in _ (by omega) (by omega)]
  apply List.ext_getElem
  · simp [hist]
  · intro i h1 h4
    rw [List.getElem_set]
    simp only [hist, List.getElem_map, List.getElem_range, cntD_snoc]
    by_cases hij : j = i
    · subst hij
      simp
    · rw [if_neg hij, if_neg (by simp; omega)]
      omega
theorem slWays_ev (l : List Int) {n a : Int} (h : slope n a = true) (hl : (l.length : Int) ≤ n) (hx : ∀ x ∈ l, 0 ≤ x ∧ x < a) : Ev (fun k => spec_slWays.f k l n a) (sways l n a) := by
  have hin := slope_in h
  obtain ⟨A, rfl⟩ := Int.eq_ofNat_of_zero_le (show 0 ≤ a by omega)
  obtain ⟨left, hleft⟩ : ∃ left : Nat, left = n.toNat - l.length := ⟨_, rfl⟩
  have e1 : wrap64 (n - (l.length : Int)) = (left : Int) := by rw [wrap64_in _ (by omega) (by omega)]; omega
  have e2 : wrap64 ((left : Int) + 1) = ((left + 1 : Nat) : Int) := wrap_succ left (by omega)
  have first : ∀ (d i : Nat), i + d = l.length → Ev (fun k => spec_slWays.l0 k l n (A : Int) (hist A (l.take i)) l (l.length : Int) (i : Int)) (sways l n (A : Int)) := by
    intro d
    induction d with
    | zero =>
      intro i hi
      refine Ev.step (f := ?f1) (fun k => ?h1) ?g1
      case h1 => rw [spec_slWays.l0, if_neg (by omega), e1, e2, if_pos (by omega), if_pos (by omega), Int.toNat_natCast]
      refine Ev.bindc rfl (Ev.pos (by simp) ?_)
      rw [List.take_of_length_le (by omega)]
      have h0 := slWays_l1 h l left (by omega) (by omega) (hist A l) (by rw [hist_length]) (fun v hv => hist_get A l v (by omega)) A 0 (1 :: List.replicate left 0) (by omega) (by simp)
      have e3 : upTo l (((0 : Nat) : Int) - 1) = 0 := upTo_low l (fun x hx2 => (hx x hx2).1)
      rw [e3] at h0
      unfold sways
      rw [← hleft, Int.toNat_natCast]
      exact h0
    | succ d ih =>
      intro i hi
      have h1 : i < l.length := by omega
      have hb := hx l[i] (List.getElem_mem h1)
      obtain ⟨j, hj⟩ := Int.eq_ofNat_of_zero_le hb.1
      have h2 := ih (i + 1) (by omega)
      rw [List.take_succ_eq_append_getElem h1, hj, hist_snoc A (l.take i) j (by omega) (by simp; omega)] at h2
      refine Ev.step (fun k => ?_) h2
      rw [spec_slWays.l0, if_pos (by omega), if_pos (by omega), if_pos (by omega), rd_nat l i h1, hj, if_pos (by omega), if_pos (by rw [hist_length]; omega), Int.toNat_natCast, wrap_succ i (by omega)]
  unfold spec_slWays.f
  refine Ev.pos (by omega) (Ev.pos (by omega) ?_)
  have h0 := first l.length 0 (by omega)
  have e4 : hist A (l.take 0) = List.replicate ((A : Int)).toNat 0 := by
    apply List.ext_getElem
    · simp [hist]
    · intro i h1 h2
      simp [hist, cnt]
  rwa [e4] at h0

/-! ### the program's table -/
end Go.Proofs.Ytibmphdbkhchdaa.Plain
