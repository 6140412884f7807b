/- The pure statement of the law FnSlopesCounted: whatever is drawn, the law's tests hold. No condition beside the row's own. -/
import Derived.Test.YtpcioeakogildaaPAllx1
import Derived.Test.YtpcioeakogildaaPAllx3
import Derived.Test.YtpcioeakogildaaPAllx4
import Derived.Test.YtpcioeakogildaaPAllx5
import Derived.Test.YtpcioeakogildaaPAllx6
import Derived.Test.YtpcioeakogildaaBaseDr
import Derived.Test.YtpcioeakogildaaBaseEn
import Derived.Test.YtpcioeakogildaaPureFnExactSlopeAt
import Derived.Test.YtpcioeakogildaaPureFnExactIsSlopeParking
namespace Go.Proofs.Ytpcioeakogildaa.Pure
open Go.RowKit Go.Proofs.YtpcioeakogildaaW.PrintWords Go.Proofs.YtpcioeakogildaaW.PrintLast Go.Proofs.Ytpcioeakogildaa.Hand Go.Proofs.Ytpcioeakogildaa.PAll Go.Proofs.Ytpcioeakogildaa.Plain
set_option linter.unusedVariables false
namespace Slopes
open AllSlope
/-! ### The law's helpers -/
theorem wSame_l0 (l : List Int) (hs : l.length ≤ 1000000) : ∀ (d n : Nat), n + d = l.length → Ev (fun k => laws_wSame.l0 k l l (l.length : Int) (n : Int)) true := by
  intro d
  induction d with
  | zero =>
    intro n hn
    refine Ev.step (f := fun _ => some true) (fun k => ?_) (Ev.now _)
    rw [laws_wSame.l0, if_neg (by omega)]
  | succ d ih =>
    intro n hn
    refine Ev.step (fun k => ?_) (ih (n + 1) (by omega))
    rw [laws_wSame.l0, if_pos (by omega), if_pos (by omega), if_pos (by omega), if_pos (by omega), if_pos rfl, wrap_succ n (by omega)]
theorem wSame_ev (l : List Int) (hs : l.length ≤ 1000000) : Ev (fun k => laws_wSame.f k l l) true := by
  unfold laws_wSame.f
  exact Ev.pos rfl (wSame_l0 l hs l.length 0 (by omega))
theorem rd2_nat (L : List (List Int)) (i : Nat) (h : i < L.length) : rd_L2 L (i : Int) = L[i] := by
  unfold rd_L2
  rw [Int.toNat_natCast, List.getD_eq_getElem?_getD, List.getElem?_eq_getElem h]
  rfl
theorem wSameLists_l0 (L : List (List Int)) (hs : L.length ≤ 1000000) (hr : ∀ x ∈ L, x.length ≤ 1000000) : ∀ (d n : Nat), n + d = L.length → Ev (fun k => laws_wSameLists.l0 k L L (L.length : Int) (n : Int)) true := by
  intro d
  induction d with
  | zero =>
    intro n hn
    refine Ev.step (f := fun _ => some true) (fun k => ?_) (Ev.now _)
    rw [laws_wSameLists.l0, if_neg (by omega)]
  | succ d ih =>
    intro n hn
    have hlt : n < L.length := by omega
    refine Ev.step (f := ?f1) (fun k => ?h1) ?g1
    case h1 => rw [laws_wSameLists.l0, if_pos (by omega), if_pos (by omega), if_pos (by omega), if_pos (by omega), rd2_nat L n hlt, wrap_succ n (by omega)]
    exact Ev.bind (wSame_ev _ (hr _ (List.getElem_mem hlt))) (Ev.pos rfl (ih (n + 1) (by omega)))
theorem wSameLists_ev (L : List (List Int)) (hs : L.length ≤ 1000000) (hr : ∀ x ∈ L, x.length ≤ 1000000) : Ev (fun k => laws_wSameLists.f k L L) true := by
  unfold laws_wSameLists.f
  exact Ev.pos rfl (wSameLists_l0 L hs hr L.length 0 (by omega))
theorem wLess_l0 (l m : List Int) (hl : l.length = m.length) (hs : l.length ≤ 1000000) : ∀ (d n : Nat), n + d = l.length → Ev (fun k => laws_wLess.l0 k l m (l.length : Int) (n : Int)) (lx (l.drop n) (m.drop n)) := by
  intro d
  induction d with
  | zero =>
    intro n hn
    rw [List.drop_eq_nil_of_le (by omega), List.drop_eq_nil_of_le (by omega)]
    refine Ev.step (f := fun _ => some false) (fun k => ?_) (Ev.now _)
    rw [laws_wLess.l0, if_neg (by omega)]
  | succ d ih =>
    intro n hn
    have h1 : n < l.length := by omega
    have h2 : n < m.length := by omega
    rw [List.drop_eq_getElem_cons h1, List.drop_eq_getElem_cons h2, lx]
    by_cases e : l[n] = m[n]
    · rw [if_pos e]
      refine Ev.step (fun k => ?_) (ih (n + 1) (by omega))
      rw [laws_wLess.l0, if_pos (by omega), if_pos (by omega), if_pos (by omega), if_pos (by omega), rd_nat l n h1, rd_nat m n h2, if_pos e, wrap_succ n (by omega)]
    · rw [if_neg e]
      refine Ev.step (f := fun _ => some (decide (l[n] < m[n]))) (fun k => ?_) (Ev.now _)
      rw [laws_wLess.l0, if_pos (by omega), if_pos (by omega), if_pos (by omega), if_pos (by omega), rd_nat l n h1, rd_nat m n h2, if_neg e]
theorem wLess_ev (l m : List Int) (hl : l.length = m.length) (hs : l.length ≤ 1000000) : Ev (fun k => laws_wLess.f k l m) (lx l m) := by
  have h := wLess_l0 l m hl hs l.length 0 (by omega)
  rw [List.drop_zero, List.drop_zero] at h
  exact h
theorem Ev_one {α : Type} {g : Nat → Option α} {a b : α} (h1 : Ev g a) (h2 : Ev g b) : a = b := by
  obtain ⟨k1, e1⟩ := h1
  obtain ⟨k2, e2⟩ := h2
  have h3 := e1 (k1 + k2) (by omega)
  have h4 := e2 (k1 + k2) (by omega)
  rw [h3] at h4
  injection h4
/-! ### The draws -/
def seek (n : Int) : Nat → Int → Option Int
  | 0, _ => none
  | d + 1, a => if slope n a = true then some a else seek n d (Int.tmod a 13 + 1)
theorem seek_fin : ∀ n : Fin 5, ∀ a : Fin 13, (seek ((n.1 : Int) + 1) 14 ((a.1 : Int) + 1)).isSome = true := by decide +kernel
theorem slope_end {code : List Int} (hc : Bytes code) {n a : Int} (h : slope n a = true) (at_ seed : Int) (ha : 0 ≤ at_ ∧ at_ ≤ 100000) : ∃ r, Ev (fun k => spec_l1Cur_slope.l0 k n a code at_ seed) r ∧ 0 ≤ r.2.2.1 ∧ r.2.2.1 ≤ 200000 := by
  have hs := slIs_ev n a
  rw [h] at hs
  obtain ⟨p, at2, s, e, hp0, hp1, hb0, hb1⟩ := pick_ok hc at_ seed 12 (by omega) (by decide)
  have hstep : ∀ {β : Int × Int × Int × Int} , (Ev (fun k => if p = 0 then ((spec_l1Cur_among.f code at2 s (([(-1), 0, 6, 7] : List Int))).bind fun bt127 => (some (bt127.1, a, bt127.2.1, bt127.2.2))) else (if p = 1 then ((spec_l1Cur_among.f code at2 s (([(-1), 0, 1, 13, 14, n] : List Int))).bind fun bt133 => (some (n, bt133.1, bt133.2.1, bt133.2.2))) else (some (n, a, at2, s)))) β) → Ev (fun k => spec_l1Cur_slope.l0 k n a code at_ seed) β := by
    intro β hβ
    refine Ev.step (f := ?f1) (fun k => ?h1) ?g1
    case h1 => rw [spec_l1Cur_slope.l0, e, Option.bind_some]
    exact Ev.bind hs (Ev.pos rfl hβ)
  by_cases h0 : p = 0
  · obtain ⟨x, at3, s3, e3, _, hc0, hc1⟩ := among_ok hc at2 s [(-1), 0, 6, 7] (by simp) (by simp) (by omega)
    exact ⟨(x, a, at3, s3), hstep (Ev.pos h0 (Ev.bindc e3 (Ev.now _))), by dsimp only; omega, by dsimp only; omega⟩
  · by_cases h1 : p = 1
    · obtain ⟨x, at3, s3, e3, _, hc0, hc1⟩ := among_ok hc at2 s [(-1), 0, 1, 13, 14, n] (by simp) (by simp) (by omega)
      exact ⟨(n, x, at3, s3), hstep (Ev.neg h0 (Ev.pos h1 (Ev.bindc e3 (Ev.now _)))), by dsimp only; omega, by dsimp only; omega⟩
    · exact ⟨(n, a, at2, s), hstep (Ev.neg h0 (Ev.neg h1 (Ev.now _))), by dsimp only; omega, by dsimp only; omega⟩
theorem slope_seek {code : List Int} (hc : Bytes code) (n at_ seed : Int) (ha : 0 ≤ at_ ∧ at_ ≤ 100000) : ∀ (d : Nat) (a : Int), 0 ≤ a ∧ a ≤ 13 → (seek n d a).isSome = true → ∃ r, Ev (fun k => spec_l1Cur_slope.l0 k n a code at_ seed) r ∧ 0 ≤ r.2.2.1 ∧ r.2.2.1 ≤ 200000 := by
  intro d
  induction d with
  | zero => intro a _ h; cases h
  | succ d ih =>
    intro a hin h
    rw [seek] at h
    cases hs : slope n a with
    | true => exact slope_end hc hs at_ seed ha
    | false =>
      rw [hs, if_neg (by decide)] at h
      have hm : 0 ≤ Int.tmod a 13 ∧ Int.tmod a 13 ≤ 12 := by rw [Int.tmod_eq_emod_of_nonneg hin.1]; omega
      obtain ⟨r, hr, h1, h2⟩ := ih (Int.tmod a 13 + 1) (by omega) h
      have hi := slIs_ev n a
      rw [hs] at hi
      refine ⟨r, Ev.step (f := ?f1) (fun k => ?h1) ?g1, h1, h2⟩
      case h1 => rw [spec_l1Cur_slope.l0, wrap64_in _ (by omega) (by omega)]
      exact Ev.bind hi (Ev.neg (by decide) hr)
theorem slope_draw {code : List Int} (hc : Bytes code) : ∃ r, Ev (fun k => spec_l1Cur_slope.f k code 0 0) r ∧ 0 ≤ r.2.2.1 ∧ r.2.2.1 ≤ 200000 := by
  obtain ⟨x, at1, s1, e1, hx0, hx1, ha0, ha1⟩ := pick_ok hc 0 0 5 (by decide) (by decide)
  obtain ⟨y, at2, s2, e2, hy0, hy1, hb0, hb1⟩ := pick_ok hc at1 s1 13 (by omega) (by decide)
  have hx := hx1 (by decide)
  have hy := hy1 (by decide)
  have hf := seek_fin ⟨x.toNat, by omega⟩ ⟨y.toNat, by omega⟩
  dsimp only at hf
  rw [show ((x.toNat : Nat) : Int) + 1 = 1 + x by omega, show ((y.toNat : Nat) : Int) + 1 = 1 + y by omega] at hf
  obtain ⟨r, hr, h1, h2⟩ := slope_seek hc (1 + x) at2 s2 (by omega) 14 (1 + y) (by omega) hf
  refine ⟨r, ?_, h1, h2⟩
  unfold spec_l1Cur_slope.f
  refine Ev.bindc e1 (Ev.bindc e2 ?_)
  dsimp only
  rw [wrap64_in (1 + x) (by omega) (by omega), wrap64_in (1 + y) (by omega) (by omega)]
  exact hr
theorem drawAt {code : List Int} (hc : Bytes code) : ∃ r, Ev (fun k => spec_DrawSlopeAt.f k code) r := by
  obtain ⟨⟨n, a, at_, s⟩, hr, h0, h1⟩ := slope_draw hc
  dsimp only at h0 h1
  have hi := slIs_ev n a
  unfold spec_DrawSlopeAt.f
  cases h : slope n a with
  | false =>
    rw [h] at hi
    obtain ⟨x, a2, s2, e2, _⟩ := pick_ok hc at_ s 3 (by omega) (by decide)
    exact ⟨(n, a, x), Ev.bind hr (Ev.bind hi (Ev.neg (by decide) (Ev.bindc e2 (Ev.now _))))⟩
  | true =>
    rw [h] at hi
    have hin := slope_in h
    have hp := SlopeAt.slPower_ev h
    have hall := SlopeAt.all_in h
    obtain ⟨b, a2, s2, e2, hb0, hb1⟩ := one_ok hc at_ s 6 (by omega) (by decide)
    cases b with
    | true =>
      obtain ⟨x, a3, s3, e3, _⟩ := among_ok hc a2 s2 [(-1), 0, wrap64 (SlopeAt.all n a - 1), SlopeAt.all n a] (by simp) (by simp) (by omega)
      refine ⟨(n, a, x), Ev.bind hr (Ev.bind hi (Ev.pos rfl ?_))⟩
      dsimp only
      rw [wrap64_in (n - 1) (by omega) (by omega)]
      exact Ev.bind hp (Ev.bindc e2 (Ev.pos rfl (Ev.bindc e3 (Ev.now _))))
    | false =>
      obtain ⟨x, a3, s3, e3, _⟩ := pick_ok hc a2 s2 (SlopeAt.all n a) (by omega) (by omega)
      refine ⟨(n, a, x), Ev.bind hr (Ev.bind hi (Ev.pos rfl ?_))⟩
      dsimp only
      rw [wrap64_in (n - 1) (by omega) (by omega)]
      exact Ev.bind hp (Ev.bindc e2 (Ev.neg (by simp) (Ev.bindc e3 (Ev.now _))))
theorem drawAll {code : List Int} (hc : Bytes code) : ∃ r, Ev (fun k => spec_DrawAllSlope.f k code) r := by
  obtain ⟨r, hr, _⟩ := slope_draw hc
  exact ⟨_, Ev.bind hr (Ev.now _)⟩
/-! ### The functions -/
theorem len_eq {n A : Nat} (h : slope (n : Int) (A : Int) = true) : SlopeAt.all (n : Int) (A : Int) = ((enumS A n []).length : Int) := by
  rw [← all_eq h]
  unfold SlopeAt.all
  congr 1
  have := slope_in h
  omega
theorem count_ev {n A : Nat} (h : slope (n : Int) (A : Int) = true) : Ev (fun k => impl_CountSlope.f k (n : Int) (A : Int)) (((enumS A n []).length : Int), true) ∧ Ev (fun k => spec_CountSlope.f k (n : Int) (A : Int)) (((enumS A n []).length : Int), true) := by
  have hin := slope_in h
  have h1 := slIs_ev (n : Int) (A : Int)
  have h2 := isSlope_ev (n : Int) (A : Int)
  rw [h] at h1 h2
  have hs := SlopeAt.slPower_ev h
  have hi := SlopeAt.power_ev h
  rw [len_eq h] at hs hi
  unfold impl_CountSlope.f spec_CountSlope.f
  rw [wrap64_in _ (by omega) (by omega)]
  exact ⟨Ev.bind h2 (Ev.pos rfl (Ev.bind hi (Ev.now _))), Ev.bind h1 (Ev.pos rfl (Ev.bind hs (Ev.now _)))⟩
theorem count_no {n a : Int} (h : slope n a = false) : Ev (fun k => impl_CountSlope.f k n a) (0, false) ∧ Ev (fun k => spec_CountSlope.f k n a) (0, false) := by
  have h1 := slIs_ev n a
  have h2 := isSlope_ev n a
  rw [h] at h1 h2
  unfold impl_CountSlope.f spec_CountSlope.f
  exact ⟨Ev.bind h2 (Ev.neg (by decide) (Ev.now _)), Ev.bind h1 (Ev.neg (by decide) (Ev.now _))⟩
theorem at_yes {n A : Nat} (h : slope (n : Int) (A : Int) = true) (r : Nat) (q : List Int) (hq : (enumS A n [])[r]? = some q) : Ev (fun k => impl_SlopeAt.f k (n : Int) (A : Int) (r : Int)) (q, true) := by
  have hlt : r < (enumS A n []).length := (List.getElem?_eq_some_iff.1 hq).1
  have hle := enumS_le h n [] (by simp) (fun x hx => by cases hx)
  unfold impl_SlopeAt.f
  refine Ev.bind (count_ev h).1 (Ev.pos rfl ?_)
  dsimp only
  rw [wrap64_in _ (by omega) (by omega)]
  refine Ev.bindc (between_eq _ _ _) ?_
  rw [decide_eq_true (by omega)]
  refine Ev.pos rfl (Ev.bind (a := q) ?_ (Ev.now _))
  unfold impl_slopeAt.f
  exact at_ev h q n [] r (by simp) (fun x hx => by cases hx) hq
theorem at_no {n A : Nat} (h : slope (n : Int) (A : Int) = true) (r : Int) (hr : ¬ (0 ≤ r ∧ r < ((enumS A n []).length : Int))) : Ev (fun k => impl_SlopeAt.f k (n : Int) (A : Int) r) (([] : List Int), false) := by
  have hle := enumS_le h n [] (by simp) (fun x hx => by cases hx)
  unfold impl_SlopeAt.f
  refine Ev.bind (count_ev h).1 (Ev.pos rfl ?_)
  dsimp only
  rw [wrap64_in _ (by omega) (by omega)]
  refine Ev.bindc (between_eq _ _ _) ?_
  rw [decide_eq_false (by omega)]
  exact Ev.neg (by decide) (Ev.now _)
theorem at_none {n a : Int} (h : slope n a = false) (r : Int) : Ev (fun k => impl_SlopeAt.f k n a r) (([] : List Int), false) := by
  unfold impl_SlopeAt.f
  exact Ev.bind (count_no h).1 (Ev.neg (by decide) (Ev.now _))
theorem len_of {n A : Nat} {r : Nat} {q : List Int} (hq : (enumS A n [])[r]? = some q) : q.length = n := by
  obtain ⟨_, t, e, ht, _⟩ := enumS_mem A n [] q (List.mem_of_getElem? hq)
  rw [e]
  simpa using ht
theorem less_ev {n A : Nat} (h : slope (n : Int) (A : Int) = true) {r s : Nat} {q u : List Int} (hq : (enumS A n [])[r]? = some q) (hu : (enumS A n [])[s]? = some u) (hrs : r < s) : Ev (fun k => laws_wLess.f k q u) true := by
  have hin := slope_in h
  have h1 := wLess_ev q u (by rw [len_of hq, len_of hu]) (by rw [len_of hq]; omega)
  rw [enumS_up A n [] r s q u hq hu hrs] at h1
  exact h1
/-! ### The whole -/
theorem j4_yes {n A : Nat} (h : slope (n : Int) (A : Int) = true) (r : Nat) (q : List Int) (hq : (enumS A n [])[r]? = some q) : Ev (fun k => laws_FnSlopesCounted.j4 k (n : Int) (A : Int) (r : Int) q true ((enumS A n []).length : Int)) true := by
  have hlt : r < (enumS A n []).length := (List.getElem?_eq_some_iff.1 hq).1
  have hle := enumS_le h n [] (by simp) (fun x hx => by cases hx)
  have hr := RankSlope.impl_ev q (A : Int)
  rw [rank_ev h r q hq] at hr
  refine Ev.step (f := ?f1) (fun k => ?h1) ?g1
  case h1 => rw [laws_FnSlopesCounted.j4, if_pos rfl, wrap_succ r (by omega)]
  refine Ev.bind hr ?_
  by_cases hn : r + 1 < (enumS A n []).length
  · have hu := List.getElem?_eq_getElem hn
    have ha := at_yes h (r + 1) _ hu
    refine Ev.bind ha (Ev.pos rfl (Ev.pos rfl ?_))
    rw [decide_eq_true (by omega)]
    exact Ev.pos rfl (Ev.pos rfl (Ev.bind (less_ev h hq hu (by omega)) (Ev.now _)))
  · have ha := at_no h ((r + 1 : Nat) : Int) (by omega)
    refine Ev.bind ha (Ev.pos rfl (Ev.pos rfl ?_))
    rw [decide_eq_false (by omega)]
    exact Ev.pos rfl (Ev.neg (by simp) (Ev.now _))
theorem j4_no (x5 x6 x7 x12 : Int) (x8 : List Int) : Ev (fun k => laws_FnSlopesCounted.j4 k x5 x6 x7 x8 false x12) true := by
  refine Ev.step (f := fun _ => some true) (fun k => ?_) (Ev.now _)
  rw [laws_FnSlopesCounted.j4, if_neg (by decide)]
theorem law_l0 (x0 x1 : List Int) (h0 : x0.length ≤ 1048576) (h1 : x1.length ≤ 1048576) (x5 x6 x7 x12 : Int) (x8 : List Int) (x9 : Bool) (hj : Ev (fun k => laws_FnSlopesCounted.j4 k x5 x6 x7 x8 x9 x12) true)
    {n A : Nat} (h : slope (n : Int) (A : Int) = true) (hpos : 0 < (enumS A n []).length) : ∀ (d i : Nat), i + d = (enumS A n []).length →
    Ev (fun k => laws_FnSlopesCounted.l0 k x0 x1 x5 x6 x7 x8 x9 x12 (A : Int) (enumS A n []) (enumS A n []) ((enumS A n []).length : Int) (i : Int)) true := by
  have hle := enumS_le h n [] (by simp) (fun x hx => by cases hx)
  intro d
  induction d with
  | zero =>
    intro i hi
    obtain ⟨m, hm⟩ : ∃ m : Nat, Int.tmod (wrap64 ((x0.length : Int) + (x1.length : Int))) ((enumS A n []).length : Int) = (m : Int) ∧ m < (enumS A n []).length := by
      rw [wrap64_in _ (by omega) (by omega), Int.tmod_eq_emod_of_nonneg (by omega)]
      have ha := Int.emod_nonneg ((x0.length : Int) + (x1.length : Int)) (b := ((enumS A n []).length : Int)) (by omega)
      have hb := Int.emod_lt_of_pos ((x0.length : Int) + (x1.length : Int)) (b := ((enumS A n []).length : Int)) (by omega)
      exact ⟨(((x0.length : Int) + (x1.length : Int)) % ((enumS A n []).length : Int)).toNat, by omega, by omega⟩
    have hr := RankSlope.impl_ev (enumS A n [])[m] (A : Int)
    rw [rank_ev h m _ (List.getElem?_eq_getElem hm.2)] at hr
    refine Ev.step (f := ?f1) (fun k => ?h1) ?g1
    case h1 => rw [laws_FnSlopesCounted.l0, if_neg (by omega), if_neg (by omega), hm.1, if_pos (by omega), if_pos (by omega), rd2_nat _ m hm.2]
    exact Ev.bind hr (Ev.pos rfl (Ev.pos rfl hj))
  | succ d ih =>
    intro i hi
    have hlt : i < (enumS A n []).length := by omega
    have hq := List.getElem?_eq_getElem hlt
    have hm := enumS_mem A n [] _ (List.mem_of_getElem? hq)
    have hs := IsSlopeParking.impl_ev (enumS A n [])[i] (A : Int)
    have hres : IsSlopeParking.res (enumS A n [])[i] (A : Int) = (true, true) := by
      unfold IsSlopeParking.res
      have hsl := hm.1
      rw [if_pos (slp_slope hsl)]
      unfold slp at hsl
      rw [Bool.and_eq_true] at hsl
      rw [hsl.2]
    rw [hres] at hs
    have hn := ih (i + 1) (by omega)
    by_cases hi0 : i = 0
    · subst hi0
      refine Ev.step (f := ?f2) (fun k => ?h2) ?g2
      case h2 => rw [laws_FnSlopesCounted.l0, if_pos (by omega), if_pos (by omega), if_pos (by omega), rd2_nat _ _ hlt, wrap_succ _ (by omega)]
      exact Ev.bind hs (Ev.pos rfl (Ev.pos rfl (Ev.neg (by decide) hn)))
    · have hp : i - 1 < (enumS A n []).length := by omega
      have hless := less_ev h (List.getElem?_eq_getElem hp) hq (by omega)
      refine Ev.step (f := ?f3) (fun k => ?h3) ?g3
      case h3 => rw [laws_FnSlopesCounted.l0, if_pos (by omega), if_pos (by omega), if_pos (by omega), rd2_nat _ _ hlt, wrap_succ _ (by omega), wrap64_in ((i : Int) - 1) (by omega) (by omega), show (i : Int) - 1 = ((i - 1 : Nat) : Int) by omega, rd2_nat _ _ hp]
      exact Ev.bind hs (Ev.pos rfl (Ev.pos rfl (Ev.pos (by omega) (Ev.pos (by omega) (Ev.pos (by omega) (Ev.bind hless (Ev.pos rfl hn)))))))
theorem j0_ev {x0 x1 : List Int} (hb : Bytes x1) (h0 : x0.length ≤ 1048576) (h1 : x1.length ≤ 1048576) (x5 x6 x7 x12 : Int) (x8 : List Int) (x9 : Bool) (hj : Ev (fun k => laws_FnSlopesCounted.j4 k x5 x6 x7 x8 x9 x12) true) :
    Ev (fun k => laws_FnSlopesCounted.j0 k x0 x1 x5 x6 x7 x8 x9 x12 false) true := by
  obtain ⟨⟨m, w⟩, hd⟩ := drawAll hb
  obtain ⟨ws, ok, ⟨g1, g2, g3, g4⟩, g5⟩ := both2 m w
  refine Ev.step (f := ?f1) (fun k => ?h1) ?g1
  case h1 => rw [laws_FnSlopesCounted.j0, if_neg (by decide)]
  refine Ev.bind hd (Ev.bind g4 (Ev.bind g3 (Ev.neg (by simp) (Ev.bind (wSameLists_ev ws g1 (fun x hx => by have := g2 x hx; omega)) ?_))))
  cases ok with
  | false =>
    refine Ev.step (fun k => ?_) hj
    rw [laws_FnSlopesCounted.j1, if_neg (by decide), if_neg (by simp)]
  | true =>
    obtain ⟨n, A, rfl, rfl, h, rfl⟩ := g5 rfl
    have hpos : 0 < (enumS A n []).length := by
      have h2 := all_eq h
      have hin := slope_in h
      have h3 : 0 < (A : Int) ^ (n - 1) := Int.pow_pos (by omega)
      omega
    refine Ev.step (f := ?f2) (fun k => ?h2) ?g2
    case h2 => rw [laws_FnSlopesCounted.j1, if_neg (by decide), if_pos rfl]
    refine Ev.bind (count_ev h).1 (Ev.pos rfl ?_)
    rw [bne_self_eq_false]
    refine Ev.step (f := ?f3) (fun k => ?h3) ?g3
    case h3 => rw [laws_FnSlopesCounted.j2, if_neg (by decide)]
    exact law_l0 x0 x1 h0 h1 x5 x6 x7 x12 x8 x9 hj h hpos (enumS A n []).length 0 (by omega)
end Slopes
open Slopes AllSlope in
theorem FnSlopesCounted : laws_FnSlopesCounted.Pure := by
  intro l0 l1 _ _ hw0 _ _ hw1
  refine Ev.rounds ?_
  have hb0 := bytes_of hw0
  have hb1 := bytes_of hw1
  unfold laws_FnSlopesCounted.f laws_big.f
  by_cases hb : (l0.length : Int) > 1048576
  · rw [if_pos hb]
    exact Ev.bindc rfl (Ev.pos rfl (Ev.now _))
  rw [if_neg hb]
  refine Ev.bindc rfl ?_
  by_cases hb2 : decide ((l1.length : Int) > wrap64 (1048576 - (l0.length : Int))) = true
  · exact Ev.pos hb2 (Ev.now _)
  refine Ev.neg hb2 ?_
  rw [wrap64_in _ (by omega) (by omega)] at hb2
  have hl1 : l1.length ≤ 1048576 := by
    have := of_decide_eq_false (Bool.eq_false_iff.2 hb2)
    omega
  obtain ⟨⟨n, a, r⟩, hd⟩ := drawAt hb0
  obtain ⟨s, hs1, hs2, hs3⟩ := SlopeAt.both n a r
  have hi := isSlope_ev n a
  have hI : Ev (fun k => impl_IsSlope.f k n a) (slope n a) := by
    unfold impl_IsSlope.f
    exact Ev.bind hi (Ev.now _)
  refine Ev.bind hd ?_
  cases h : slope n a with
  | false =>
    rw [h] at hI
    have e := Ev_one hs2 (at_none h r)
    subst e
    have hc := count_no h
    refine Ev.bind hs2 (Ev.bind hs1 (Ev.bind hc.1 (Ev.bind hc.2 (Ev.neg (by simp) (Ev.bind (wSame_ev [] (by simp)) (Ev.pos rfl (Ev.neg (by simp) (Ev.pos rfl (Ev.bind hI (Ev.neg (by simp) (Ev.neg (by simp) ?_)))))))))))
    exact j0_ev hb1 (by omega) hl1 n a r 0 [] false (j4_no _ _ _ _ _)
  | true =>
    rw [h] at hI
    have hin := slope_in h
    obtain ⟨N, rfl⟩ := Int.eq_ofNat_of_zero_le (show 0 ≤ n by omega)
    obtain ⟨A, rfl⟩ := Int.eq_ofNat_of_zero_le (show 0 ≤ a by omega)
    have hc := count_ev h
    have hf : ∀ (x : Bool), Ev (fun k => laws_FnSlopesCounted.j0 k l0 l1 (N : Int) (A : Int) r s.1 s.2 ((enumS A N []).length : Int) x) true → Ev (fun k => laws_FnSlopesCounted.j0 k l0 l1 (N : Int) (A : Int) r s.1 s.2 ((enumS A N []).length : Int) x) true := fun _ h => h
    refine Ev.bind hs2 (Ev.bind hs1 (Ev.bind hc.1 (Ev.bind hc.2 (Ev.neg (by simp) (Ev.bind (wSame_ev s.1 (by omega)) (Ev.pos rfl (Ev.neg (by simp) (Ev.pos rfl (Ev.bind hI (Ev.neg (by simp) (Ev.pos rfl ?_)))))))))))
    by_cases hr : 0 ≤ r ∧ r < ((enumS A N []).length : Int)
    · obtain ⟨R, rfl⟩ := Int.eq_ofNat_of_zero_le hr.1
      have hR : R < (enumS A N []).length := by omega
      have hq := List.getElem?_eq_getElem hR
      have e := Ev_one hs2 (at_yes h R _ hq)
      subst e
      refine Ev.pos hr.1 ?_
      dsimp only
      rw [decide_eq_true hr.2, bne_self_eq_false]
      exact j0_ev hb1 (by omega) hl1 _ _ _ _ _ true (j4_yes h R _ hq)
    · have e := Ev_one hs2 (at_no h r hr)
      subst e
      by_cases h0 : r ≥ 0
      · refine Ev.pos h0 ?_
        dsimp only
        rw [decide_eq_false (by omega), bne_self_eq_false]
        exact j0_ev hb1 (by omega) hl1 _ _ _ _ _ false (j4_no _ _ _ _ _)
      · refine Ev.neg h0 ?_
        dsimp only
        rw [bne_self_eq_false]
        exact j0_ev hb1 (by omega) hl1 _ _ _ _ _ false (j4_no _ _ _ _ _)
end Go.Proofs.Ytpcioeakogildaa.Pure
