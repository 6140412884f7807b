/- The pure statement of the law FnSlopeWalks: whatever is drawn, the law's tests hold. No condition beside the row's own. -/
import Derived.Test.YtajcjlflajfdkaaPAllx1
import Derived.Test.YtajcjlflajfdkaaPAllx3
import Derived.Test.YtajcjlflajfdkaaPAllx5
import Derived.Test.YtajcjlflajfdkaaPAllx6
import Derived.Test.YtajcjlflajfdkaaPAllx7
import Derived.Test.YtajcjlflajfdkaaBaseDs
import Derived.Test.YtajcjlflajfdkaaBaseSa
import Derived.Test.YtajcjlflajfdkaaBaseSw
import Derived.Test.YtajcjlflajfdkaaBaseWs
namespace Go.Proofs.Ytajcjlflajfdkaa.Pure
open Go.RowKit Go.Proofs.YtajcjlflajfdkaaW.PrintWords Go.Proofs.YtajcjlflajfdkaaW.PrintLast Go.Proofs.Ytajcjlflajfdkaa.Hand Go.Proofs.Ytajcjlflajfdkaa.PAll Go.Proofs.Ytajcjlflajfdkaa.Plain
set_option linter.unusedVariables false
namespace Walks
open AllSlopeWalks
/-! ### The draws -/
theorem slanted_draw {code : List Int} (hc : Bytes code) : ∃ r, Ev (fun k => spec_l1Cur_slanted.f k code 0 0) r := by
  obtain ⟨⟨n, a, at_, s⟩, hr, h0, h1⟩ := slope_draw hc
  dsimp only at h0 h1
  have hi := slIs_ev n a
  unfold spec_l1Cur_slanted.f
  cases h : slope n a with
  | false =>
    rw [h] at hi
    obtain ⟨r, hp, _⟩ := park_at hc at_ s (by omega) 6 (by decide)
    exact ⟨_, Ev.bind hr (Ev.bind hi (Ev.neg (by decide) (Ev.bind hp (Ev.now _))))⟩
  | true =>
    rw [h] at hi
    have hin := slope_in h
    have hp := SpecAt.slPower_ev h
    have hall := SpecAt.all_in h
    have hpos : 0 < SpecAt.all n a := by unfold SpecAt.all; exact Int.pow_pos (by omega)
    obtain ⟨x, a2, s2, e2, hx0, hx1, hb0, hb1⟩ := pick_ok hc at_ s (SpecAt.all n a) (by omega) (by omega)
    obtain ⟨l, hl, hn⟩ := SpecAt.at_ev h x hx0 (hx1 (by omega))
    obtain ⟨b, a3, s3, e3, hc0, hc1⟩ := one_ok hc a2 s2 8 (by omega) (by decide)
    cases b with
    | true =>
      obtain ⟨y, a4, s4, e4, hy0, hy1, hd0, hd1⟩ := pick_ok hc a3 s3 n (by omega) (by omega)
      obtain ⟨z, a5, s5, e5, _⟩ := pick_ok hc a4 s4 (a + 2) (by omega) (by omega)
      have hy := hy1 (by omega)
      refine ⟨(l.set y.toNat (wrap64 (z - 1)), a, a5, s5), Ev.bind hr (Ev.bind hi (Ev.pos rfl ?_))⟩
      dsimp only
      rw [wrap64_in (n - 1) (by omega) (by omega), wrap64_in (a + 2) (by omega) (by omega)]
      exact Ev.bind hp (Ev.bindc e2 (Ev.bind hl (Ev.bindc e3 (Ev.pos rfl (Ev.bindc e4 (Ev.bindc e5 (Ev.pos hy0 (Ev.pos (by dsimp only; omega) (Ev.now _)))))))))
    | false =>
      refine ⟨(l, a, a3, s3), Ev.bind hr (Ev.bind hi (Ev.pos rfl ?_))⟩
      dsimp only
      rw [wrap64_in (n - 1) (by omega) (by omega)]
      exact Ev.bind hp (Ev.bindc e2 (Ev.bind hl (Ev.bindc e3 (Ev.neg (by simp) (Ev.now _)))))
theorem drawWalk {code : List Int} (hc : Bytes code) : ∃ r, Ev (fun k => spec_DrawTurnSlopeWalk.f k code) r := by
  obtain ⟨⟨l, a, at_, s⟩, hr⟩ := slanted_draw hc
  have hg := slGood_ev l a
  unfold spec_DrawTurnSlopeWalk.f spec_l1Cur_slantedWalk.f
  cases h : slp l a with
  | false =>
    rw [h] at hg
    exact ⟨(l, a), Ev.bind (a := (l, a, at_, s)) (Ev.bind hr (Ev.bind hg (Ev.neg (by decide) (Ev.now _)))) (Ev.now _)⟩
  | true =>
    rw [h] at hg
    have hl := slp_length h
    exact ⟨(srt l, a), Ev.bind (a := (srt l, a, at_, s)) (Ev.bind hr (Ev.bind hg (Ev.pos rfl (Ev.bind (paSorted_ev l (by omega)) (Ev.now _))))) (Ev.now _)⟩
theorem drawAll {code : List Int} (hc : Bytes code) : ∃ r, Ev (fun k => spec_DrawAllSlopeWalks.f k code) r := by
  obtain ⟨r, hr, _⟩ := slope_draw hc
  exact ⟨_, Ev.bind hr (Ev.now _)⟩
/-! ### Levels -/
theorem wHas_l0 (l : List Int) (x : Int) (hs : l.length ≤ 1000000) (hx : x ∉ l) : ∀ (d n : Nat), n + d = l.length → Ev (fun k => laws_wHas.l0 k x l (l.length : Int) (n : Int)) false := by
  intro d
  induction d with
  | zero =>
    intro n hn
    refine Ev.step (f := fun _ => some false) (fun k => ?_) (Ev.now _)
    rw [laws_wHas.l0, if_neg (by omega)]
  | succ d ih =>
    intro n hn
    have h1 : n < l.length := by omega
    refine Ev.step (fun k => ?_) (ih (n + 1) (by omega))
    rw [laws_wHas.l0, if_pos (by omega), if_pos (by omega), if_pos (by omega), rd_nat l n h1, if_neg (fun e : l[n] = x => hx (e ▸ List.getElem_mem h1)), wrap_succ n (by omega)]
theorem levels_l0 (L : List Int) (hs : L.length ≤ 1000000) (h0 : ∀ x ∈ L, 0 ≤ x) (hd : L.Nodup) : ∀ (d n : Nat), n + d = L.length → Ev (fun k => laws_FnSlopeWalks.l0 k L L (L.length : Int) (n : Int)) true := by
  intro d
  induction d with
  | zero =>
    intro n hn
    refine Ev.step (f := fun _ => some true) (fun k => ?_) (Ev.now _)
    rw [laws_FnSlopeWalks.l0, if_neg (by omega)]
  | succ d ih =>
    intro n hn
    have h1 : n < L.length := by omega
    have hx := h0 _ (List.getElem_mem h1)
    have hni : L[n] ∉ L.take n := by
      have h2 : (L.take (n + 1)).Nodup := hd.sublist (List.take_sublist _ _)
      rw [List.take_succ_eq_append_getElem h1, List.nodup_append] at h2
      intro hm
      exact h2.2.2 _ hm _ List.mem_cons_self rfl
    have hw := wHas_l0 (L.take n) L[n] (by rw [List.length_take]; omega) hni (L.take n).length 0 (by omega)
    refine Ev.step (f := ?f1) (fun k => ?h1) ?g1
    case h1 => rw [laws_FnSlopeWalks.l0, if_pos (by omega), if_pos (by omega), if_pos (by omega), rd_nat L n h1, if_neg (by omega), if_pos (by omega), Int.toNat_natCast, wrap_succ n (by omega)]
    exact Ev.bind (a := false) hw (Ev.neg (by decide) (ih (n + 1) (by omega)))
theorem j3_ev (L : List Int) (hs : L.length ≤ 1000000) (h0 : ∀ x ∈ L, 0 ≤ x) (hd : L.Nodup) : Ev (fun k => laws_FnSlopeWalks.j3 k L) true := by
  refine Ev.step (fun k => ?_) (levels_l0 L hs h0 hd L.length 0 (by omega))
  rw [laws_FnSlopeWalks.j3]
  rfl
theorem lev_ok (l : List Int) (a : Int) : (LevelsOfWalk.res l a).1.length ≤ 1000000 ∧ (∀ x ∈ (LevelsOfWalk.res l a).1, 0 ≤ x) ∧ (LevelsOfWalk.res l a).1.Nodup := by
  have hl := LevelsOfWalk.res_length l a
  refine ⟨by omega, ?_⟩
  unfold LevelsOfWalk.res
  cases h : slw l a with
  | false => rw [if_neg (by decide)]; simp
  | true =>
    rw [if_pos rfl]
    have hin := slope_in (slp_slope (slw_slp h))
    obtain ⟨A, rfl⟩ := Int.eq_ofNat_of_zero_le (show 0 ≤ a by omega)
    have hk := (walks_ok h).1
    unfold okL at hk
    rw [Bool.and_eq_true, List.all_eq_true, decide_eq_true_eq] at hk
    exact ⟨fun x hx => of_decide_eq_true (hk.1 x hx), hk.2⟩
/-! ### The turn -/
theorem j2_ev (l : List Int) (a : Int) : Ev (fun k => laws_FnSlopeWalks.j2 k l a (TurnSlopeWalk.res l a).1 (TurnSlopeWalk.res l a).2 (LevelsOfWalk.res l a).1 false) true := by
  have hlev := lev_ok l a
  have hj3 := j3_ev _ hlev.1 hlev.2.1 hlev.2.2
  by_cases h : slw l a = true ∧ slope a (l.length : Int) = true
  · have hin := slope_in (slp_slope (slw_slp h.1))
    have hin2 := slope_in h.2
    obtain ⟨A, rfl⟩ := Int.eq_ofNat_of_zero_le (show 0 ≤ a by omega)
    have hk := (walks_ok h.1).2 h.2
    unfold okT at hk
    rw [Bool.and_eq_true, Bool.and_eq_true, Bool.and_eq_true, Bool.and_eq_true, decide_eq_true_eq, List.all_eq_true, decide_eq_true_eq, decide_eq_true_eq] at hk
    obtain ⟨⟨⟨⟨k1, k2⟩, k3⟩, k4⟩, k5⟩ := hk
    have htl : (TurnSlopeWalk.tsw l (A : Int) A).length = A := TurnSlopeWalk.tsw_length _ _ _
    have hsw := slw_of h.2 (TurnSlopeWalk.tsw l (A : Int) A) htl k1 (fun x hx => of_decide_eq_true (k2 x hx)) k3
    have hr : TurnSlopeWalk.res l (A : Int) = (TurnSlopeWalk.tsw l (A : Int) A, true) := by
      unfold TurnSlopeWalk.res
      rw [if_pos h, Int.toNat_natCast]
    have hb := TurnSlopeWalk.impl_ev (TurnSlopeWalk.tsw l (A : Int) A) (l.length : Int)
    have hbr : TurnSlopeWalk.res (TurnSlopeWalk.tsw l (A : Int) A) (l.length : Int) = (l, true) := by
      unfold TurnSlopeWalk.res
      rw [if_pos ⟨hsw, by rw [htl]; exact slp_slope (slw_slp h.1)⟩, Int.toNat_natCast, k4]
    rw [hbr] at hb
    have ha1 := SlopeArea.impl_ev l (A : Int)
    have ha2 := SlopeArea.impl_ev (TurnSlopeWalk.tsw l (A : Int) A) (l.length : Int)
    have e1 : SlopeArea.res l (A : Int) = (wrap64 (SlopeArea.sumW 0 (bnds (l.length : Int) (A : Int)) - SlopeArea.sumW 0 l), true) := by
      unfold SlopeArea.res
      rw [if_pos (slw_slp h.1)]
    have e2 : SlopeArea.res (TurnSlopeWalk.tsw l (A : Int) A) (l.length : Int) = (wrap64 (SlopeArea.sumW 0 (bnds (l.length : Int) (A : Int)) - SlopeArea.sumW 0 l), true) := by
      unfold SlopeArea.res
      rw [if_pos (slw_slp hsw), htl, ← k5]
    rw [e1] at ha1
    rw [e2] at ha2
    rw [hr]
    refine Ev.step (f := ?f1) (fun k => ?h1) ?g1
    case h1 => rw [laws_FnSlopeWalks.j2, if_neg (by decide), if_pos rfl]
    exact Ev.bind hb (Ev.bind ha1 (Ev.bind ha2 (Ev.pos rfl (Ev.pos rfl (Ev.pos rfl (Ev.bind (wSame_ev l (by omega)) (Ev.pos rfl (Ev.pos rfl hj3))))))))
  · have hr : TurnSlopeWalk.res l a = ([], false) := by
      unfold TurnSlopeWalk.res
      rw [if_neg h]
    rw [hr]
    refine Ev.step (fun k => ?_) hj3
    rw [laws_FnSlopeWalks.j2, if_neg (by decide), if_neg (by decide)]
theorem j1_ev {x1 : List Int} (hb : Bytes x1) : Ev (fun k => laws_FnSlopeWalks.j1 k x1) true := by
  obtain ⟨⟨l, a⟩, hd⟩ := drawWalk hb
  have h1 := TurnSlopeWalk.res_length l a
  have h2 := LevelsOfWalk.res_length l a
  refine Ev.step (f := ?f1) (fun k => ?h1) ?g1
  case h1 => rw [laws_FnSlopeWalks.j1]
  refine Ev.bind hd (Ev.bind (TurnSlopeWalk.impl_ev l a) (Ev.bind (TurnSlopeWalk.spec_ev l a) (Ev.bind (LevelsOfWalk.impl_ev l a) (Ev.bind (LevelsOfWalk.spec_ev l a) (Ev.neg (by simp) (Ev.bind (wSame_ev _ (by omega)) (Ev.pos rfl (Ev.neg (by simp) (Ev.bind (wSame_ev _ (by omega)) ?_)))))))))
  exact j2_ev l a
/-! ### Counting -/
theorem count_ev {n A : Nat} (h : slope (n : Int) (A : Int) = true) : Ev (fun k => impl_CountSlopeWalks.f k (n : Int) (A : Int)) (((V (bnds (n : Int) (A : Int)) n []).length : Int), true) ∧ Ev (fun k => spec_CountSlopeWalks.f k (n : Int) (A : Int)) (((V (bnds (n : Int) (A : Int)) n []).length : Int), true) := by
  have hin := slope_in h
  have e1 : ((n - 1 : Nat) : Int) + 1 = (n : Int) := by omega
  have e2 : ((A - 1 : Nat) : Int) + 1 = (A : Int) := by omega
  have hm := many_eq ⟨n - 1, by omega⟩ ⟨A - 1, by omega⟩
  have hf := many_fin ⟨n - 1, by omega⟩ ⟨A - 1, by omega⟩
  simp only [e1, e2, show n - 1 + 1 = n by omega] at hm hf
  have hm := hm h
  obtain ⟨hf1, hf2⟩ := hf h
  obtain ⟨c, hc⟩ := Option.ne_none_iff_exists'.1 hf2
  rw [hc, Option.map_some, hm] at hf1
  injection hf1 with hf1
  injection hf1 with hf1 _
  have hs := slIs_ev (n : Int) (A : Int)
  rw [h] at hs
  have h2 : Ev (fun k => spec_slWalks.f k (n : Int) (A : Int)) ((V (bnds (n : Int) (A : Int)) n []).length : Int) := by
    rw [hf1]
    exact Ev.of (k := 60) (fun k => spec_slWalks.mono _ _ k) hc
  refine ⟨Ev.of (k := 60) (fun k => impl_CountSlopeWalks.mono _ _ k) hm, ?_⟩
  unfold spec_CountSlopeWalks.f
  exact Ev.bind hs (Ev.pos rfl (Ev.bind h2 (Ev.now _)))
theorem count_no {n a : Int} (h : slope n a = false) : Ev (fun k => impl_CountSlopeWalks.f k n a) (0, false) ∧ Ev (fun k => spec_CountSlopeWalks.f k n a) (0, false) := by
  have h1 := slIs_ev n a
  have h2 := isSlope_ev n a
  rw [h] at h1 h2
  unfold impl_CountSlopeWalks.f spec_CountSlopeWalks.f
  exact ⟨Ev.bind h2 (Ev.neg (by decide) (Ev.now _)), Ev.bind h1 (Ev.neg (by decide) (Ev.now _))⟩
theorem same {n A : Nat} (h : slope (n : Int) (A : Int) = true) (h2 : slope (A : Int) (n : Int) = true) : (V (bnds (A : Int) (n : Int)) A []).length = (V (bnds (n : Int) (A : Int)) n []).length := by
  have hin := slope_in h
  have hin2 := slope_in h2
  have e1 : ((n - 1 : Nat) : Int) + 1 = (n : Int) := by omega
  have e2 : ((A - 1 : Nat) : Int) + 1 = (A : Int) := by omega
  have ha := many_eq ⟨n - 1, by omega⟩ ⟨A - 1, by omega⟩
  have hb := many_eq ⟨A - 1, by omega⟩ ⟨n - 1, by omega⟩
  have hc := many_same ⟨n - 1, by omega⟩ ⟨A - 1, by omega⟩
  simp only [e1, e2, show n - 1 + 1 = n by omega, show A - 1 + 1 = A by omega] at ha hb hc
  have hc := hc h h2
  rw [ha h, hb h2] at hc
  injection hc with hc
  injection hc with hc _
  omega
theorem j0_no {x1 : List Int} (hb : Bytes x1) (x5 x6 x11 : Int) : Ev (fun k => laws_FnSlopeWalks.j0 k x1 x5 x6 x11 false false) true := by
  refine Ev.step (fun k => ?_) (j1_ev hb)
  rw [laws_FnSlopeWalks.j0, if_neg (by decide), if_neg (by decide)]
theorem j0_yes {x1 : List Int} (hb : Bytes x1) {n A : Nat} (h : slope (n : Int) (A : Int) = true) : Ev (fun k => laws_FnSlopeWalks.j0 k x1 (n : Int) (A : Int) ((V (bnds (n : Int) (A : Int)) n []).length : Int) true false) true := by
  refine Ev.step (f := ?f1) (fun k => ?h1) ?g1
  case h1 => rw [laws_FnSlopeWalks.j0, if_neg (by decide), if_pos rfl]
  cases h2 : slope (A : Int) (n : Int) with
  | false => exact Ev.bind (count_no h2).1 (Ev.neg (by decide) (j1_ev hb))
  | true =>
    have hc := (count_ev h2).1
    rw [same h h2] at hc
    exact Ev.bind hc (Ev.pos rfl (Ev.pos rfl (j1_ev hb)))
end Walks
open Walks AllSlopeWalks in
theorem FnSlopeWalks : laws_FnSlopeWalks.Pure := by
  intro l0 l1 _ _ hw0 _ _ hw1
  refine Ev.rounds ?_
  have hb0 := bytes_of hw0
  have hb1 := bytes_of hw1
  unfold laws_FnSlopeWalks.f laws_big.f
  by_cases hb : (l0.length : Int) > 1048576
  · rw [if_pos hb]
    exact Ev.bindc rfl (Ev.pos rfl (Ev.now _))
  rw [if_neg hb]
  refine Ev.bindc rfl ?_
  by_cases hb2 : decide ((l1.length : Int) > wrap64 (1048576 - (l0.length : Int))) = true
  · exact Ev.pos hb2 (Ev.now _)
  refine Ev.neg hb2 ?_
  obtain ⟨⟨n, a⟩, hd⟩ := Walks.drawAll hb0
  obtain ⟨ws, ok, ⟨g1, g2, g3, g4⟩, g5⟩ := both2 n a
  refine Ev.bind hd (Ev.bind g4 (Ev.bind g3 ?_))
  have hws := wSameLists_ev ws g1 (fun x hx => by have := g2 x hx; omega)
  cases h : slope n a with
  | false =>
    have hok : ok = false := by
      cases ok with
      | false => rfl
      | true =>
        obtain ⟨N, A, rfl, rfl, hs, _⟩ := g5 rfl
        rw [hs] at h
        cases h
    subst hok
    have hc := Walks.count_no h
    refine Ev.bind hc.1 (Ev.bind hc.2 (Ev.neg (by simp) (Ev.bind hws (Ev.pos rfl (Ev.neg (by simp) (Ev.pos rfl (Ev.neg (by simp) ?_)))))))
    exact j0_no hb1 _ _ _
  | true =>
    have hin := slope_in h
    obtain ⟨N, rfl⟩ := Int.eq_ofNat_of_zero_le (show 0 ≤ n by omega)
    obtain ⟨A, rfl⟩ := Int.eq_ofNat_of_zero_le (show 0 ≤ a by omega)
    have hc := Walks.count_ev h
    refine Ev.bind hc.1 (Ev.bind hc.2 (Ev.neg (by simp) (Ev.bind hws (Ev.pos rfl (Ev.neg (by simp) (Ev.pos rfl ?_))))))
    cases ok with
    | false => exact Ev.neg (by simp) (j0_yes hb1 h)
    | true =>
      obtain ⟨N', A', e1, e2, _, hw⟩ := g5 rfl
      have e1 : N = N' := by omega
      have e2 : A = A' := by omega
      subst e1 e2
      subst hw
      refine Ev.pos rfl ?_
      dsimp only
      rw [bne_self_eq_false]
      exact j0_yes hb1 h
end Go.Proofs.Ytajcjlflajfdkaa.Pure
