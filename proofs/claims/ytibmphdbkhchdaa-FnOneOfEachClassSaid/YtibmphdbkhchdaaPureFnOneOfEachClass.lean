/- The pure statement of the law FnOneOfEachClass: whatever is drawn, the law's tests hold. No condition beside the row's own. -/
import Derived.Test.YtibmphdbkhchdaaPAllx1
import Derived.Test.YtibmphdbkhchdaaPAllx4
import Derived.Test.YtibmphdbkhchdaaPAllx5
import Derived.Test.YtibmphdbkhchdaaPAllx6
import Derived.Test.YtibmphdbkhchdaaBaseDs
import Derived.Test.YtibmphdbkhchdaaBaseSa
import Derived.Test.YtibmphdbkhchdaaBaseWs
import Derived.Test.YtibmphdbkhchdaaBaseUt
import Derived.Test.YtibmphdbkhchdaaPureFnExactTurnToSlope
import Derived.Test.YtibmphdbkhchdaaPureFnExactIsSlopeParking
import Derived.Test.YtibmphdbkhchdaaPureFnExactUsualOf
namespace Go.Proofs.Ytibmphdbkhchdaa.Pure
open Go.RowKit Go.Proofs.YtibmphdbkhchdaaW.PrintWords Go.Proofs.YtibmphdbkhchdaaW.PrintLast Go.Proofs.Ytibmphdbkhchdaa.Hand Go.Proofs.Ytibmphdbkhchdaa.PAll Go.Proofs.Ytibmphdbkhchdaa.Plain
set_option linter.unusedVariables false
namespace OneClass
/-! ### The circle -/
theorem free_ex (P : Nat) (out : List Int) (h : out.length < P) : ∃ f : Int, 0 ≤ f ∧ f < (P : Int) ∧ f ∉ out := by
  refine Classical.byContradiction fun hn => ?_
  have h1 : ∀ x ∈ iota 0 P, x ∈ out := fun x hx => Classical.byContradiction fun hx2 => hn ⟨x, ((iota_mem _ _).1 hx).1, ((iota_mem _ _).1 hx).2, hx2⟩
  have h2 := nodup_len (iota 0 P) out (iota_nodup P) h1
  rw [iota_length] at h2
  omega
theorem dc_l1 (P : Nat) (hP2 : 2 ≤ P) (hP : P ≤ 1000) (out l : List Int) (i : Int) (R : List Int) (ho : out.length ≤ 1000) : ∀ (d : Nat) (x : Int), 0 ≤ x ∧ x < (P : Int) → nfC (P : Int) out d x ∉ out →
    Ev (fun k => impl_driveCircle.l0 k (P : Int) (taken P (out ++ [nfC (P : Int) out d x])) (out ++ [nfC (P : Int) out d x]) l (l.length : Int) (wrap64 (i + 1))) R →
    Ev (fun k => impl_driveCircle.l1 k (P : Int) (taken P out) out x l (l.length : Int) i) R := by
  intro d
  have last : ∀ x : Int, 0 ≤ x ∧ x < (P : Int) → x ∉ out → Ev (fun k => impl_driveCircle.l0 k (P : Int) (taken P (out ++ [x])) (out ++ [x]) l (l.length : Int) (wrap64 (i + 1))) R → Ev (fun k => impl_driveCircle.l1 k (P : Int) (taken P out) out x l (l.length : Int) i) R := by
    intro x hx hm h
    rw [← taken_set P out x hx.1 hx.2] at h
    refine Ev.step (fun k => ?_) h
    rw [impl_driveCircle.l1, if_pos hx.1, if_pos (by rw [taken_length]; exact hx.2), taken_at P out x hx.1 hx.2, decide_eq_false hm, if_neg (by decide), if_pos (by omega)]
  induction d with
  | zero => intro x hx hm h; exact last x hx hm h
  | succ d ih =>
    intro x hx hm h
    rw [nfC] at hm h
    by_cases hc : x ∈ out
    · rw [if_pos hc] at hm h
      have h1 : Int.tmod (x + 1) (P : Int) = if x + 1 < (P : Int) then x + 1 else x + 1 - (P : Int) := turn_one hx (by omega)
      have hx' : 0 ≤ Int.tmod (x + 1) (P : Int) ∧ Int.tmod (x + 1) (P : Int) < (P : Int) := by rw [h1]; split <;> omega
      refine Ev.step (fun k => ?_) (ih (Int.tmod (x + 1) (P : Int)) hx' hm h)
      rw [impl_driveCircle.l1, if_pos hx.1, if_pos (by rw [taken_length]; exact hx.2), taken_at P out x hx.1 hx.2, decide_eq_true hc, if_pos rfl, if_neg (by omega), wrap64_in (x + 1) (by omega) (by omega)]
    · rw [if_neg hc] at hm h
      exact last x hx hm h
theorem dc_l0 (P : Nat) (hP : P ≤ 1000) (l : List Int) (hl : ∀ x ∈ l, 0 ≤ x ∧ x < (P : Int)) (hlen : l.length < P) : ∀ (d i : Nat) (out : List Int), i + d = l.length → out.length = i →
    Ev (fun k => impl_driveCircle.l0 k (P : Int) (taken P out) out l (l.length : Int) (i : Int)) (cdrive (P : Int) out (l.drop i)) := by
  intro d
  induction d with
  | zero =>
    intro i out hi ho
    rw [List.drop_eq_nil_of_le (by omega), cdrive]
    refine Ev.step (f := fun _ => some out) (fun k => ?_) (Ev.now _)
    rw [impl_driveCircle.l0, if_neg (by omega)]
  | succ d ih =>
    intro i out hi ho
    have hlt : i < l.length := by omega
    have hx := hl _ (List.getElem_mem hlt)
    obtain ⟨f, hf0, hf1, hfo⟩ := free_ex P out (by omega)
    have hro : 0 ≤ rot (P : Int) f l[i] := by rw [rot_eq ⟨hf0, hf1⟩ hx]; split <;> omega
    obtain ⟨a, b, _⟩ := nfC_path ⟨hf0, hf1⟩ out hfo (P : Int).toNat l[i] hx (by omega)
    have hn := ih (i + 1) (out ++ [nfC (P : Int) out (P : Int).toNat l[i]]) (by omega) (by simp; omega)
    rw [List.drop_eq_getElem_cons hlt, cdrive]
    refine Ev.step (f := ?f1) (fun k => ?h1) ?g1
    case h1 => rw [impl_driveCircle.l0, if_pos (by omega), if_pos (by omega), if_pos (by omega), rd_nat l i hlt]
    refine dc_l1 P (by omega) hP out l (i : Int) _ (by omega) (P : Int).toNat l[i] hx a ?_
    rw [wrap_succ i (by omega)]
    exact hn
theorem drive_ev' (l : List Int) (h8 : l.length ≤ 8) (hl : ∀ x ∈ l, 0 ≤ x ∧ x < (l.length : Int) + 1) : Ev (fun k => impl_driveCircle.f k l ((l.length : Int) + 1)) (cdrive ((l.length : Int) + 1) [] l) := by
  have h := dc_l0 (l.length + 1) (by omega) l (fun x hx => by have := hl x hx; omega) (by omega) l.length 0 [] (by omega) rfl
  have e : taken (l.length + 1) [] = List.replicate (l.length + 1) false := by
    refine List.ext_getElem (by simp [taken_length]) (fun i h1 h2 => ?_)
    simp [taken]
  rw [e, List.drop_zero] at h
  unfold impl_driveCircle.f
  refine Ev.pos (by omega) (Ev.pos (by omega) ?_)
  have e2 : ((l.length : Int) + 1).toNat = l.length + 1 := by omega
  have e3 : ((l.length + 1 : Nat) : Int) = (l.length : Int) + 1 := by omega
  rw [e2, ← e3]
  exact h
theorem index_l0 (l : List Int) (x : Int) (hs : l.length ≤ 1000) : ∀ (d n : Nat), n + d = l.length → (x ∉ l.take n) → ∃ r : Int, Ev (fun k => slices_Index_int_int.l0 k l x (l.length : Int) (n : Int)) r ∧ (decide (r ≥ 0) = decide (x ∈ l)) := by
  intro d
  induction d with
  | zero =>
    intro n hn hx
    rw [List.take_of_length_le (by omega)] at hx
    refine ⟨-1, Ev.step (f := fun _ => some (-1)) (fun k => ?_) (Ev.now _), by rw [decide_eq_false hx]; rfl⟩
    rw [slices_Index_int_int.l0, if_neg (by omega)]
  | succ d ih =>
    intro n hn hx
    have h1 : n < l.length := by omega
    by_cases e : x = l[n]
    · refine ⟨(n : Int), Ev.step (f := fun _ => some (n : Int)) (fun k => ?_) (Ev.now _), by rw [decide_eq_true (show (n : Int) ≥ 0 by omega), decide_eq_true (by rw [e]; exact List.getElem_mem h1)]⟩
      rw [slices_Index_int_int.l0, if_pos (by omega), if_pos (by omega), if_pos (by omega), rd_nat l n h1, if_pos e]
    · obtain ⟨r, hr, hd⟩ := ih (n + 1) (by omega) (by
        rw [List.take_succ_eq_append_getElem h1, List.mem_append, List.mem_singleton]
        exact fun h => h.elim hx e)
      refine ⟨r, Ev.step (fun k => ?_) hr, hd⟩
      rw [slices_Index_int_int.l0, if_pos (by omega), if_pos (by omega), if_pos (by omega), rd_nat l n h1, if_neg e, wrap_succ n (by omega)]
theorem has_ev (l : List Int) (x : Int) (hs : l.length ≤ 1000) : Ev (fun k => slices_Contains_int_int.f k l x) (decide (x ∈ l)) := by
  obtain ⟨r, hr, hd⟩ := index_l0 l x hs l.length 0 (by omega) (by simp)
  unfold slices_Contains_int_int.f slices_Index_int_int.f
  refine Ev.bind hr (Ev.const ?_)
  rw [hd]
theorem free_l0 (out : List Int) (hs : out.length ≤ 1000) (P : Nat) (hP : P ≤ 1000) : ∀ (d i : Nat), i + d = P → (∃ f : Int, (i : Int) ≤ f ∧ f < (P : Int) ∧ f ∉ out) → ∃ f : Int, (i : Int) ≤ f ∧ f < (P : Int) ∧ f ∉ out ∧ Ev (fun k => impl_freeOnCircle.l0 k out (i : Int)) f := by
  intro d
  induction d with
  | zero => rintro i hi ⟨f, h1, h2, _⟩; omega
  | succ d ih =>
    rintro i hi ⟨f, h1, h2, h3⟩
    have hh := has_ev out (i : Int) hs
    by_cases hm : (i : Int) ∈ out
    · rw [decide_eq_true hm] at hh
      have hne : f ≠ (i : Int) := fun e => h3 (e ▸ hm)
      obtain ⟨g, g1, g2, g3, g4⟩ := ih (i + 1) (by omega) ⟨f, by omega, h2, h3⟩
      refine ⟨g, by omega, g2, g3, Ev.step (f := ?f1) (fun k => ?h1) ?g1⟩
      case h1 => rw [impl_freeOnCircle.l0, wrap_succ i (by omega)]
      exact Ev.bind hh (Ev.pos rfl g4)
    · rw [decide_eq_false hm] at hh
      refine ⟨(i : Int), Int.le_refl _, by omega, hm, Ev.step (f := ?f2) (fun k => ?h2) ?g2⟩
      case h2 => rw [impl_freeOnCircle.l0]
      exact Ev.bind hh (Ev.neg (by decide) (Ev.now _))
theorem class_ev {l : List Int} (hs : slope (l.length : Int) ((l.length : Int) + 1) = true) (hl : ∀ x ∈ l, 0 ≤ x ∧ x < (l.length : Int) + 1) {b : Int} (hb : 0 ≤ b ∧ b < (l.length : Int) + 1) (hu : under (turned l ((l.length : Int) + 1) b) ((l.length : Int) + 1) = true) :
    Ev (fun k => impl_ParkingOfClass.f k l) (turned l ((l.length : Int) + 1) b, b, true) := by
  have hin := slope_in hs
  have hcl : (cdrive ((l.length : Int) + 1) [] l).length = l.length := by rw [cdrive_length]; simp
  obtain ⟨f0, h1, h2, h3⟩ := free_ex (l.length + 1) (cdrive ((l.length : Int) + 1) [] l) (by omega)
  obtain ⟨f, g1, g2, g3, g4⟩ := free_l0 (cdrive ((l.length : Int) + 1) [] l) (by omega) (l.length + 1) (by omega) (l.length + 1) 0 (by omega) ⟨f0, by omega, h2, h3⟩
  have hbf : b = (l.length : Int) - f := turn_one_only hs hl hb (by omega) hu (circle_under hs hl (by omega) g3)
  have hc : impl_isCircle.f l = some true := by
    unfold impl_isCircle.f impl_isCars.f
    rw [between_eq, decide_eq_true (by omega)]
    have e : impl_areBetween.f l 0 (l.length : Int) = some (l.all fun x => decide (0 ≤ x ∧ x ≤ (l.length : Int))) := rfl
    have e2 : (l.all fun x => decide (0 ≤ x ∧ x ≤ (l.length : Int))) = true := List.all_eq_true.2 fun x hx => decide_eq_true (by have := hl x hx; omega)
    rw [e, e2]
    rfl
  have hd := drive_ev' l (by omega) hl
  have ht := TurnToSlope.turn_ev l ((l.length : Int) + 1) b (by omega) hb hl (by omega)
  have hf : Ev (fun k => impl_freeOnCircle.f k l) f := by
    unfold impl_freeOnCircle.f
    rw [wrap64_in _ (by omega) (by omega)]
    exact Ev.bind hd g4
  unfold impl_ParkingOfClass.f
  refine Ev.bindc hc (Ev.pos rfl (Ev.bind hf ?_))
  rw [wrap64_in ((l.length : Int) + 1) (by omega) (by omega), wrap64_in ((l.length : Int) - f) (by omega) (by omega), ← hbf]
  exact Ev.bind ht (Ev.now _)
/-! ### The draws -/
theorem most_eq (x y : Int) : spec_l1Most.f x y = some (if x > y then x else y) := by
  unfold spec_l1Most.f
  split <;> rfl
theorem least_eq (x y : Int) : spec_l1Least.f x y = some (if x < y then x else y) := by
  unfold spec_l1Least.f
  split <;> rfl
theorem list_draw {code : List Int} (hc : Bytes code) (n a m c : Int) (hm : (if (if n > 0 then n else 0) < 7 then (if n > 0 then n else 0) else 7) = m) (hca : (if a > 1 then a else 1) = c) (ha : a ≤ 100) (hm7 : m ≤ 7) : ∀ (d : Nat) (l : List Int) (at_ seed : Int), d = m.toNat - l.length → l.length ≤ 7 → 0 ≤ at_ ∧ at_ + 2 * (d : Int) ≤ 1000 →
    ∃ r : List Int × Int, Ev (fun k => spec_DrawTurnToSlope.l0 k n a l code at_ seed) r := by
  intro d
  induction d with
  | zero =>
    intro l at_ seed hd hl hat
    obtain ⟨b, a2, s2, e2, hb0, hb1⟩ := one_ok hc at_ seed 10 (by omega) (by decide)
    cases b with
    | true =>
      obtain ⟨x, a3, s3, e3, _⟩ := among_ok hc a2 s2 [(-1), 0, a] (by simp) (by simp) (by omega)
      refine ⟨(l ++ [x], a), Ev.step (f := fun _ => some (l ++ [x], a)) (fun k => ?_) (Ev.now _)⟩
      rw [spec_DrawTurnToSlope.l0, most_eq, Option.bind_some, least_eq, Option.bind_some, hm, if_neg (by omega), e2, Option.bind_some]
      dsimp only
      rw [if_pos rfl, e3, Option.bind_some, if_pos (by omega)]
    | false =>
      refine ⟨(l, a), Ev.step (f := fun _ => some (l, a)) (fun k => ?_) (Ev.now _)⟩
      rw [spec_DrawTurnToSlope.l0, most_eq, Option.bind_some, least_eq, Option.bind_some, hm, if_neg (by omega), e2, Option.bind_some]
      dsimp only
      rw [if_neg (by decide)]
  | succ d ih =>
    intro l at_ seed hd hl hat
    have hc1 : 1 ≤ c ∧ c ≤ 100 := by rw [← hca]; split <;> omega
    obtain ⟨x, a2, s2, e2, _, _, hb0, hb1⟩ := pick_ok hc at_ seed c (by omega) (by omega)
    obtain ⟨r, hr⟩ := ih (l ++ [x]) a2 s2 (by simp; omega) (by simp; omega) (by omega)
    refine ⟨r, Ev.step (fun k => ?_) hr⟩
    rw [spec_DrawTurnToSlope.l0, most_eq, Option.bind_some, least_eq, Option.bind_some, hm, if_pos (by omega), most_eq, Option.bind_some, hca, e2, Option.bind_some]
    dsimp only
    rw [if_pos (by omega)]
theorem drawTurn {code : List Int} (hc : Bytes code) : ∃ r, Ev (fun k => spec_DrawTurnToSlope.f k code) r := by
  obtain ⟨⟨n, a, at_, s⟩, hr, h0, h1⟩ := slope_draw hc
  dsimp only at h0 h1
  obtain ⟨r, h⟩ := list_draw hc n a _ _ rfl rfl h1.2.2 (by split <;> omega) _ [] at_ s rfl (by simp) (by split <;> split <;> simp <;> omega)
  exact ⟨r, Ev.bind hr h⟩
theorem slanted_draw {code : List Int} (hc : Bytes code) : ∃ r, Ev (fun k => spec_l1Cur_slanted.f k code 0 0) r := by
  obtain ⟨⟨n, a, at_, s⟩, hr, h0, h1⟩ := slope_draw hc
  dsimp only at h0 h1
  have hi := slIs_ev n a
  unfold spec_l1Cur_slanted.f
  cases h : slope n a with
  | false =>
    rw [h] at hi
    obtain ⟨r, hp, _⟩ := park_at hc at_ s (by omega) 6 (by decide)
    exact ⟨_, Ev.bind hr (Ev.bind hi (Ev.neg (by decide) (Ev.bind hp (Ev.now _))))⟩
  | true =>
    rw [h] at hi
    have hin := slope_in h
    have hp := SpecAt.slPower_ev h
    have hall := SpecAt.all_in h
    have hpos : 0 < SpecAt.all n a := by unfold SpecAt.all; exact Int.pow_pos (by omega)
    obtain ⟨x, a2, s2, e2, hx0, hx1, hb0, hb1⟩ := pick_ok hc at_ s (SpecAt.all n a) (by omega) (by omega)
    obtain ⟨l, hl, hn⟩ := SpecAt.at_ev h x hx0 (hx1 (by omega))
    obtain ⟨b, a3, s3, e3, hc0, hc1⟩ := one_ok hc a2 s2 8 (by omega) (by decide)
    cases b with
    | true =>
      obtain ⟨y, a4, s4, e4, hy0, hy1, hd0, hd1⟩ := pick_ok hc a3 s3 n (by omega) (by omega)
      obtain ⟨z, a5, s5, e5, _⟩ := pick_ok hc a4 s4 (a + 2) (by omega) (by omega)
      have hy := hy1 (by omega)
      refine ⟨(l.set y.toNat (wrap64 (z - 1)), a, a5, s5), Ev.bind hr (Ev.bind hi (Ev.pos rfl ?_))⟩
      dsimp only
      rw [wrap64_in (n - 1) (by omega) (by omega), wrap64_in (a + 2) (by omega) (by omega)]
      exact Ev.bind hp (Ev.bindc e2 (Ev.bind hl (Ev.bindc e3 (Ev.pos rfl (Ev.bindc e4 (Ev.bindc e5 (Ev.pos hy0 (Ev.pos (by dsimp only; omega) (Ev.now _)))))))))
    | false =>
      refine ⟨(l, a, a3, s3), Ev.bind hr (Ev.bind hi (Ev.pos rfl ?_))⟩
      dsimp only
      rw [wrap64_in (n - 1) (by omega) (by omega)]
      exact Ev.bind hp (Ev.bindc e2 (Ev.bind hl (Ev.bindc e3 (Ev.neg (by simp) (Ev.now _)))))
/-! ### The whole -/
theorem j6_yes {l : List Int} (hs : slope (l.length : Int) ((l.length : Int) + 1) = true) (hl : ∀ x ∈ l, 0 ≤ x ∧ x < (l.length : Int) + 1) {b : Int} (hb : 0 ≤ b ∧ b < (l.length : Int) + 1) (hu : under (turned l ((l.length : Int) + 1) b) ((l.length : Int) + 1) = true) :
    Ev (fun k => laws_FnOneOfEachClass.j6 k l (turned l ((l.length : Int) + 1) b) b 1 false) true := by
  have hin := slope_in hs
  have hc := class_ev hs hl hb hu
  have htl : (turned l ((l.length : Int) + 1) b).length = l.length := turned_length _ _ _
  have hslp : slp (turned l ((l.length : Int) + 1) b) (((turned l ((l.length : Int) + 1) b).length : Int) + 1) = true := by
    unfold slp
    rw [htl, hs, hu]
    rfl
  have hU := UsualOf.impl_ev (turned l ((l.length : Int) + 1) b) (by omega)
  have e : UsualOf.res (turned l ((l.length : Int) + 1) b) = (turned l ((l.length : Int) + 1) b, true) := by unfold UsualOf.res; rw [if_pos hslp]
  rw [e] at hU
  have hp := UsualOf.parking_of hslp
  have hip := isParking_ev (turned l ((l.length : Int) + 1) b)
  rw [hp] at hip
  have hcars : impl_areCars.f (turned l ((l.length : Int) + 1) b) = some true := by
    rw [areCars_eq, decide_eq_true (by omega), Bool.true_and]
    congr 1
    exact List.all_eq_true.2 fun x hx => decide_eq_true (by have := parking_in hp x hx; omega)
  have hw : Ev (fun k => laws_wParking.f k (turned l ((l.length : Int) + 1) b)) true := by
    unfold laws_wParking.f impl_IsParking.f
    exact Ev.bind (a := (true, true)) (Ev.bindc hcars (Ev.pos rfl (Ev.bind hip (Ev.now _)))) (Ev.pos rfl (Ev.now _))
  have hws := wSame_ev (turned l ((l.length : Int) + 1) b) (by omega)
  refine Ev.step (f := ?f1) (fun k => ?h1) ?g1
  case h1 => rw [laws_FnOneOfEachClass.j6, if_neg (by decide)]
  exact Ev.bind hc (Ev.bind hU (Ev.pos rfl (Ev.pos rfl (Ev.bind hws (Ev.pos rfl (Ev.pos rfl (Ev.bind hws (Ev.pos rfl (Ev.bind hw (Ev.now _))))))))))
theorem l1_ev {l : List Int} {a : Int} (hs : slope (l.length : Int) a = true) (hl : ∀ x ∈ l, 0 ≤ x ∧ x < a) (o : List Int) (by_ found k_ : Int) (hk : 0 ≤ k_ ∧ k_ < a) (R : Bool) (next : Ev (fun k => laws_FnOneOfEachClass.j5 k l a o by_ found k_ (under (turned l a k_) a) (under (turned l a k_) a != (k_ == by_))) R) : ∀ (d i : Nat), i + d = l.length →
    Ev (fun k => laws_FnOneOfEachClass.l1 k l a o by_ found k_ ((turned l a k_).take i) l (l.length : Int) (i : Int)) R := by
  have hin := slope_in hs
  have htl : (turned l a k_).length = l.length := turned_length _ _ _
  intro d
  induction d with
  | zero =>
    intro i hi
    obtain rfl : i = l.length := by omega
    rw [List.take_of_length_le (by omega)]
    have h := IsSlopeParking.impl_ev (turned l a k_) a
    have e : IsSlopeParking.res (turned l a k_) a = (under (turned l a k_) a, true) := by unfold IsSlopeParking.res; rw [htl, if_pos hs]
    rw [e] at h
    refine Ev.step (f := ?f1) (fun k => ?h1) ?g1
    case h1 => rw [laws_FnOneOfEachClass.l1, if_neg (by omega)]
    exact Ev.bind h (Ev.pos rfl next)
  | succ d ih =>
    intro i hi
    have hlt : i < l.length := by omega
    have hx := hl _ (List.getElem_mem hlt)
    have h := ih (i + 1) (by omega)
    rw [List.take_succ_eq_append_getElem (by omega)] at h
    have e : (turned l a k_)[i]'(by omega) = Int.tmod (l[i] + k_) a := by simp [turned]
    rw [e] at h
    refine Ev.step (fun k => ?_) h
    rw [laws_FnOneOfEachClass.l1, if_pos (by omega), if_pos (by omega), if_pos (by omega), if_neg (by omega), if_pos (by rw [List.length_take]; omega), rd_nat l i hlt, wrap64_in (l[i] + k_) (by omega) (by omega), wrap_succ i (by omega)]
theorem l0_ev {l : List Int} {a b : Int} (hs : slope (l.length : Int) a = true) (hl : ∀ x ∈ l, 0 ≤ x ∧ x < a) (hb : 0 ≤ b ∧ b < a) (hu : under (turned l a b) a = true) : ∀ (d k_ : Nat), (k_ : Int) + (d : Int) = a →
    Ev (fun k => laws_FnOneOfEachClass.l0 k l a (turned l a b) b (if b < (k_ : Int) then 1 else 0) (k_ : Int)) true := by
  have hin := slope_in hs
  intro d
  induction d with
  | zero =>
    intro k_ hk
    have e1 : (if b < (k_ : Int) then (1 : Int) else 0) = 1 := if_pos (by omega)
    rw [e1]
    by_cases e : a = (l.length : Int) + 1
    · subst e
      refine Ev.step (fun k => ?_) (j6_yes hs hl hb hu)
      rw [laws_FnOneOfEachClass.l0, if_neg (by omega), if_pos rfl, wrap64_in _ (by omega) (by omega), bne_self_eq_false]
    · have e2 : (a != (l.length : Int) + 1) = true := by simpa using e
      refine Ev.step (f := fun k => laws_FnOneOfEachClass.j6 k l (turned l a b) b 1 true) (fun k => ?_) (Ev.step (f := fun _ => some true) (fun k => ?_) (Ev.now _))
      · rw [laws_FnOneOfEachClass.l0, if_neg (by omega), if_pos rfl, wrap64_in _ (by omega) (by omega), e2]
      · rw [laws_FnOneOfEachClass.j6, if_pos rfl]
        rfl
  | succ d ih =>
    intro k_ hk
    have hn := ih (k_ + 1) (by omega)
    have hkk : under (turned l a (k_ : Int)) a = decide ((k_ : Int) = b) := by
      by_cases e : (k_ : Int) = b
      · rw [e, hu, decide_eq_true rfl]
      · rw [decide_eq_false e]
        exact Bool.eq_false_iff.2 fun h => e (turn_one_only hs hl (by omega) hb h hu)
    have hbeq : ((k_ : Int) == b) = decide ((k_ : Int) = b) := by
      by_cases e : (k_ : Int) = b
      · rw [decide_eq_true e]; simpa using e
      · rw [decide_eq_false e]; simpa using e
    refine Ev.step (f := ?f1) (fun k => ?h1) ?g1
    case h1 => rw [laws_FnOneOfEachClass.l0, if_pos (by omega)]
    refine l1_ev hs hl (turned l a b) b (if b < (k_ : Int) then 1 else 0) (k_ : Int) (by omega) true ?_ l.length 0 (by omega)
    rw [hkk, hbeq, bne_self_eq_false]
    by_cases e : (k_ : Int) = b
    · rw [if_pos (by omega)] at hn
      refine Ev.step (fun k => ?_) hn
      rw [laws_FnOneOfEachClass.j5, if_neg (by decide), decide_eq_true e, if_pos rfl, if_neg (by omega), wrap_succ k_ (by omega), show wrap64 (0 + 1) = 1 from wrap64_in 1 (by decide) (by decide)]
    · have e3 : (if b < ((k_ + 1 : Nat) : Int) then (1 : Int) else 0) = if b < (k_ : Int) then 1 else 0 := by split <;> split <;> omega
      rw [e3] at hn
      refine Ev.step (fun k => ?_) hn
      rw [laws_FnOneOfEachClass.j5, if_neg (by decide), decide_eq_false e, if_neg (by decide), wrap_succ k_ (by omega)]
theorem j0_ev {x1 : List Int} (hb : Bytes x1) (x5 : List Int) (x6 : Int) (x7 : List Int) (x8 : Int) (x12 : Bool) (h2 : Ev (fun k => laws_FnOneOfEachClass.j2 k x5 x6 x7 x8 x12) true) : Ev (fun k => laws_FnOneOfEachClass.j0 k x1 x5 x6 x7 x8 x12 false) true := by
  obtain ⟨⟨l, a, at_, s⟩, hr⟩ := slanted_draw hb
  have hd : Ev (fun k => spec_DrawIsSlopeParking.f k x1) (l, a) := by
    unfold spec_DrawIsSlopeParking.f
    exact Ev.bind hr (Ev.now _)
  have hi := IsSlopeParking.impl_ev l a
  have hsp := IsSlopeParking.spec_ev l a
  refine Ev.step (f := ?f1) (fun k => ?h1) ?g1
  case h1 => rw [laws_FnOneOfEachClass.j0, if_neg (by decide)]
  refine Ev.bind hd (Ev.bind hi (Ev.bind hsp (Ev.neg (by simp) ?_)))
  rw [bne_self_eq_false]
  cases h : slope (l.length : Int) a with
  | false =>
    have e : IsSlopeParking.res l a = (false, false) := by unfold IsSlopeParking.res; rw [h, if_neg (by decide)]
    rw [e]
    refine Ev.step (fun k => ?_) h2
    rw [laws_FnOneOfEachClass.j1, if_neg (by decide), if_neg (by decide)]
  | true =>
    have e : IsSlopeParking.res l a = (under l a, true) := by unfold IsSlopeParking.res; rw [h, if_pos rfl]
    rw [e]
    have hin := slope_in h
    have h3 := slIs_ev (l.length : Int) a
    have h4 := isSlope_ev (l.length : Int) a
    rw [h] at h3 h4
    have hb1 : Ev (fun k => impl_BoundsOf.f k (l.length : Int) a) (bnds (l.length : Int) a, true) := by
      unfold impl_BoundsOf.f
      exact Ev.bind h4 (Ev.pos rfl (Ev.bind (bounds_ev h) (Ev.now _)))
    have hb2 : Ev (fun k => spec_BoundsOf.f k (l.length : Int) a) (bnds (l.length : Int) a, true) := by
      unfold spec_BoundsOf.f
      exact Ev.bind h3 (Ev.pos rfl (Ev.bind (slBounds_ev h) (Ev.now _)))
    refine Ev.step (f := ?f2) (fun k => ?h2) ?g2
    case h2 => rw [laws_FnOneOfEachClass.j1, if_neg (by decide), if_pos rfl]
    exact Ev.bind hb1 (Ev.bind hb2 (Ev.pos rfl (Ev.pos rfl (Ev.bind (wSame_ev _ (by rw [bnds_length]; omega)) (Ev.pos rfl h2)))))
end OneClass
open OneClass in
theorem FnOneOfEachClass : laws_FnOneOfEachClass.Pure := by
  intro l0 l1 _ _ hw0 _ _ hw1
  refine Ev.rounds ?_
  have hb0 := bytes_of hw0
  have hb1 := bytes_of hw1
  unfold laws_FnOneOfEachClass.f laws_big.f
  by_cases hb : (l0.length : Int) > 1048576
  · rw [if_pos hb]
    exact Ev.bindc rfl (Ev.pos rfl (Ev.now _))
  rw [if_neg hb]
  refine Ev.bindc rfl ?_
  by_cases hb2 : decide ((l1.length : Int) > wrap64 (1048576 - (l0.length : Int))) = true
  · exact Ev.pos hb2 (Ev.now _)
  refine Ev.neg hb2 ?_
  obtain ⟨⟨l, a⟩, hd⟩ := drawTurn hb0
  obtain ⟨⟨o, b, ok⟩, ⟨h1, h2, h3⟩, h4⟩ := TurnToSlope.both2 l a
  dsimp only at h3 h4
  refine Ev.bind hd (Ev.bind h2 (Ev.bind h1 (Ev.neg (by simp) (Ev.bind (wSame_ev o (by omega)) (Ev.pos rfl ?_)))))
  rw [bne_self_eq_false]
  refine j0_ev hb1 l a o b ok ?_
  cases ok with
  | false =>
    refine Ev.step (f := fun _ => some true) (fun k => ?_) (Ev.now _)
    rw [laws_FnOneOfEachClass.j2, if_neg (by decide)]
  | true =>
    obtain ⟨hs, hl, g0, g1, g2, g3⟩ := h4 rfl
    subst g2
    have hin := slope_in hs
    have h := l0_ev hs hl ⟨g0, g1⟩ g3 a.toNat 0 (by omega)
    rw [if_neg (by omega)] at h
    refine Ev.step (fun k => ?_) h
    rw [laws_FnOneOfEachClass.j2, if_pos rfl]
    rfl
end Go.Proofs.Ytibmphdbkhchdaa.Pure
