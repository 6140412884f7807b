/- The pure statement of the law FnExactGreatestGreatest: the program's GreatestGreatest and the reference's one answer alike; no condition beside the row's own. -/
import Derived.Test.YtflgalpfbjhdlaaGreatPAllx1
import Derived.Test.YtflgalpfbjhdlaaGreatPAllx2
import Derived.Test.YtflgalpfbjhdlaaGreatPAllx3
import Derived.Test.YtflgalpfbjhdlaaGreatPAllx4
import Derived.Test.YtflgalpfbjhdlaaGreatPAllx6
import Derived.Test.YtflgalpfbjhdlaaGreatBaseX
import Derived.Test.YtflgalpfbjhdlaaGreatBaseB
import Derived.Test.YtflgalpfbjhdlaaGreatBaseQ0
import Derived.Test.YtflgalpfbjhdlaaGreatBaseK
import Derived.Test.YtflgalpfbjhdlaaGreatBaseY
namespace Go.Proofs.YtflgalpfbjhdlaaGreat.Pure
open Go.RowKit Go.Proofs.YtflgalpfbjhdlaaGreatW.PrintWords Go.Proofs.YtflgalpfbjhdlaaGreatW.PrintLast Go.Proofs.YtflgalpfbjhdlaaGreat.Hand Go.Proofs.YtflgalpfbjhdlaaGreat.PAll Go.Proofs.YtflgalpfbjhdlaaGreat.Plain
set_option linter.unusedVariables false
namespace GreatestGreatest
def all (l : List Int) (p : Int) : Bool := good l p && !decide ((-1 : Int) ∈ sdrive p [] l)
theorem driveCars_ev {l : List Int} {p : Int} (h : good l p = true) : Ev (fun k => impl_DriveCars.f k l p) (if (-1 : Int) ∈ sdrive p [] l then ([], false) else (sdrive p [] l, true)) := by
  have hp := good_places h
  have h8 := good_cars h
  have hd := drive_ev l p (by omega) (by omega) (by omega) (fun x hx => by have := good_in h x hx; omega)
  unfold impl_DriveCars.f
  refine Ev.bindc (areFav_eq l p) ?_
  rw [h]
  exact Ev.pos rfl (Ev.bind hd (Ev.now _))
theorem doPark_ev (l : List Int) (p : Int) : Ev (fun k => impl_doPark.f k l p) (all l p) := by
  unfold impl_doPark.f all
  cases h : good l p with
  | false =>
    refine Ev.bind (a := ([], false)) ?_ (Ev.now _)
    unfold impl_DriveCars.f
    refine Ev.bindc (areFav_eq l p) ?_
    rw [h]
    exact Ev.neg (by decide) (Ev.now _)
  | true =>
    have hd := driveCars_ev h
    by_cases hm : (-1 : Int) ∈ sdrive p [] l
    · rw [if_pos hm] at hd
      rw [decide_eq_true hm]
      exact Ev.bind hd (Ev.now _)
    · rw [if_neg hm] at hd
      rw [decide_eq_false hm]
      exact Ev.bind hd (Ev.now _)
def reo (l o : List Int) (n : Nat) : List Int := (o.take n).map fun x => rd l x
theorem reo_succ (l o : List Int) (n : Nat) (h : n < o.length) : reo l o (n + 1) = reo l o n ++ [rd l o[n]] := by
  unfold reo
  rw [List.take_succ_eq_append_getElem h, List.map_append]
  rfl
theorem reo_length (l o : List Int) (n : Nat) (h : n ≤ o.length) : (reo l o n).length = n := by
  unfold reo
  simp
  omega
theorem order_l0 (l o : List Int) (hs : o.length ≤ 1000) (hl : o.length = l.length) (ho : ∀ x ∈ o, 0 ≤ x ∧ x < (o.length : Int)) : ∀ (d n : Nat), n + d = o.length →
    Ev (fun k => spec_vaOrder.l0 k l (reo l o n) o (o.length : Int) (n : Int)) (reo l o o.length) ∧ Ev (fun k => impl_reordered.l0 k l (reo l o n) o (o.length : Int) (n : Int)) (reo l o o.length) := by
  intro d
  induction d with
  | zero =>
    intro n hn
    obtain rfl : n = o.length := by omega
    refine ⟨Ev.step (f := fun _ => some (reo l o o.length)) (fun k => ?_) (Ev.now _), Ev.step (f := fun _ => some (reo l o o.length)) (fun k => ?_) (Ev.now _)⟩
    · rw [spec_vaOrder.l0, if_neg (by omega)]
    · rw [impl_reordered.l0, if_neg (by omega)]
  | succ d ih =>
    intro n hn
    have h1 : n < o.length := by omega
    have hx := ho o[n] (List.getElem_mem h1)
    refine ⟨Ev.step (fun k => ?_) (ih (n + 1) (by omega)).1, Ev.step (fun k => ?_) (ih (n + 1) (by omega)).2⟩
    · rw [spec_vaOrder.l0, if_pos (by omega), if_pos (by omega), if_pos (by omega), rd_nat o n h1, if_pos (by omega), if_pos (by omega), if_pos (by rw [reo_length l o n (by omega)]; omega), wrap_succ n (by omega), reo_succ l o n h1]
    · rw [impl_reordered.l0, if_pos (by omega), if_pos (by omega), if_pos (by omega), rd_nat o n h1, if_pos (by omega), if_pos (by omega), if_pos (by rw [reo_length l o n (by omega)]; omega), wrap_succ n (by omega), reo_succ l o n h1]
theorem most_l0 (xs : List Int) (hs : xs.length ≤ 1000) : ∀ (d n : Nat) (m : Int), n + d = xs.length →
    ∃ r, Ev (fun k => spec_vaGreatest.l0 k m xs (xs.length : Int) (n : Int)) r ∧ ∀ a, r ≤ a ↔ m ≤ a ∧ ∀ x ∈ xs.drop n, x ≤ a := by
  intro d
  induction d with
  | zero =>
    intro n m hn
    refine ⟨m, Ev.step (f := fun _ => some m) (fun k => ?_) (Ev.now _), fun a => ?_⟩
    · rw [spec_vaGreatest.l0, if_neg (by omega)]
    · rw [List.drop_eq_nil_of_le (by omega)]
      simp
  | succ d ih =>
    intro n m hn
    have h1 : n < xs.length := by omega
    obtain ⟨r, hr, ha⟩ := ih (n + 1) (mx m xs[n]) (by omega)
    have hm : spec_l1Most.f m xs[n] = some (mx m xs[n]) := by
      unfold spec_l1Most.f mx
      split <;> split <;> first | rfl | (congr 1; omega)
    refine ⟨r, Ev.step (fun k => ?_) hr, fun a => ?_⟩
    · rw [spec_vaGreatest.l0, if_pos (by omega), if_pos (by omega), if_pos (by omega), rd_nat xs n h1, hm, Option.bind_some, wrap_succ n (by omega)]
    · rw [ha a, mx_le, List.drop_eq_getElem_cons h1]
      constructor
      · rintro ⟨⟨h2, h3⟩, h4⟩
        refine ⟨h2, fun x hx => ?_⟩
        rcases List.mem_cons.1 hx with rfl | hx
        · exact h3
        · exact h4 x hx
      · rintro ⟨h2, h3⟩
        exact ⟨⟨h2, h3 _ List.mem_cons_self⟩, fun x hx => h3 x (List.mem_cons_of_mem _ hx)⟩
/-- The greatest of 0 and the cars' distances. -/
def IsG (g : Int) (t : List Int) (p : Int) : Prop := ∀ a, g ≤ a ↔ 0 ≤ a ∧ ∀ x ∈ dst (sdrive p [] t) t t.length, x ≤ a
theorem greatest_both {t : List Int} {p : Int} (h : all t p = true) : ∃ r, (Ev (fun k => spec_vaGreatest.f k t p) r ∧ Ev (fun k => impl_greatest.f k t p) r) ∧ IsG r t p := by
  unfold all at h
  rw [Bool.and_eq_true, Bool.not_eq_true', decide_eq_false_iff_not] at h
  have hp := good_places h.1
  have h8 := good_cars h.1
  have hlen : (sdrive p [] t).length = t.length := by rw [sdrive_length]; simp
  obtain ⟨r, hr, ha⟩ := most_l0 (dst (sdrive p [] t) t t.length) (by rw [dst_length]; omega) (dst (sdrive p [] t) t t.length).length 0 0 (by omega)
  obtain ⟨s, hs, hb⟩ := max_ev (dst (sdrive p [] t) t t.length ++ [0]) (by simp) (by simp [dst_length]; omega)
  have e : s = r := by
    have hab : ∀ a, s ≤ a ↔ r ≤ a := by
      intro a
      rw [hb a, ha a, List.drop_zero]
      constructor
      · intro h2
        exact ⟨h2 0 (by simp), fun x hx => h2 x (List.mem_append_left _ hx)⟩
      · rintro ⟨h2, h3⟩ x hx
        rcases List.mem_append.1 hx with hx | hx
        · exact h3 x hx
        · rw [List.mem_singleton] at hx
          omega
    have h1 := (hab r).2 (Int.le_refl _)
    have h2 := (hab s).1 (Int.le_refl _)
    omega
  subst e
  refine ⟨s, ⟨?_, ?_⟩, fun a => by rw [ha a, List.drop_zero]⟩
  · unfold spec_vaGreatest.f
    refine Ev.bind (a := dst (sdrive p [] t) t t.length) ?_ hr
    unfold spec_paDistances.f
    refine Ev.bind (a := sdrive p [] t) ?_ ?_
    · unfold spec_paDrive.f
      exact paDrive_l p t (by omega) (by omega) (by omega) t [] 0 rfl rfl (by omega) (fun x hx => by have := good_in h.1 x hx; omega)
    · exact paDistances_l0 (sdrive p [] t) t hlen (by omega) t.length 0 (by omega)
  · unfold impl_greatest.f
    refine Ev.bind (a := (dst (sdrive p [] t) t t.length, true)) ?_ (Ev.pos (by simp only [dst_length]; omega) (Ev.bind hs (Ev.now _)))
    unfold impl_DistancesOf.f
    have hd := driveCars_ev h.1
    rw [if_neg h.2] at hd
    refine Ev.bind hd ?_
    have h1 := distancesOf_l0 (sdrive p [] t) t true hlen (by omega) t.length 0 (by omega)
    have e : dst (sdrive p [] t) t 0 ++ (sdrive p [] t).drop 0 = sdrive p [] t := by simp [dst]
    rw [e] at h1
    exact h1
theorem own_eq (l : List Int) (hs : l.length ≤ 1099511627776) : spec_l1Own.f l = some l := by
  unfold spec_l1Own.f
  simp only [Option.bind_some, List.nil_append]
  rw [if_pos (by simp; omega)]
theorem clone_eq (l : List Int) (hs : l.length ≤ 1099511627776) : slices_Clone_int_int.f l = some l := by
  unfold slices_Clone_int_int.f
  rw [if_pos (by omega)]
theorem index_l0 (l : List Int) (x : Int) (hs : l.length ≤ 1000) : ∀ (d n : Nat), n + d = l.length →
    ∃ r, Ev (fun k => slices_Index_int_int.l0 k l x (l.length : Int) (n : Int)) r ∧ (0 ≤ r ↔ x ∈ l.drop n) := by
  intro d
  induction d with
  | zero =>
    intro n hn
    refine ⟨-1, Ev.step (f := fun _ => some (-1)) (fun k => ?_) (Ev.now _), ?_⟩
    · rw [slices_Index_int_int.l0, if_neg (by omega)]
    · rw [List.drop_eq_nil_of_le (by omega)]
      simp
  | succ d ih =>
    intro n hn
    have h1 : n < l.length := by omega
    rw [List.drop_eq_getElem_cons h1]
    by_cases hx : x = l[n]
    · refine ⟨(n : Int), Ev.step (f := fun _ => some (n : Int)) (fun k => ?_) (Ev.now _), ?_⟩
      · rw [slices_Index_int_int.l0, if_pos (by omega), if_pos (by omega), if_pos (by omega), rd_nat l n h1, if_pos hx]
      · exact ⟨fun _ => by rw [hx]; exact List.mem_cons_self, fun _ => by omega⟩
    · obtain ⟨r, hr, hi⟩ := ih (n + 1) (by omega)
      refine ⟨r, Ev.step (fun k => ?_) hr, ?_⟩
      · rw [slices_Index_int_int.l0, if_pos (by omega), if_pos (by omega), if_pos (by omega), rd_nat l n h1, if_neg hx, wrap_succ n (by omega)]
      · rw [hi, List.mem_cons]
        exact ⟨fun h => .inr h, fun h => h.resolve_left hx⟩
theorem contains_ev (l : List Int) (x : Int) (hs : l.length ≤ 1000) : Ev (fun k => slices_Contains_int_int.f k l x) (decide (x ∈ l)) := by
  obtain ⟨r, hr, hi⟩ := index_l0 l x hs l.length 0 (by omega)
  rw [List.drop_zero] at hi
  unfold slices_Contains_int_int.f slices_Index_int_int.f
  refine Ev.bind hr (Ev.const ?_)
  congr 1
  exact decide_eq_decide.2 hi
/-! ### all orders -/
/-- All orders of n cars that go on one. -/
def enumO (n : Nat) : Nat → List Int → List (List Int)
  | 0, p => [p]
  | d + 1, p => catF (fun i => if (i : Int) ∈ p then [] else enumO n d (p ++ [(i : Int)])) 0 n
def OkP (n : Nat) (p : List Int) : Prop := p.Nodup ∧ LowN p n
theorem OkP.snoc {n : Nat} {p : List Int} (h : OkP n p) {i : Nat} (hi : i < n) (hn : (i : Int) ∉ p) : OkP n (p ++ [(i : Int)]) := by
  refine ⟨?_, h.2.snoc hi⟩
  rw [List.nodup_append]
  refine ⟨h.1, by simp, fun a ha b hb => ?_⟩
  rw [List.mem_singleton] at hb
  subst hb
  exact fun e => hn (e ▸ ha)
theorem enumO_mem (n : Nat) : ∀ d p q, p.length + d = n → OkP n p → q ∈ enumO n d p → q.length = n ∧ OkP n q := by
  intro d
  induction d with
  | zero =>
    intro p q hp ho h
    rw [enumO, List.mem_singleton] at h
    subst h
    exact ⟨by omega, ho⟩
  | succ d ih =>
    intro p q hp ho h
    rw [enumO] at h
    obtain ⟨k, h1, h2, h3⟩ := catF_mem _ q n 0 h
    split at h3
    · cases h3
    · rename_i h4
      exact ih _ q (by simp; omega) (ho.snoc (by omega) h4) h3
theorem enumO_le (n : Nat) : ∀ d p, (enumO n d p).length ≤ n ^ d := by
  intro d
  induction d with
  | zero => intro p; simp [enumO]
  | succ d ih =>
    intro p
    rw [enumO, catF_length]
    refine Nat.le_trans (sumTo_le n _ (n ^ d) fun k _ => ?_) (by rw [Nat.pow_succ, Nat.mul_comm]; exact Nat.le_refl _)
    split
    · simp
    · exact ih _
theorem enumO_le6 {n : Nat} (hn : n ≤ 6) (d : Nat) (hd : d ≤ 6) (p : List Int) : (enumO n d p).length ≤ 46656 := by
  have h1 := enumO_le n d p
  have h2 : n ^ d ≤ 6 ^ d := Nat.pow_le_pow_left hn _
  have h3 : (6 : Nat) ^ d ≤ 6 ^ 6 := Nat.pow_le_pow_right (by omega) hd
  have h4 : (6 : Nat) ^ 6 = 46656 := by decide
  omega
theorem vaOrders_ev (n : Nat) (hn : n ≤ 6) : ∀ (d : Nat) (p : List Int), p.length + d = n → Ev (fun k => spec_vaOrders.f k p (n : Int)) (enumO n d p) := by
  intro d
  induction d with
  | zero =>
    intro p hp
    rw [enumO]
    refine Ev.step (f := ?f1) (fun k => ?h1) ?g1
    case h1 => rw [spec_vaOrders.f, if_pos (by omega)]
    exact Ev.bindc (own_eq p (by omega)) (Ev.now _)
  | succ d ih =>
    intro p hp
    rw [enumO]
    have loop : ∀ (e x : Nat) (acc : List (List Int)), x + e = n → acc.length ≤ 46656 * x → Ev (fun k => spec_vaOrders.l0 k p (n : Int) acc (x : Int)) (acc ++ catF (fun i => if (i : Int) ∈ p then [] else enumO n d (p ++ [(i : Int)])) x e) := by
      intro e
      induction e with
      | zero =>
        intro x acc hx ha
        refine Ev.step (f := fun _ => some acc) (fun k => ?_) (Ev.const (by rw [catF, List.append_nil]))
        rw [spec_vaOrders.l0, if_neg (by omega)]
      | succ e ihe =>
        intro x acc hx ha
        rw [catF, ← List.append_assoc]
        refine Ev.step (f := ?f2) (fun k => ?h2) ?g2
        case h2 => rw [spec_vaOrders.l0, if_pos (by omega), wrap_succ x (by omega)]
        refine Ev.bind (l1Has_ev p (x : Int) (by omega)) ?_
        by_cases hm : (x : Int) ∈ p
        · rw [decide_eq_true hm, if_pos hm, List.append_nil]
          exact Ev.pos rfl (ihe (x + 1) acc (by omega) (by omega))
        · rw [decide_eq_false hm, if_neg hm]
          have h1 := ih (p ++ [(x : Int)]) (by simp; omega)
          have hle := enumO_le6 hn d (by omega) (p ++ [(x : Int)])
          refine Ev.neg (by decide) (Ev.bindc (own_eq p (by omega)) (Ev.pos (by omega) (Ev.bind h1 (Ev.pos (by omega) (ihe (x + 1) _ (by omega) (by rw [List.length_append]; omega))))))
    refine Ev.step (fun k => ?_) (loop n 0 [] (by omega) (by simp))
    rw [spec_vaOrders.f, if_neg (by omega)]
    rfl
/-! ### the greatest of all -/
theorem reo_perm {l o : List Int} (h : OkP l.length o) (hl : o.length = l.length) : (reo l o o.length).Perm l := by
  have hp : o.Perm (iota 0 l.length) := nodup_perm o _ h.1 (fun x hx => (iota_mem _ x).2 (h.2 x hx)) (by rw [iota_length, hl]; exact Nat.le_refl _)
  unfold reo
  rw [List.take_of_length_le (Nat.le_refl _)]
  have h1 := hp.map fun x => rd l x
  have e : (iota 0 l.length).map (fun x => rd l x) = l := by
    apply List.ext_getElem
    · simp [iota]
    · intro i h2 h3
      rw [List.getElem_map, iota_get, show (0 : Int) + (i : Int) = (i : Int) by omega, rd_nat l i h3]
  rwa [e] at h1
theorem all_perm {l m : List Int} {p : Int} (h : all l p = true) (hp : m.Perm l) : all m p = true := by
  unfold all at h ⊢
  rw [Bool.and_eq_true, Bool.not_eq_true', decide_eq_false_iff_not] at h ⊢
  have hpl := good_places h.1
  have h8 := good_cars h.1
  refine ⟨?_, street_perm (by omega) hp.symm (good_in h.1) h.2⟩
  unfold good
  rw [decide_eq_true hpl, Bool.true_and, decide_eq_true (by rw [hp.length_eq]; exact h8), Bool.true_and, List.all_eq_true]
  intro x hx2
  have := good_in h.1 x (hp.mem_iff.1 hx2)
  exact decide_eq_true (by omega)
/-- The greatest distance in an order. -/
noncomputable def G (l : List Int) (p : Int) (o : List Int) : Int := open Classical in if h : all (reo l o o.length) p = true then Classical.choose (greatest_both h) else 0
theorem G_ev {l : List Int} {p : Int} (h : all l p = true) {o : List Int} (ho : OkP l.length o) (hl : o.length = l.length) :
    Ev (fun k => spec_vaOrder.f k l o) (reo l o o.length) ∧ Ev (fun k => impl_reordered.f k l o) (reo l o o.length) ∧ Ev (fun k => spec_vaGreatest.f k (reo l o o.length) p) (G l p o) ∧ Ev (fun k => impl_greatest.f k (reo l o o.length) p) (G l p o) ∧ IsG (G l p o) (reo l o o.length) p := by
  have h8 : l.length ≤ 8 := by
    unfold all at h
    rw [Bool.and_eq_true] at h
    exact good_cars h.1
  have ha := all_perm h (reo_perm ho hl)
  have h1 := order_l0 l o (by omega) hl (fun x hx => by have := ho.2 x hx; omega) o.length 0 (by omega)
  have hg : G l p o = Classical.choose (greatest_both ha) := by unfold G; rw [dif_pos ha]
  have h2 := Classical.choose_spec (greatest_both ha)
  rw [← hg] at h2
  exact ⟨h1.1, h1.2, h2.1.1, h2.1.2, h2.2⟩
/-- The greatest of a list of orders, and of m. -/
noncomputable def gmax (l : List Int) (p : Int) : Int → List (List Int) → Int
  | m, [] => m
  | m, o :: os => gmax l p (mx m (G l p o)) os
theorem gmax_append (l : List Int) (p : Int) : ∀ (os os2 : List (List Int)) (m : Int), gmax l p m (os ++ os2) = gmax l p (gmax l p m os) os2
  | [], _, _ => rfl
  | o :: os, os2, m => by rw [List.cons_append, gmax, gmax, gmax_append l p os os2]
theorem rd2_nat (L : List (List Int)) (i : Nat) (h : i < L.length) : rd_L3 L (i : Int) = L[i] := by
  unfold rd_L3
  rw [Int.toNat_natCast, List.getD_eq_getElem?_getD, List.getElem?_eq_getElem h]
  rfl
theorem spec_l0 {l : List Int} {p : Int} (h : all l p = true) (L : List (List Int)) (hL : L.length ≤ 1000000) (hm : ∀ o ∈ L, OkP l.length o ∧ o.length = l.length) : ∀ (d i : Nat) (m : Int), i + d = L.length →
    Ev (fun k => spec_GreatestGreatest.l0 k l p m L (L.length : Int) (i : Int)) (gmax l p m (L.drop i), true) := by
  intro d
  induction d with
  | zero =>
    intro i m hi
    refine Ev.step (f := fun _ => some (m, true)) (fun k => ?_) (Ev.const ?_)
    · rw [spec_GreatestGreatest.l0, if_neg (by omega)]
    · rw [List.drop_eq_nil_of_le (by omega), gmax]
  | succ d ih =>
    intro i m hi
    have h1 : i < L.length := by omega
    have ho := hm L[i] (List.getElem_mem h1)
    have hg := G_ev h ho.1 ho.2
    rw [List.drop_eq_getElem_cons h1, gmax]
    refine Ev.step (f := ?f1) (fun k => ?h1) ?g1
    case h1 => rw [spec_GreatestGreatest.l0, if_pos (by omega), if_pos (by omega), if_pos (by omega), rd2_nat L i h1, wrap_succ i (by omega)]
    refine Ev.bind hg.1 (Ev.bind hg.2.2.1 (Ev.bindc (a := mx m (G l p L[i])) ?_ (ih (i + 1) _ (by omega))))
    unfold spec_l1Most.f mx
    by_cases hc : m > G l p L[i]
    · rw [if_pos hc, if_neg (by omega)]
    · rw [if_neg hc]
      by_cases h2 : m < G l p L[i]
      · rw [if_pos h2]
      · rw [if_neg h2, show m = G l p L[i] by omega]
theorem orders_ev {l : List Int} {p : Int} (h : all l p = true) (h6 : l.length ≤ 6) : ∀ (d : Nat) (q : List Int) (m : Int), q.length + d = l.length → OkP l.length q →
    Ev (fun k => impl_orders.f k l p (l.length : Int) q m) (gmax l p m (enumO l.length d q)) := by
  intro d
  induction d with
  | zero =>
    intro q m hq ho
    have hg := G_ev h ho (by omega)
    rw [enumO, gmax, gmax]
    refine Ev.step (f := ?f1) (fun k => ?h1) ?g1
    case h1 => rw [impl_orders.f, if_pos (by omega)]
    unfold ggStep.f
    exact Ev.bind hg.2.1 (Ev.bind hg.2.2.2.1 (Ev.now _))
  | succ d ih =>
    intro q m hq ho
    rw [enumO]
    have loop : ∀ (e x : Nat) (m : Int), x + e = l.length → Ev (fun k => impl_orders.l0 k l p (l.length : Int) q m (x : Int)) (gmax l p m (catF (fun i => if (i : Int) ∈ q then [] else enumO l.length d (q ++ [(i : Int)])) x e)) := by
      intro e
      induction e with
      | zero =>
        intro x m hx
        refine Ev.step (f := fun _ => some m) (fun k => ?_) (Ev.const (by rw [catF, gmax]))
        rw [impl_orders.l0, if_neg (by omega)]
      | succ e ihe =>
        intro x m hx
        rw [catF, gmax_append]
        refine Ev.step (f := ?f2) (fun k => ?h2) ?g2
        case h2 => rw [impl_orders.l0, if_pos (by omega), wrap_succ x (by omega)]
        refine Ev.bind (contains_ev q (x : Int) (by omega)) ?_
        by_cases hm : (x : Int) ∈ q
        · rw [decide_eq_true hm, if_pos hm, gmax]
          exact Ev.pos rfl (ihe (x + 1) m (by omega))
        · rw [decide_eq_false hm, if_neg hm]
          exact Ev.neg (by decide) (Ev.bindc (clone_eq q (by omega)) (Ev.pos (by omega) (Ev.bind (ih (q ++ [(x : Int)]) m (by simp; omega) (ho.snoc (by omega) hm)) (ihe (x + 1) _ (by omega)))))
    refine Ev.step (fun k => ?_) (loop l.length 0 m (by omega))
    rw [impl_orders.f, if_neg (by omega)]
    rfl
theorem both (l : List Int) (p : Int) : ∃ r : Int × Bool, (Ev (fun k => spec_GreatestGreatest.f k l p) r ∧ Ev (fun k => impl_GreatestGreatest.f k l p) r) ∧ r = if all l p = true ∧ l.length ≤ 6 then (gmax l p 0 (enumO l.length l.length []), true) else (0, false) := by
  have hd := doPark_ev l p
  unfold spec_GreatestGreatest.f impl_GreatestGreatest.f
  have hg := paGood_ev l p
  cases h : good l p with
  | false =>
    have e : all l p = false := by unfold all; rw [h]; rfl
    rw [e] at hd
    rw [h] at hg
    refine ⟨(0, false), ⟨Ev.bind hg (Ev.neg (by decide) (Ev.step (f := fun _ => some (0, false)) (fun k => ?_) (Ev.now _))), Ev.bind hd (Ev.neg (by decide) (Ev.now _))⟩, by rw [e]; rfl⟩
    rw [spec_GreatestGreatest.j0, if_pos rfl]
  | true =>
    rw [h] at hg
    have hp := good_places h
    have h8 := good_cars h
    have hx : ∀ x ∈ l, 0 ≤ x ∧ x < 100 := fun x hx => by have := good_in h x hx; omega
    have ha : Ev (fun k => spec_paAll.f k l p) (all l p) := by
      unfold spec_paAll.f all
      rw [h, Bool.true_and]
      refine Ev.bind (a := sdrive p [] l) ?_ (Ev.bind (l1Has_ev _ _ (by rw [sdrive_length]; simp; omega)) (Ev.now _))
      unfold spec_paDrive.f
      exact paDrive_l p l (by omega) (by omega) (by omega) l [] 0 rfl rfl (by omega) (fun x hx2 => by have := hx x hx2; omega)
    by_cases h6 : (l.length : Int) > 6
    · refine ⟨(0, false), ⟨Ev.bind hg (Ev.pos rfl (Ev.pos h6 (Ev.step (f := fun _ => some (0, false)) (fun k => ?_) (Ev.now _)))), Ev.bind hd ?_⟩, by rw [if_neg (fun h => by omega)]⟩
      · rw [spec_GreatestGreatest.j0, if_pos rfl]
      · cases all l p with
        | false => exact Ev.neg (by decide) (Ev.now _)
        | true => exact Ev.pos rfl (Ev.pos h6 (Ev.now _))
    · cases h2 : all l p with
      | false =>
        rw [h2] at hd ha
        refine ⟨(0, false), ⟨Ev.bind hg (Ev.pos rfl (Ev.neg h6 (Ev.bind ha (Ev.step (f := fun _ => some (0, false)) (fun k => ?_) (Ev.now _))))), Ev.bind hd (Ev.neg (by decide) (Ev.now _))⟩, by rw [if_neg (fun h => by simp at h)]⟩
        rw [spec_GreatestGreatest.j0, if_pos (by decide)]
      | true =>
        rw [h2] at hd ha
        have hok : OkP l.length ([] : List Int) := ⟨by simp, fun x hx => by cases hx⟩
        have hle := enumO_le6 (n := l.length) (by omega) l.length (by omega) []
        have hm : ∀ o ∈ enumO l.length l.length [], OkP l.length o ∧ o.length = l.length := fun o ho => by
          have := enumO_mem l.length l.length [] o (by simp) hok ho
          exact ⟨this.2, this.1⟩
        refine ⟨(gmax l p 0 (enumO l.length l.length []), true), ⟨Ev.bind hg (Ev.pos rfl (Ev.neg h6 (Ev.bind ha (Ev.step (f := ?f1) (fun k => ?h1) ?g1)))), Ev.bind hd (Ev.pos rfl (Ev.neg h6 (Ev.bind (orders_ev h2 (by omega) l.length [] 0 (by simp) hok) (Ev.now _))))⟩, by rw [if_pos ⟨rfl, by omega⟩]⟩
        case h1 => rw [spec_GreatestGreatest.j0, if_neg (by decide)]
        refine Ev.bind (vaOrders_ev l.length (by omega) l.length [] (by simp)) ?_
        have h3 := spec_l0 h2 (enumO l.length l.length []) (by omega) hm (enumO l.length l.length []).length 0 0 (by omega)
        rw [List.drop_zero] at h3
        exact h3
noncomputable def res (l : List Int) (p : Int) : Int × Bool := Classical.choose (both l p)
theorem spec_ev (l : List Int) (p : Int) : Ev (fun k => spec_GreatestGreatest.f k l p) (res l p) := (Classical.choose_spec (both l p)).1.1
theorem impl_ev (l : List Int) (p : Int) : Ev (fun k => impl_GreatestGreatest.f k l p) (res l p) := (Classical.choose_spec (both l p)).1.2
theorem res_val (l : List Int) (p : Int) : res l p = if all l p = true ∧ l.length ≤ 6 then (gmax l p 0 (enumO l.length l.length []), true) else (0, false) := (Classical.choose_spec (both l p)).2
end GreatestGreatest
end Go.Proofs.YtflgalpfbjhdlaaGreat.Pure
