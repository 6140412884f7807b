/- The pure statement of the law FnValets: whatever is drawn, the law's tests hold. No condition beside the row's own. -/
import Derived.Test.YtflgalpfbjhdlaaGreatPAllx1
import Derived.Test.YtflgalpfbjhdlaaGreatPAllx2
import Derived.Test.YtflgalpfbjhdlaaGreatPAllx5
import Derived.Test.YtflgalpfbjhdlaaGreatPAllx6
import Derived.Test.YtflgalpfbjhdlaaGreatPAllx7
import Derived.Test.YtflgalpfbjhdlaaGreatBaseVa
import Derived.Test.YtflgalpfbjhdlaaGreatBaseDr
import Derived.Test.YtflgalpfbjhdlaaGreatBaseTd
import Derived.Test.YtflgalpfbjhdlaaGreatPureFnExactLeastGreatest
import Derived.Test.YtflgalpfbjhdlaaGreatPureFnExactGreatestGreatest
import Derived.Test.YtflgalpfbjhdlaaGreatPureFnExactMostLucky
import Derived.Test.YtflgalpfbjhdlaaGreatPureFnExactFairOrder
import Derived.Test.YtflgalpfbjhdlaaGreatPureFnExactReorderCars
import Derived.Test.YtflgalpfbjhdlaaGreatPureFnExactWaitsOf
namespace Go.Proofs.YtflgalpfbjhdlaaGreat.Pure
open Go.RowKit Go.Proofs.YtflgalpfbjhdlaaGreatW.PrintWords Go.Proofs.YtflgalpfbjhdlaaGreatW.PrintLast Go.Proofs.YtflgalpfbjhdlaaGreat.Hand Go.Proofs.YtflgalpfbjhdlaaGreat.PAll Go.Proofs.YtflgalpfbjhdlaaGreat.Plain
set_option linter.unusedVariables false
namespace Valets
open WaitsOf (bump waits bump_length waits_length)
/-! ### Waits -/
theorem sm_set : ∀ (x : List Int) (n : Nat) (v : Int) (h : n < x.length), sm (x.set n v) = sm x - x[n] + v
  | [], n, v, h => by simp at h
  | y :: ys, 0, v, h => by rw [List.set_cons_zero, sm, sm, List.getElem_cons_zero]; omega
  | y :: ys, n + 1, v, h => by
    have := sm_set ys n v (by simpa using h)
    rw [List.set_cons_succ, sm, sm, this, List.getElem_cons_succ]
    omega
theorem bump_at : ∀ (d n : Nat) (x : List Int), n + d ≤ x.length → (∀ v ∈ x, 0 ≤ v ∧ v + (d : Int) ≤ 1000000000) →
    (∀ z : Nat, z < x.length → rd (bump d (n : Int) x) (z : Int) = rd x (z : Int) + (if n ≤ z ∧ z < n + d then 1 else 0)) ∧ sm (bump d (n : Int) x) = sm x + (d : Int)
  | 0, n, x, hl, hv => ⟨fun z hz => by rw [bump, if_neg (by omega)]; omega, by rw [bump]; omega⟩
  | d + 1, n, x, hl, hv => by
    have hn : n < x.length := by omega
    have hb := hv x[n] (List.getElem_mem hn)
    have e : wrap64 (rd x (n : Int) + 1) = x[n] + 1 := by rw [rd_nat x n hn, wrap64_in _ (by omega) (by omega)]
    have ih := bump_at d (n + 1) (x.set n (x[n] + 1)) (by rw [List.length_set]; omega) (fun v hm => by
      rcases List.mem_or_eq_of_mem_set hm with h | h
      · have := hv v h
        omega
      · omega)
    have hb2 : bump (d + 1) (n : Int) x = bump d ((n + 1 : Nat) : Int) (x.set n (x[n] + 1)) := by
      rw [bump, e, Int.toNat_natCast, show (n : Int) + 1 = ((n + 1 : Nat) : Int) by omega]
    rw [hb2]
    refine ⟨fun z hz => ?_, ?_⟩
    · rw [ih.1 z (by rw [List.length_set]; exact hz), rd_set x n z _ hn hz]
      by_cases hnz : n = z
      · subst hnz
        rw [if_pos rfl, if_neg (by omega), if_pos (by omega), rd_nat x n hn]
        omega
      · rw [if_neg hnz]
        by_cases h2 : n + 1 ≤ z ∧ z < n + 1 + d
        · rw [if_pos h2, if_pos (by omega)]
        · rw [if_neg h2, if_neg (by omega)]
    · rw [ih.2, sm_set x n _ hn]
      omega
theorem waits_at : ∀ (xs bs w : List Int), xs.length = bs.length → (∀ (i : Nat) (h1 : i < xs.length) (h2 : i < bs.length), 0 ≤ xs[i] ∧ xs[i] ≤ bs[i] ∧ bs[i] ≤ (w.length : Int)) → w.length ≤ 1000 → (∀ v ∈ w, 0 ≤ v ∧ v + 1001 * (xs.length : Int) ≤ 100000000) →
    (∀ z : Nat, z < w.length → rd (waits xs bs w) (z : Int) = rd w (z : Int) + upc (z : Int) xs - upc (z : Int) bs) ∧ sm (waits xs bs w) = sm w + sm bs - sm xs
  | [], [], w, _, _, _, _ => ⟨fun z hz => by simp [waits, upc], by simp [waits, sm]⟩
  | [], _ :: _, _, h, _, _, _ => by simp at h
  | _ :: _, [], _, h, _, _, _ => by simp at h
  | x :: xs, b :: bs, w, hl, hx, hw, hv => by
    have h0 := hx 0 (by simp) (by simp)
    simp only [List.getElem_cons_zero] at h0
    obtain ⟨n, rfl⟩ := Int.eq_ofNat_of_zero_le h0.1
    have hbm := bump_at (b - (n : Int)).toNat n w (by omega) (fun v hm => by have := hv v hm; omega)
    have hlen : (bump (b - (n : Int)).toNat (n : Int) w).length = w.length := bump_length _ _ _
    have ih := waits_at xs bs (bump (b - (n : Int)).toNat (n : Int) w) (by simpa using hl) (fun i h1 h2 => by
      have := hx (i + 1) (by simpa using h1) (by simpa using h2)
      simp only [List.getElem_cons_succ] at this
      rw [hlen]
      exact this) (by omega) (fun v hm => by
      obtain ⟨z, hz, rfl⟩ := List.mem_iff_getElem.1 hm
      have hz2 : z < w.length := by omega
      have h1 := hbm.1 z hz2
      rw [rd_nat _ z hz, rd_nat w z hz2] at h1
      have h2 := hv w[z] (List.getElem_mem hz2)
      rw [List.length_cons] at h2
      rw [h1]
      split <;> omega)
    refine ⟨fun z hz => ?_, ?_⟩
    · rw [waits, ih.1 z (by omega), hbm.1 z hz, upc, upc]
      by_cases h1 : (n : Int) ≤ (z : Int)
      · rw [if_pos h1]
        by_cases h2 : b ≤ (z : Int)
        · rw [if_pos h2, if_neg (by omega)]; omega
        · rw [if_neg h2, if_pos (by omega)]; omega
      · rw [if_neg h1, if_neg (show ¬ b ≤ (z : Int) by omega), if_neg (by omega)]; omega
    · rw [waits, ih.2, hbm.2, sm, sm]
      omega
/-- All cars park. -/
def all (l : List Int) (p : Int) : Bool := good l p && !decide ((-1 : Int) ∈ sdrive p [] l)
theorem all_good {l : List Int} {p : Int} (h : all l p = true) : good l p = true ∧ (-1 : Int) ∉ sdrive p [] l := by
  unfold all at h
  rw [Bool.and_eq_true, Bool.not_eq_true', decide_eq_false_iff_not] at h
  exact h
theorem s_in {l : List Int} {p : Int} (h : all l p = true) (i : Nat) (hi : i < l.length) (hs : i < (sdrive p [] l).length) : 0 ≤ l[i] ∧ l[i] ≤ (sdrive p [] l)[i] ∧ (sdrive p [] l)[i] < p := by
  have hg := all_good h
  have hm := met0 hg.2 i hi
  unfold Meets at hm
  rw [rd_nat _ i hs] at hm
  exact ⟨(good_in hg.1 _ (List.getElem_mem hi)).1, hm.1, hm.2.1⟩
def W (l : List Int) (p : Int) : List Int := waits l (sdrive p [] l) (List.replicate p.toNat 0)
theorem W_facts {l : List Int} {p : Int} (h : all l p = true) : (W l p).length = p.toNat ∧ (∀ z : Nat, z < p.toNat → rd (W l p) (z : Int) = upc (z : Int) l - upc (z : Int) (sdrive p [] l)) ∧ sm (W l p) = sm (sdrive p [] l) - sm l := by
  have hg := all_good h
  have hp := good_places hg.1
  have h8 := good_cars hg.1
  have hlen := s_len p l
  have := waits_at l (sdrive p [] l) (List.replicate p.toNat 0) hlen.symm (fun i h1 h2 => by
    have := s_in h i h1 h2
    rw [List.length_replicate]
    omega) (by rw [List.length_replicate]; omega) (fun v hv => by
    rw [List.eq_of_mem_replicate hv]
    omega)
  refine ⟨by unfold W; rw [waits_length, List.length_replicate], fun z hz => ?_, ?_⟩
  · have h1 := this.1 z (by rw [List.length_replicate]; exact hz)
    rw [rd_nat (List.replicate p.toNat 0) z (by rw [List.length_replicate]; exact hz), List.getElem_replicate] at h1
    unfold W
    rw [h1]
    omega
  · have e : ∀ n : Nat, sm (List.replicate n 0) = 0 := fun n => by
      induction n with
      | zero => rfl
      | succ n ih => rw [List.replicate_succ, sm, ih]; rfl
    have h2 := this.2
    rw [e] at h2
    unfold W
    rw [h2]
    omega
theorem W_in {l : List Int} {p : Int} (h : all l p = true) : ∀ v ∈ W l p, -1000 ≤ v ∧ v ≤ 1000 := by
  intro v hv
  have hw := W_facts h
  have h8 := good_cars (all_good h).1
  have hlen := s_len p l
  obtain ⟨z, hz, rfl⟩ := List.mem_iff_getElem.1 hv
  have h1 := hw.2.1 z (by omega)
  rw [rd_nat _ z hz] at h1
  have h2 := upc_in (z : Int) l
  have h3 := upc_in (z : Int) (sdrive p [] l)
  omega
theorem W_perm {l m : List Int} {p : Int} (hp : l.Perm m) (h : all l p = true) (h2 : all m p = true) : W m p = W l p := by
  have hl := W_facts h
  have hm := W_facts h2
  have hg := all_good h
  refine List.ext_getElem (by rw [hl.1, hm.1]) (fun z h1 h3 => ?_)
  have e1 := hl.2.1 z (by omega)
  have e2 := hm.2.1 z (by omega)
  rw [rd_nat _ z h3] at e1
  rw [rd_nat _ z h1] at e2
  rw [e1, e2, upc_perm _ hp, lvl_perm' hp hg.2 (all_good h2).2 (fun x hx => (good_in hg.1 x hx).1) _ (by omega)]
/-! ### Orders -/
theorem all_perm {l m : List Int} {p : Int} (h : all l p = true) (hp : m.Perm l) : all m p = true := GreatestGreatest.all_perm h hp
theorem dst_at {l : List Int} {p : Int} (h : all l p = true) (i : Nat) (hi : i < l.length) : (dst (sdrive p [] l) l l.length)[i]'(by rw [dst_length]; exact hi) = rd (sdrive p [] l) (i : Int) - rd l (i : Int) := by
  have hs : i < (sdrive p [] l).length := by rw [s_len]; exact hi
  have h1 := s_in h i hi hs
  have hp := good_places (all_good h).1
  unfold dst
  rw [List.getElem_map, List.getElem_range, rd_nat _ i hs, rd_nat l i hi, wrap64_in _ (by omega) (by omega)]
theorem dst_mem {l : List Int} {p : Int} (h : all l p = true) (x : Int) : x ∈ dst (sdrive p [] l) l l.length ↔ ∃ i : Nat, i < l.length ∧ x = rd (sdrive p [] l) (i : Int) - rd l (i : Int) := by
  constructor
  · intro hx
    obtain ⟨i, hi, rfl⟩ := List.mem_iff_getElem.1 hx
    rw [dst_length] at hi
    exact ⟨i, hi, dst_at h i hi⟩
  · rintro ⟨i, hi, rfl⟩
    rw [← dst_at h i hi]
    exact List.getElem_mem _
def IsG (g : Int) (t : List Int) (p : Int) : Prop := ∀ a, g ≤ a ↔ 0 ≤ a ∧ ∀ x ∈ dst (sdrive p [] t) t t.length, x ≤ a
theorem fair_sorted {l : List Int} (h8 : l.length ≤ 8) (hx : ∀ x ∈ l, 0 ≤ x ∧ x < 100) : (LeastGreatest.fcars l).Pairwise (· ≤ ·) := by
  unfold LeastGreatest.fcars LeastGreatest.reo
  rw [List.take_of_length_le (Nat.le_refl _)]
  unfold fairS
  rw [List.map_map, List.pairwise_map]
  refine List.Pairwise.imp_of_mem ?_ (srt_sorted _)
  intro a b ha hb hab
  rw [srt_mem, List.mem_map] at ha hb
  obtain ⟨i, hi, rfl⟩ := ha
  obtain ⟨j, hj, rfl⟩ := hb
  rw [iota_mem] at hi hj
  unfold code at hab ⊢
  show rd l ((rd l i * 8 + i) % 8) ≤ rd l ((rd l j * 8 + j) % 8)
  rw [show (rd l i * 8 + i) % 8 = i by omega, show (rd l j * 8 + j) % 8 = j by omega]
  omega
theorem least_le {l t : List Int} {p g L : Int} (h : all l p = true) (ht : t.Perm l) (hL : IsG L (LeastGreatest.fcars l) p) (hg : IsG g t p) : L ≤ g := by
  have hgood := all_good h
  have h8 := good_cars hgood.1
  have hx : ∀ x ∈ l, 0 ≤ x ∧ x < 100 := fun x hx => by have := good_in hgood.1 x hx; have := good_places hgood.1; omega
  have hfp := LeastGreatest.fcars_perm h8 hx
  have hf := all_perm h hfp
  have htp := all_perm h ht
  have hgg := (hg g).1 (Int.le_refl _)
  refine (hL g).2 ⟨hgg.1, fun x hx2 => ?_⟩
  obtain ⟨j, hj, rfl⟩ := (dst_mem hf x).1 hx2
  obtain ⟨i, hi, hle⟩ := least_best (ht.trans hfp.symm) (fair_sorted h8 hx) (all_good htp).2 (all_good hf).2 (fun x hx => (good_in (all_good htp).1 x hx).1) j hj
  have := hgg.2 _ ((dst_mem htp _).2 ⟨i, hi, rfl⟩)
  omega
theorem gmax_ge (l : List Int) (p : Int) : ∀ (os : List (List Int)) (m : Int), m ≤ GreatestGreatest.gmax l p m os ∧ ∀ o ∈ os, GreatestGreatest.G l p o ≤ GreatestGreatest.gmax l p m os
  | [], m => ⟨Int.le_refl _, by simp⟩
  | o :: os, m => by
    have h := gmax_ge l p os (mx m (GreatestGreatest.G l p o))
    have h1 := (mx_le m (GreatestGreatest.G l p o) _).1 h.1
    rw [GreatestGreatest.gmax]
    refine ⟨h1.1, fun x hx => ?_⟩
    rcases List.mem_cons.1 hx with rfl | hx
    · exact h1.2
    · exact h.2 x hx
theorem catF_in {α : Type} (f : Nat → List α) (q : α) : ∀ (n s k : Nat), s ≤ k → k < s + n → q ∈ f k → q ∈ catF f s n
  | 0, s, k, h1, h2, _ => by omega
  | n + 1, s, k, h1, h2, hq => by
    rw [catF, List.mem_append]
    by_cases e : k = s
    · exact .inl (e ▸ hq)
    · exact .inr (catF_in f q n (s + 1) k (by omega) (by omega) hq)
theorem enumO_all (n : Nat) : ∀ (d : Nat) (pre q : List Int), pre.length + d = n → (pre ++ q).length = n → GreatestGreatest.OkP n (pre ++ q) → pre ++ q ∈ GreatestGreatest.enumO n d pre := by
  intro d
  induction d with
  | zero =>
    intro pre q hp hl ho
    have : q = [] := List.eq_nil_of_length_eq_zero (by rw [List.length_append] at hl; omega)
    subst this
    rw [GreatestGreatest.enumO, List.append_nil, List.mem_singleton]
  | succ d ih =>
    intro pre q hp hl ho
    cases q with
    | nil => rw [List.length_append] at hl; simp at hl; omega
    | cons x xs =>
      have hx := ho.2 x (by simp)
      obtain ⟨k, rfl⟩ := Int.eq_ofNat_of_zero_le hx.1
      have hnot : (k : Int) ∉ pre := fun hm => by
        have := ho.1
        rw [List.nodup_append] at this
        exact this.2.2 _ hm _ List.mem_cons_self rfl
      have h1 := ih (pre ++ [(k : Int)]) xs (by simp; omega) (by simpa using hl) (by simpa using ho)
      rw [GreatestGreatest.enumO]
      refine catF_in _ _ n 0 k (by omega) (by have := hx.2; omega) ?_
      rw [if_neg hnot]
      simpa using h1
theorem most_ge {l : List Int} {p g : Int} (h : all l p = true) (h6 : l.length ≤ 6) {o : List Int} (ho : GreatestGreatest.OkP l.length o) (hl : o.length = l.length) (hg : IsG g (GreatestGreatest.reo l o o.length) p) : g ≤ GreatestGreatest.gmax l p 0 (GreatestGreatest.enumO l.length l.length []) := by
  have hm := enumO_all l.length l.length [] o (by simp) (by simpa using hl) (by simpa using ho)
  rw [List.nil_append] at hm
  have h1 := (gmax_ge l p (GreatestGreatest.enumO l.length l.length []) 0).2 o hm
  have h2 := (GreatestGreatest.G_ev h ho hl).2.2.2.2
  have h3 := (h2 (GreatestGreatest.G l p o)).1 (Int.le_refl _)
  have := (hg (GreatestGreatest.G l p o)).2 h3
  omega
/-- A list in an order. -/
def Turn (l t : List Int) : Prop := t.Perm l ∧ ∃ o : List Int, GreatestGreatest.OkP l.length o ∧ o.length = l.length ∧ t = GreatestGreatest.reo l o o.length
theorem turn_of {l o : List Int} (ho : GreatestGreatest.OkP l.length o) (hl : o.length = l.length) : Turn l (GreatestGreatest.reo l o o.length) := ⟨GreatestGreatest.reo_perm ho hl, o, ho, hl, rfl⟩
theorem iota_okp (n : Nat) : GreatestGreatest.OkP n (iota 0 n) := ⟨iota_nodup n, fun x hx => (iota_mem n x).1 hx⟩
theorem turn_self (l : List Int) : Turn l l := by
  have h := turn_of (iota_okp l.length) (iota_length 0 l.length)
  have e : GreatestGreatest.reo l (iota 0 l.length) (iota 0 l.length).length = l := by
    unfold GreatestGreatest.reo
    rw [List.take_of_length_le (Nat.le_refl _)]
    refine List.ext_getElem (by simp [iota_length]) (fun i h1 h2 => ?_)
    rw [List.getElem_map, iota_get, Int.zero_add, rd_nat l i h2]
  rwa [e] at h
theorem turn_swap (l : List Int) (a : Nat) (ha : a + 1 < l.length) : Turn l ((l.set a l[a + 1]).set (a + 1) (l[a]'(by omega))) := by
  have hlen : (((iota 0 l.length).set a ((a : Int) + 1)).set (a + 1) (a : Int)).length = l.length := by simp [iota_length]
  have hget : ∀ (i : Nat) (h : i < (((iota 0 l.length).set a ((a : Int) + 1)).set (a + 1) (a : Int)).length), (((iota 0 l.length).set a ((a : Int) + 1)).set (a + 1) (a : Int))[i] = if a + 1 = i then (a : Int) else if a = i then (a : Int) + 1 else (i : Int) := fun i h => by
    rw [List.getElem_set, List.getElem_set]
    split
    · rfl
    · split
      · rfl
      · rw [iota_get, Int.zero_add]
  have hin : ∀ x ∈ ((iota 0 l.length).set a ((a : Int) + 1)).set (a + 1) (a : Int), 0 ≤ x ∧ x < (l.length : Int) := fun x hx => by
    obtain ⟨i, hi, rfl⟩ := List.mem_iff_getElem.1 hx
    rw [hget i hi]
    rw [hlen] at hi
    split
    · omega
    · split <;> omega
  have hnd : (((iota 0 l.length).set a ((a : Int) + 1)).set (a + 1) (a : Int)).Nodup := by
    refine List.pairwise_iff_getElem.2 (fun i j hi hj hij => ?_)
    rw [hget i hi, hget j hj]
    repeat' (first | omega | split)
  have h := turn_of (l := l) ⟨hnd, hin⟩ hlen
  have e : GreatestGreatest.reo l (((iota 0 l.length).set a ((a : Int) + 1)).set (a + 1) (a : Int)) (((iota 0 l.length).set a ((a : Int) + 1)).set (a + 1) (a : Int)).length = (l.set a l[a + 1]).set (a + 1) (l[a]'(by omega)) := by
    unfold GreatestGreatest.reo
    rw [List.take_of_length_le (Nat.le_refl _)]
    refine List.ext_getElem (by simp [iota_length]) (fun i h1 h2 => ?_)
    have hi : i < l.length := by simpa using h2
    rw [List.getElem_map, hget i (by rw [hlen]; exact hi), List.getElem_set, List.getElem_set]
    by_cases e1 : a + 1 = i
    · rw [if_pos e1, if_pos e1, rd_nat l a (by omega)]
    · rw [if_neg e1, if_neg e1]
      by_cases e2 : a = i
      · rw [if_pos e2, if_pos e2, show (a : Int) + 1 = ((a + 1 : Nat) : Int) by omega, rd_nat l (a + 1) ha]
      · rw [if_neg e2, if_neg e2, rd_nat l i hi]
  rwa [e] at h
/-! ### What is drawn -/
theorem most_eq (x y : Int) : spec_l1Most.f x y = some (if x > y then x else y) := by unfold spec_l1Most.f; split <;> rfl
theorem least_eq (x y : Int) : ∃ z, spec_l1Least.f x y = some z ∧ (z = x ∨ z = y) ∧ z ≤ x ∧ z ≤ y := by
  unfold spec_l1Least.f
  split
  · exact ⟨x, rfl, .inl rfl, by omega, by omega⟩
  · exact ⟨y, rfl, .inr rfl, by omega, by omega⟩
theorem fav_l1 {code : List Int} (hc : Bytes code) (p : Int) (hp : 1 ≤ p ∧ p ≤ 12) : ∀ (d : Nat) (x : List Int) (at_ seed : Int), d = 9 - x.length → x.length ≤ 100 → 0 ≤ at_ ∧ at_ ≤ 500000 - 4 * (d : Int) →
    ∃ r, Ev (fun k => spec_l1Cur_favourites.l1 k p x code at_ seed) r ∧ r.1.length ≤ 110 ∧ 0 ≤ r.2.2.1 ∧ r.2.2.1 ≤ 600000 := by
  intro d
  induction d with
  | zero =>
    intro x at_ seed hd hx ha
    obtain ⟨b, a, s, e, hb0, hb1, ha0, ha1⟩ := pick_ok hc at_ seed 2 (by omega) (by decide)
    have hb := hb1 (by decide)
    refine ⟨(x, p, a, s), Ev.step (f := fun _ => some (x, p, a, s)) (fun k => ?_) (Ev.now _), by dsimp only; omega, by dsimp only; omega, by dsimp only; omega⟩
    rw [spec_l1Cur_favourites.l1, e, Option.bind_some]
    dsimp only
    rw [wrap64_in _ (by omega) (by omega), if_neg (by omega)]
  | succ d ih =>
    intro x at_ seed hd hx ha
    obtain ⟨b, a, s, e, hb0, hb1, ha0, ha1⟩ := pick_ok hc at_ seed 2 (by omega) (by decide)
    have hb := hb1 (by decide)
    by_cases hlt : (x.length : Int) < 8 + b
    · obtain ⟨b2, a2, s2, e2, _, _, hb20, hb21⟩ := pick_ok hc a s p (by omega) (by omega)
      obtain ⟨r, hr, hrl, hr0, hr1⟩ := ih (x ++ [b2]) a2 s2 (by simp; omega) (by simp; omega) (by omega)
      refine ⟨r, Ev.step (fun k => ?_) hr, hrl, hr0, hr1⟩
      rw [spec_l1Cur_favourites.l1, e, Option.bind_some]
      dsimp only
      rw [wrap64_in _ (by omega) (by omega), if_pos hlt, e2, Option.bind_some]
      dsimp only
      rw [if_pos (by omega)]
    · refine ⟨(x, p, a, s), Ev.step (f := fun _ => some (x, p, a, s)) (fun k => ?_) (Ev.now _), by dsimp only; omega, by dsimp only; omega, by dsimp only; omega⟩
      rw [spec_l1Cur_favourites.l1, e, Option.bind_some]
      dsimp only
      rw [wrap64_in _ (by omega) (by omega), if_neg hlt]
theorem fav_l0 {code : List Int} (hc : Bytes code) (p : Int) (hp : 1 ≤ p ∧ p ≤ 12) : ∀ (d : Nat) (x : List Int) (at_ seed : Int), x.length + d ≤ 90 → 0 ≤ at_ ∧ at_ ≤ 400000 - 4 * (d : Int) →
    ∃ r, Ev (fun k => spec_l1Cur_favourites.l0 k p x (d : Int) code at_ seed) r ∧ r.1.length ≤ 110 ∧ 0 ≤ r.2.2.1 ∧ r.2.2.1 ≤ 600000 := by
  intro d
  induction d with
  | zero =>
    intro x at_ seed hx ha
    obtain ⟨b, a, s, e, hb0, hb1, ha0, ha1⟩ := pick_ok hc at_ seed 20 (by omega) (by decide)
    have hstep : ∀ k, spec_l1Cur_favourites.l0 (k + 1) p x ((0 : Nat) : Int) code at_ seed = _ := fun k => by rw [spec_l1Cur_favourites.l0, if_neg (by decide), e, Option.bind_some]
    dsimp only at hstep
    by_cases h0 : b = 0
    · obtain ⟨y, a2, s2, e2, hy, hb20, hb21⟩ := among_ok hc a s [(-1), p, 0, 4611686018427387904] (by simp) (by simp) (by omega)
      refine ⟨(x ++ [y], p, a2, s2), Ev.step (f := fun _ => some (x ++ [y], p, a2, s2)) (fun k => ?_) (Ev.now _), by dsimp only; simp; omega, by dsimp only; omega, by dsimp only; omega⟩
      rw [hstep, if_pos h0, e2, Option.bind_some]
      dsimp only
      rw [if_pos (by omega)]
    · by_cases h1 : b = 1
      · obtain ⟨r, hr, hrl, hr0, hr1⟩ := fav_l1 hc p hp (9 - x.length) x a s rfl (by omega) (by omega)
        refine ⟨r, Ev.step (fun k => ?_) hr, hrl, hr0, hr1⟩
        rw [hstep, if_neg h0, if_pos h1]
      · by_cases h2 : b = 2
        · obtain ⟨y, a2, s2, e2, hy, hb20, hb21⟩ := among_ok hc a s [0, (-1), 12, 13] (by simp) (by simp) (by omega)
          refine ⟨(x, y, a2, s2), Ev.step (f := fun _ => some (x, y, a2, s2)) (fun k => ?_) (Ev.now _), by dsimp only; omega, by dsimp only; omega, by dsimp only; omega⟩
          rw [hstep, if_neg h0, if_neg h1, if_pos h2, e2, Option.bind_some]
        · refine ⟨(x, p, a, s), Ev.step (f := fun _ => some (x, p, a, s)) (fun k => ?_) (Ev.now _), by dsimp only; omega, by dsimp only; omega, by dsimp only; omega⟩
          rw [hstep, if_neg h0, if_neg h1, if_neg h2]
  | succ d ih =>
    intro x at_ seed hx ha
    obtain ⟨b, a, s, e, hb0, hb1, ha0, ha1⟩ := pick_ok hc at_ seed p (by omega) (by omega)
    have hb := hb1 hp.1
    have hm := most_eq 1 (wrap64 (p - b))
    have hml : (if (1 : Int) > wrap64 (p - b) then 1 else wrap64 (p - b)) ≤ 1000000 := by
      rw [wrap64_in _ (by omega) (by omega)]
      split <;> omega
    obtain ⟨b2, a2, s2, e2, _, _, hb20, hb21⟩ := pick_ok hc a s _ (by omega) hml
    obtain ⟨r, hr, hrl, hr0, hr1⟩ := ih (x ++ [b2]) a2 s2 (by simp; omega) (by omega)
    refine ⟨r, Ev.step (fun k => ?_) hr, hrl, hr0, hr1⟩
    rw [spec_l1Cur_favourites.l0, if_pos (by omega), e, Option.bind_some]
    dsimp only
    rw [hm, Option.bind_some, e2, Option.bind_some]
    dsimp only
    rw [if_pos (by omega), wrap64_in _ (by omega) (by omega), show (((d + 1 : Nat) : Int) - 1) = (d : Int) by omega]
theorem fav_ok {code : List Int} (hc : Bytes code) (at_ seed : Int) (ha : 0 ≤ at_ ∧ at_ ≤ 100000) : ∃ r, Ev (fun k => spec_l1Cur_favourites.f k code at_ seed) r ∧ r.1.length ≤ 110 ∧ 0 ≤ r.2.2.1 ∧ r.2.2.1 ≤ 600000 := by
  obtain ⟨v, a, s, e, hv, ha0, ha1⟩ := among_ok hc at_ seed [4, 7, 12] (by simp) (by simp) (by omega)
  have hv2 : 1 ≤ v ∧ v ≤ 12 := by
    simp only [List.mem_cons, List.not_mem_nil, or_false] at hv
    omega
  obtain ⟨b, a2, s2, e2, hb0, hb1, hb20, hb21⟩ := pick_ok hc a s v (by omega) (by omega)
  have hb := hb1 hv2.1
  have w1 : wrap64 (1 + b) = 1 + b := wrap64_in _ (by omega) (by omega)
  obtain ⟨z, ez, hz, hz1, hz2⟩ := least_eq (1 + b) 8
  have w2 : wrap64 (z + 1) = z + 1 := wrap64_in _ (by omega) (by omega)
  obtain ⟨c, a3, s3, e3, hc0, hc1, hc20, hc21⟩ := pick_ok hc a2 s2 (z + 1) (by omega) (by omega)
  have hcc := hc1 (by omega)
  obtain ⟨r, hr, hrl, hr0, hr1⟩ := fav_l0 hc (1 + b) (by omega) c.toNat [] a3 s3 (by simp; omega) (by omega)
  rw [show ((c.toNat : Nat) : Int) = c by omega] at hr
  refine ⟨r, ?_, hrl, hr0, hr1⟩
  unfold spec_l1Cur_favourites.f
  refine Ev.bindc e (Ev.bindc e2 ?_)
  dsimp only
  rw [w1]
  refine Ev.bindc ez ?_
  rw [w2]
  exact Ev.bindc e3 hr
theorem parked_l0 {code : List Int} (a s : Int) (q : Int) : ∀ (d n : Nat) (x : List Int), n + d = x.length → x.length ≤ 1000 → ∃ r, Ev (fun k => spec_l1Cur_parked.l0 k x q (x.length : Int) (n : Int) code a s) r ∧ r.1.length = x.length := by
  intro d
  induction d with
  | zero =>
    intro n x hn hx
    refine ⟨(x, q, a, s), Ev.step (f := fun _ => some (x, q, a, s)) (fun k => ?_) (Ev.now _), rfl⟩
    rw [spec_l1Cur_parked.l0, if_neg (by omega)]
  | succ d ih =>
    intro n x hn hx
    by_cases h : rd x (n : Int) ≥ 0 ∧ rd x (n : Int) < 90
    · obtain ⟨r, hr, hl⟩ := ih (n + 1) (x.set n (wrap64 (rd x (n : Int) + wrap64 (q - (x.length : Int))))) (by rw [List.length_set]; omega) (by rw [List.length_set]; exact hx)
      rw [List.length_set] at hr hl
      refine ⟨r, Ev.step (fun k => ?_) hr, hl⟩
      rw [spec_l1Cur_parked.l0, if_pos (by omega), if_pos (by omega), if_pos (by omega), if_pos h.1, if_pos h.2, wrap_succ n (by omega), Int.toNat_natCast]
    · obtain ⟨r, hr, hl⟩ := ih (n + 1) x (by omega) hx
      refine ⟨r, Ev.step (fun k => ?_) hr, hl⟩
      rw [spec_l1Cur_parked.l0, if_pos (by omega), if_pos (by omega), if_pos (by omega), wrap_succ n (by omega)]
      by_cases h1 : rd x (n : Int) ≥ 0
      · rw [if_pos h1, if_neg (fun h2 => h ⟨h1, h2⟩)]
      · rw [if_neg h1]
theorem parked_ok {code : List Int} (hc : Bytes code) : ∃ r, Ev (fun k => spec_l1Cur_parked.f k code 0 0) r ∧ r.1.length ≤ 110 := by
  obtain ⟨b, a, s, e, ha0, ha1⟩ := one_ok hc 0 0 4 (by decide) (by decide)
  cases b with
  | true =>
    obtain ⟨r, hr, hrl, _⟩ := fav_ok hc a s (by omega)
    refine ⟨r, ?_, hrl⟩
    unfold spec_l1Cur_parked.f
    exact Ev.bindc e (Ev.pos rfl (Ev.bind hr (Ev.now _)))
  | false =>
    obtain ⟨r, hr, hrl, hr0, hr1⟩ := park_at hc a s (by omega) 6 (by decide)
    obtain ⟨b2, a2, s2, e2, _, _, hb20, hb21⟩ := pick_ok hc r.2.1 r.2.2 4 (by omega) (by decide)
    obtain ⟨b3, a3, s3, e3, hb30, hb31⟩ := one_ok hc a2 s2 2 (by omega) (by decide)
    cases b3 with
    | true =>
      obtain ⟨q, hq, hql⟩ := parked_l0 (code := code) a3 s3 (wrap64 ((r.1.length : Int) + b2)) r.1.length 0 r.1 (by omega) (by omega)
      refine ⟨q, ?_, by omega⟩
      unfold spec_l1Cur_parked.f
      exact Ev.bindc e (Ev.neg (by simp) (Ev.bind hr (Ev.bindc e2 (Ev.bindc e3 (Ev.pos rfl hq)))))
    | false =>
      refine ⟨(r.1, wrap64 ((r.1.length : Int) + b2), a3, s3), ?_, by dsimp only; omega⟩
      unfold spec_l1Cur_parked.f
      exact Ev.bindc e (Ev.neg (by simp) (Ev.bind hr (Ev.bindc e2 (Ev.bindc e3 (Ev.neg (by simp) (Ev.now _))))))
theorem out_j1 {code : List Int} (hc : Bytes code) (n : Int) (x : List Int) (hx : x.length ≤ 1000) (at_ seed : Int) (ha : 0 ≤ at_ ∧ at_ ≤ 800000) (b : Bool) (hb : b = true → 0 < x.length) : ∃ r, Ev (fun k => spec_l1Cur_outcome.j1 k n x b code at_ seed) r ∧ r.1.length = x.length := by
  cases b with
  | false =>
    refine ⟨(x, at_, seed), Ev.step (f := fun _ => some (x, at_, seed)) (fun k => ?_) (Ev.now _), rfl⟩
    rw [spec_l1Cur_outcome.j1, if_neg (by decide)]
  | true =>
    have h0 := hb rfl
    obtain ⟨y, a, s, e, hy0, hy1, ha0, ha1⟩ := pick_ok hc at_ seed (x.length : Int) (by omega) (by omega)
    have hy := hy1 (by omega)
    obtain ⟨z, a2, s2, e2, _, _, _⟩ := among_ok hc a s [(-1), 0, n] (by simp) (by simp) (by omega)
    refine ⟨(x.set y.toNat z, a2, s2), Ev.step (f := fun _ => some (x.set y.toNat z, a2, s2)) (fun k => ?_) (Ev.now _), by dsimp only; rw [List.length_set]⟩
    rw [spec_l1Cur_outcome.j1, if_pos rfl, e, Option.bind_some]
    dsimp only
    rw [e2, Option.bind_some]
    dsimp only
    rw [if_pos hy0, if_pos hy]
theorem out_l0 {code : List Int} (hc : Bytes code) (n : Nat) (hn : n ≤ 200) : ∀ (d : Nat) (x : List Int) (at_ seed : Int), x.length + d = n → 0 ≤ at_ ∧ at_ ≤ 790000 - 2 * (d : Int) → ∃ r, Ev (fun k => spec_l1Cur_outcome.l0 k (n : Int) x (x.length : Int) code at_ seed) r ∧ r.1.length ≤ n := by
  intro d
  induction d with
  | zero =>
    intro x at_ seed hx ha
    by_cases h0 : (x.length : Int) > 0
    · obtain ⟨b, a, s, e, ha0, ha1⟩ := one_ok hc at_ seed 20 (by omega) (by decide)
      obtain ⟨r, hr, hl⟩ := out_j1 hc (n : Int) x (by omega) a s (by omega) b (fun _ => by omega)
      refine ⟨r, Ev.step (f := fun k => spec_l1Cur_outcome.j1 k (n : Int) x b code a s) (fun k => ?_) hr, by omega⟩
      rw [spec_l1Cur_outcome.l0, if_neg (by omega), if_pos h0, e, Option.bind_some]
    · obtain ⟨r, hr, hl⟩ := out_j1 hc (n : Int) x (by omega) at_ seed (by omega) false (by simp)
      refine ⟨r, Ev.step (f := fun k => spec_l1Cur_outcome.j1 k (n : Int) x false code at_ seed) (fun k => ?_) hr, by omega⟩
      rw [spec_l1Cur_outcome.l0, if_neg (by omega), if_neg h0]
  | succ d ih =>
    intro x at_ seed hx ha
    obtain ⟨z, a, s, e, hz0, hz1, ha0, ha1⟩ := pick_ok hc at_ seed ((x.length : Int) + 1) (by omega) (by omega)
    have hz := hz1 (by omega)
    have hlen : (x.take z.toNat ++ [(x.length : Int)] ++ x.drop z.toNat).length = x.length + 1 := by simp; omega
    obtain ⟨r, hr, hl⟩ := ih (x.take z.toNat ++ [(x.length : Int)] ++ x.drop z.toNat) a s (by omega) (by omega)
    rw [hlen] at hr
    refine ⟨r, Ev.step (fun k => ?_) hr, hl⟩
    rw [spec_l1Cur_outcome.l0, if_pos (by omega), wrap64_in ((x.length : Int) + 1) (by omega) (by omega), e, Option.bind_some]
    dsimp only
    rw [if_pos hz0, if_pos (by omega), own_ok _ (by simp; omega), Option.bind_some, if_pos (by simp; omega), Option.bind_some, Option.bind_some, if_pos (by simp; omega)]
    congr 1
theorem out_ok {code : List Int} (hc : Bytes code) (at_ seed : Int) (n : Nat) (hn : n ≤ 200) (ha : 0 ≤ at_ ∧ at_ ≤ 700000) : ∃ r, Ev (fun k => spec_l1Cur_outcome.f k code at_ seed (n : Int)) r ∧ r.1.length ≤ n := out_l0 hc n hn n [] at_ seed (by simp) (by omega)
theorem draw_reo {code : List Int} (hc : Bytes code) : ∃ r : List Int × List Int, Ev (fun k => spec_DrawReorderCars.f k code) r ∧ r.1.length ≤ 110 ∧ r.2.length ≤ 110 := by
  obtain ⟨f, hf, hfl, hf0, hf1⟩ := fav_ok hc 0 0 (by decide)
  obtain ⟨b, a, s, e, ha0, ha1⟩ := one_ok hc f.2.2.1 f.2.2.2 12 (by omega) (by decide)
  cases b with
  | true =>
    obtain ⟨n, a2, s2, e2, hn0, hn1, ha20, ha21⟩ := pick_ok hc a s 6 (by omega) (by decide)
    have hn := hn1 (by decide)
    obtain ⟨r, hr, hrl⟩ := out_ok hc a2 s2 n.toNat (by omega) (by omega)
    rw [show ((n.toNat : Nat) : Int) = n by omega] at hr
    refine ⟨(f.1, r.1), ?_, hfl, by dsimp only; omega⟩
    unfold spec_DrawReorderCars.f
    exact Ev.bind hf (Ev.bindc e (Ev.pos rfl (Ev.bindc e2 (Ev.bind hr (Ev.now _)))))
  | false =>
    obtain ⟨r, hr, hrl⟩ := out_ok hc a s f.1.length (by omega) (by omega)
    refine ⟨(f.1, r.1), ?_, hfl, by dsimp only; omega⟩
    unfold spec_DrawReorderCars.f
    exact Ev.bind hf (Ev.bindc e (Ev.neg (by simp) (Ev.bind hr (Ev.now _))))
/-! ### The law's own functions -/
theorem jSame_l0 (l : List Int) (hs : l.length ≤ 1000000) : ∀ (d n : Nat), n + d = l.length → Ev (fun k => laws_jSame.l0 k l l (l.length : Int) (n : Int)) true := by
  intro d
  induction d with
  | zero =>
    intro n hn
    refine Ev.step (f := fun _ => some true) (fun k => ?_) (Ev.now _)
    rw [laws_jSame.l0, if_neg (by omega)]
  | succ d ih =>
    intro n hn
    refine Ev.step (fun k => ?_) (ih (n + 1) (by omega))
    rw [laws_jSame.l0, if_pos (by omega), if_pos (by omega), if_pos (by omega), if_pos (by omega), if_pos rfl, wrap_succ n (by omega)]
theorem jSame_ev (l : List Int) (hs : l.length ≤ 1000000) : Ev (fun k => laws_jSame.f k l l) true := by
  unfold laws_jSame.f
  exact Ev.pos rfl (jSame_l0 l hs l.length 0 (by omega))
theorem jSum_l0 (l : List Int) (h8 : l.length ≤ 100) (hb : ∀ x ∈ l, -1000 ≤ x ∧ x ≤ 1000) : ∀ (d n : Nat), n + d = l.length → Ev (fun k => laws_jSum.l0 k (sm (l.take n)) l (l.length : Int) (n : Int)) (sm l) := by
  intro d
  induction d with
  | zero =>
    intro n hn
    obtain rfl : n = l.length := by omega
    rw [List.take_length]
    refine Ev.step (f := fun _ => some (sm l)) (fun k => ?_) (Ev.now _)
    rw [laws_jSum.l0, if_neg (by omega)]
  | succ d ih =>
    intro n hn
    have h := ih (n + 1) (by omega)
    have hr := acc_in l h8 hb (n + 1)
    rw [take_next l n (by omega), sm_append] at h hr
    simp only [sm, Int.add_zero] at h hr
    refine Ev.step (fun k => ?_) h
    rw [laws_jSum.l0, if_pos (by omega), if_pos (by omega), if_pos (by omega), wrap_succ n (by omega), wrap64_in _ (by omega) (by omega)]
theorem jSum_ev (l : List Int) (h8 : l.length ≤ 100) (hb : ∀ x ∈ l, -1000 ≤ x ∧ x ≤ 1000) : Ev (fun k => laws_jSum.f k l) (sm l) := jSum_l0 l h8 hb l.length 0 (by omega)
theorem number_l0 {b : List Int} (hb : Bytes b) (hl : b.length ≤ 2000000) : ∀ (d n : Nat) (v : Int), n + d = b.length → 0 ≤ v ∧ v < 1000003 → ∃ r, Ev (fun k => laws_numberOf.l0 k v b (b.length : Int) (n : Int)) r ∧ 0 ≤ r := by
  intro d
  induction d with
  | zero =>
    intro n v hn hv
    refine ⟨v, Ev.step (f := fun _ => some v) (fun k => ?_) (Ev.now _), hv.1⟩
    rw [laws_numberOf.l0, if_neg (by omega)]
  | succ d ih =>
    intro n v hn hv
    have hx := rd_bytes hb (n : Int)
    have e : Int.tmod (wrap64 (wrap64 (31 * v) + wrap64 (rd b (n : Int)))) 1000003 = (31 * v + rd b (n : Int)) % 1000003 := by
      rw [wrap64_in (31 * v) (by omega) (by omega), wrap64_in (rd b (n : Int)) (by omega) (by omega), wrap64_in _ (by omega) (by omega), Int.tmod_eq_emod_of_nonneg (by omega)]
    obtain ⟨r, hr, h0⟩ := ih (n + 1) ((31 * v + rd b (n : Int)) % 1000003) (by omega) (by omega)
    refine ⟨r, Ev.step (fun k => ?_) hr, h0⟩
    rw [laws_numberOf.l0, if_pos (by omega), if_pos (by omega), if_pos (by omega), e, wrap_succ n (by omega)]
theorem number_ev {b : List Int} (hb : Bytes b) (hl : b.length ≤ 2000000) : ∃ r, Ev (fun k => laws_numberOf.f k b) r ∧ 0 ≤ r := number_l0 hb hl b.length 0 0 (by omega) (by omega)
theorem swapped_eq (l : List Int) (hl : l.length ≤ 1000) (a : Nat) (ha : a + 1 < l.length) : laws_jSwapped.f l (a : Int) = some ((l.set a l[a + 1]).set (a + 1) (l[a]'(by omega))) := by
  unfold laws_jSwapped.f
  rw [Option.bind_some]
  rw [if_pos (by simp; omega), Option.bind_some, List.nil_append, wrap_succ a (by omega), if_pos (by omega), if_pos (by omega), if_pos (by omega), if_pos (by omega), rd_nat l (a + 1) ha, rd_nat l a (by omega), Int.toNat_natCast, Int.toNat_natCast]
/-! ### The program's functions, where all cars park -/
theorem dist_of {l : List Int} {p : Int} (h : all l p = true) : Ev (fun k => impl_DistancesOf.f k l p) (dst (sdrive p [] l) l l.length, true) := by
  have hg := all_good h
  have h8 := good_cars hg.1
  have hd := LeastGreatest.driveCars_ev hg.1
  rw [if_neg hg.2] at hd
  unfold impl_DistancesOf.f
  refine Ev.bind hd ?_
  have h1 := distancesOf_l0 (sdrive p [] l) l true (s_len p l) (by omega) l.length 0 (by omega)
  have e : dst (sdrive p [] l) l 0 ++ (sdrive p [] l).drop 0 = sdrive p [] l := by simp [dst]
  rw [e] at h1
  exact h1
theorem dst_low {l : List Int} {p : Int} (h : all l p = true) : ∀ x ∈ dst (sdrive p [] l) l l.length, 0 ≤ x ∧ x ≤ 100 := by
  intro x hx
  obtain ⟨i, hi, rfl⟩ := (dst_mem h x).1 hx
  have hs : i < (sdrive p [] l).length := by rw [s_len]; exact hi
  have h1 := s_in h i hi hs
  have hp := good_places (all_good h).1
  rw [rd_nat _ i hs, rd_nat l i hi]
  omega
theorem total_of {l : List Int} {p : Int} (h : all l p = true) : Ev (fun k => impl_TotalDistance.f k l p) (sm (W l p), true) := by
  have hg := all_good h
  have h8 := good_cars hg.1
  have hp := good_places hg.1
  have hlen := s_len p l
  unfold impl_TotalDistance.f
  refine Ev.bind (dist_of h) ?_
  have ht := total_ev (dst (sdrive p [] l) l l.length) (by rw [dst_length]; omega) (fun x hx => by have := dst_low h x hx; omega)
  have hs := sm_dst (sdrive p [] l) l hlen (fun x hx => by
    obtain ⟨i, hi, rfl⟩ := List.mem_iff_getElem.1 hx
    have := s_in h i (by omega) hi
    omega) (fun x hx => by have := good_in hg.1 x hx; omega) l.length (Nat.le_refl _)
  rw [List.take_of_length_le (by omega), List.take_length] at hs
  rw [hs, ← (W_facts h).2.2] at ht
  exact Ev.bind ht (Ev.now _)
theorem lucky_of {l : List Int} {p : Int} (h : all l p = true) : Ev (fun k => impl_LuckyCars.f k l p) (idxT (fun x => decide (x = 0)) (dst (sdrive p [] l) l l.length) l.length, true) := by
  have h8 := good_cars (all_good h).1
  unfold impl_LuckyCars.f
  refine Ev.bind (dist_of h) (Ev.pos rfl (Ev.pos ?_ ?_))
  · simp only [dst_length]; omega
  · simp only [dst_length]; exact Ev.now _
theorem lucky_le {l t q : List Int} {p : Int} (ht : all t p = true) (hp : t.Perm l) (hq : ∀ y ∈ l, y ∈ q) : (idxT (fun x => decide (x = 0)) (dst (sdrive p [] t) t t.length) t.length).length ≤ q.length := by
  refine lucky_few (s := sdrive p [] t) (l := t) (s_nodup (all_good ht).2) (s_len p t) (idxT_rise _ _ _) (fun x hx => ?_) (fun y hy => hq y (hp.mem_iff.1 hy))
  have h1 := idxT_in _ _ _ x hx
  obtain ⟨n, rfl⟩ := Int.eq_ofNat_of_zero_le h1.1
  have hn : n < t.length := by omega
  have h2 := of_decide_eq_true h1.2.2
  rw [rd_nat _ n (by rw [dst_length]; exact hn), dst_at ht n hn] at h2
  exact ⟨h1.1, h1.2.1, by omega⟩
theorem waits_of {l : List Int} {p : Int} (h : all l p = true) : Ev (fun k => impl_WaitsOf.f k l p) (W l p, true) := by
  have := WaitsOf.impl_ev l p
  unfold WaitsOf.res at this
  rw [if_pos (all_good h)] at this
  exact this
/-! ### The loops -/
theorem far_l1 (l : List Int) (p L G M : Int) (Gok : Bool) (F Wl : List Int) (rows : List (List Int)) (i : Nat) (hi : i < 1000) (far : List Int) (hfar : far.length ≤ 1000) : ∀ (d n : Nat) (g : Int), n + d = far.length →
    ∃ g', (∀ a, g' ≤ a ↔ g ≤ a ∧ ∀ x ∈ far.drop n, x ≤ a) ∧ ∀ r, L ≤ g' → (Gok = true → g' ≤ G) → Ev (fun k => laws_FnValets.l0 k l p L G Gok M F Wl rows (rows.length : Int) ((i + 1 : Nat) : Int)) r →
      Ev (fun k => laws_FnValets.l1 k l p L G Gok M F Wl g rows (rows.length : Int) (i : Int) far (far.length : Int) (n : Int)) r := by
  intro d
  induction d with
  | zero =>
    intro n g hn
    refine ⟨g, fun a => ?_, fun r h1 h2 h3 => ?_⟩
    · rw [List.drop_eq_nil_of_le (by omega)]
      simp
    · refine Ev.step (fun k => ?_) h3
      rw [laws_FnValets.l1, if_neg (by omega), if_neg (by omega), wrap_succ i (by omega)]
      cases Gok with
      | true => rw [if_pos rfl, if_neg (by have := h2 rfl; omega)]
      | false => rw [if_neg (by decide)]
  | succ d ih =>
    intro n g hn
    have hlt : n < far.length := by omega
    rw [List.drop_eq_getElem_cons hlt]
    by_cases h : far[n] > g
    · obtain ⟨g', h1, h2⟩ := ih (n + 1) far[n] (by omega)
      refine ⟨g', fun a => ?_, fun r a1 a2 a3 => Ev.step (fun k => ?_) (h2 r a1 a2 a3)⟩
      · rw [h1 a, List.forall_mem_cons]
        constructor
        · rintro ⟨x1, x2⟩
          exact ⟨by omega, x1, x2⟩
        · rintro ⟨x1, x2, x3⟩
          exact ⟨x2, x3⟩
      · rw [laws_FnValets.l1, if_pos (by omega), if_pos (by omega), if_pos (by omega), rd_nat far n hlt, if_pos h, wrap_succ n (by omega)]
    · obtain ⟨g', h1, h2⟩ := ih (n + 1) g (by omega)
      refine ⟨g', fun a => ?_, fun r a1 a2 a3 => Ev.step (fun k => ?_) (h2 r a1 a2 a3)⟩
      · rw [h1 a, List.forall_mem_cons]
        constructor
        · rintro ⟨x1, x2⟩
          exact ⟨x1, by omega, x2⟩
        · rintro ⟨x1, x2, x3⟩
          exact ⟨x1, x3⟩
      · rw [laws_FnValets.l1, if_pos (by omega), if_pos (by omega), if_pos (by omega), rd_nat far n hlt, if_neg h, wrap_succ n (by omega)]
theorem rdL_nat (L : List (List Int)) (i : Nat) (h : i < L.length) : rd_L3 L (i : Int) = L[i] := by
  unfold rd_L3
  rw [Int.toNat_natCast, List.getD_eq_getElem?_getD, List.getElem?_eq_getElem h]
  rfl
/-- What the loop over the two lists is told. -/
structure ToldV (l : List Int) (p L G M : Int) (Gok : Bool) : Prop where
  all : all l p = true
  least : IsG L (LeastGreatest.fcars l) p
  most : Gok = true → l.length ≤ 6 ∧ G = GreatestGreatest.gmax l p 0 (GreatestGreatest.enumO l.length l.length [])
  lucky : ∃ q : List Int, M = (q.length : Int) ∧ ∀ y ∈ l, y ∈ q
theorem rows_l0 {l : List Int} {p L G M : Int} {Gok : Bool} (T : ToldV l p L G M Gok) (F : List Int) (rows : List (List Int)) (hrows : rows.length ≤ 2) (ht : ∀ t ∈ rows, Turn l t) (r : Bool)
    (hend : Ev (fun k => (impl_ReorderCars.f k l F).bind fun bt695 => laws_FnValets.l2 k bt695.1 bt695.2 1) r) : ∀ (d n : Nat), n + d = rows.length → Ev (fun k => laws_FnValets.l0 k l p L G Gok M F (W l p) rows (rows.length : Int) (n : Int)) r := by
  intro d
  induction d with
  | zero =>
    intro n hn
    refine Ev.step (fun k => ?_) hend
    rw [laws_FnValets.l0, if_neg (by omega)]
  | succ d ih =>
    intro n hn
    have hlt : n < rows.length := by omega
    obtain ⟨hperm, o, ho, hol, hoe⟩ := ht rows[n] (List.getElem_mem hlt)
    have htall := all_perm T.all hperm
    have h8 := good_cars (all_good htall).1
    have hp := good_places (all_good htall).1
    refine Ev.step (f := ?f1) (fun k => ?h1) ?g1
    case h1 => rw [laws_FnValets.l0, if_pos (by omega), if_pos (by omega), if_pos (by omega), rdL_nat rows n hlt]
    obtain ⟨q, hM, hq⟩ := T.lucky
    have hle := lucky_le htall hperm hq
    have hwp := W_perm hperm.symm T.all htall
    have hw := waits_of htall
    rw [hwp] at hw
    refine Ev.bind (dist_of htall) (Ev.bind (lucky_of htall) (Ev.bind hw (Ev.pos rfl (Ev.pos rfl (Ev.pos rfl (Ev.neg (by dsimp only; omega) (Ev.bind (jSame_ev (W l p) (by rw [(W_facts T.all).1]; omega)) (Ev.pos rfl ?_))))))))
    obtain ⟨g, hg, hgo⟩ := far_l1 l p L G M Gok F (W l p) rows n (by omega) (dst (sdrive p [] rows[n]) rows[n] rows[n].length) (by rw [dst_length]; omega) (dst (sdrive p [] rows[n]) rows[n] rows[n].length).length 0 0 (by omega)
    rw [List.drop_zero] at hg
    refine hgo r (least_le T.all hperm T.least hg) (fun hG => ?_) (ih (n + 1) (by omega))
    have hm := T.most hG
    rw [hm.2]
    rw [hoe] at hg
    exact most_ge T.all hm.1 ho hol hg
theorem sorted_l2 (m : List Int) (hm : m.length ≤ 1000) (hs : m.Pairwise (· ≤ ·)) : ∀ (d n : Nat), n + d = m.length + 1 → 1 ≤ n → Ev (fun k => laws_FnValets.l2 k m true (n : Int)) true := by
  intro d
  induction d with
  | zero =>
    intro n hn h1
    refine Ev.step (f := fun _ => some true) (fun k => ?_) (Ev.now _)
    rw [laws_FnValets.l2, if_neg (by omega)]
  | succ d ih =>
    intro n hn h1
    by_cases hlt : n < m.length
    · refine Ev.step (fun k => ?_) (ih (n + 1) (by omega) (by omega))
      have h2 := List.pairwise_iff_getElem.1 hs (n - 1) n (by omega) hlt (by omega)
      rw [laws_FnValets.l2, if_pos (by omega), if_pos (by omega), wrap64_in ((n : Int) - 1) (by omega) (by omega), if_pos (by omega), if_pos (by omega), show (n : Int) - 1 = ((n - 1 : Nat) : Int) by omega, rd_nat m n hlt, rd_nat m (n - 1) (by omega), if_neg (by omega), wrap_succ n (by omega)]
    · refine Ev.step (f := fun _ => some true) (fun k => ?_) (Ev.now _)
      rw [laws_FnValets.l2, if_neg (by omega)]
theorem end_ok {l : List Int} {p : Int} (h : all l p = true) : Ev (fun k => (impl_ReorderCars.f k l (fairS l)).bind fun bt695 => laws_FnValets.l2 k bt695.1 bt695.2 1) true := by
  have hg := all_good h
  have h8 := good_cars hg.1
  have hp := good_places hg.1
  have hx : ∀ x ∈ l, 0 ≤ x ∧ x < 100 := fun x hx => by have := good_in hg.1 x hx; omega
  have hfp := fairS_perm l h8 hx
  have hfl : (fairS l).length = l.length := by rw [hfp.length_eq, iota_length]
  have hr := ReorderCars.impl_ev l (fairS l) (by omega)
  have ho : order (fairS l) = true := by
    unfold order
    rw [decide_eq_true ((order_iff (fairS l)).2 ⟨hfp.nodup_iff.2 (iota_nodup _), fun x hx2 => by rw [hfl]; exact (iota_mem _ x).1 (hfp.mem_iff.1 hx2)⟩), decide_eq_true (by omega)]
    rfl
  have hgood : good l 12 = true := by
    unfold good
    rw [decide_eq_true (by omega), Bool.true_and, decide_eq_true h8, Bool.true_and, List.all_eq_true]
    intro x hx2
    have := good_in hg.1 x hx2
    exact decide_eq_true (by omega)
  have e : ReorderCars.res l (fairS l) = (LeastGreatest.fcars l, true) := by
    unfold ReorderCars.res
    rw [if_pos ⟨hgood, hfl, ho⟩]
    rfl
  rw [e] at hr
  refine Ev.bind hr ?_
  have hs := fair_sorted h8 hx
  have hl := (LeastGreatest.fcars_perm h8 hx).length_eq
  exact sorted_l2 _ (by rw [hl]; omega) hs (LeastGreatest.fcars l).length 1 (by omega) (by omega)
theorem j2_ok {l l1 : List Int} {p L G M : Int} {Gok : Bool} (T : ToldV l p L G M Gok) (hb : Bytes l1) (hl1 : l1.length ≤ 2000000) : Ev (fun k => laws_FnValets.j1 k l1 l p L G Gok M (fairS l) (W l p) false) true := by
  have h8 := good_cars (all_good T.all).1
  have j3 : ∀ t, Turn l t → Ev (fun k => laws_FnValets.j2 k l p L G Gok M (fairS l) (W l p) t) true := fun t ht => by
    refine Ev.step (f := ?f1) (fun k => ?h1) ?g1
    case h1 => rw [laws_FnValets.j2, Option.bind_some]
    exact rows_l0 T (fairS l) [l, t] (by simp) (fun x hx => by
      simp only [List.mem_cons, List.not_mem_nil, or_false] at hx
      rcases hx with rfl | rfl
      · exact turn_self _
      · exact ht) true (end_ok T.all) 2 0 rfl
  refine Ev.step (f := ?f2) (fun k => ?h2) ?g2
  case h2 => rw [laws_FnValets.j1, if_neg (by decide)]
  by_cases h1 : (l.length : Int) > 1
  · obtain ⟨n, hn, hn0⟩ := number_ev hb hl1
    have w : wrap64 ((l.length : Int) - 1) = (l.length : Int) - 1 := wrap64_in _ (by omega) (by omega)
    have hm0 := Int.tmod_nonneg ((l.length : Int) - 1) hn0
    have hm1 := Int.tmod_lt_of_pos n (show (0 : Int) < (l.length : Int) - 1 by omega)
    refine Ev.pos h1 (Ev.bind hn ?_)
    rw [w]
    obtain ⟨a, ha⟩ := Int.eq_ofNat_of_zero_le hm0
    rw [ha] at hm1 ⊢
    exact Ev.neg (by omega) (Ev.bindc (swapped_eq l (by omega) a (by omega)) (j3 _ (turn_swap l a (by omega))))
  · exact Ev.neg h1 (j3 l (turn_self l))
theorem j0_ok {l1 : List Int} (hb : Bytes l1) {l : List Int} {p L G M : Int} {ok Gok : Bool} {F Wl : List Int} (h : Ev (fun k => if ok = true then ((impl_TotalDistance.f k l p).bind fun bt670 => (if bt670.2 = true then ((laws_jSum.f k Wl).bind fun t672 => (if t672 = bt670.1 then (if Gok = true then (laws_FnValets.j1 k l1 l p L G Gok M F Wl (decide (L > G))) else (laws_FnValets.j1 k l1 l p L G Gok M F Wl false)) else none)) else none)) else some true) true) : Ev (fun k => laws_FnValets.j0 k l1 l p L ok G Gok M F Wl false) true := by
  obtain ⟨r, hr, h1, h2⟩ := draw_reo hb
  have hres := ReorderCars.res_length r.1 r.2
  refine Ev.step (f := ?f1) (fun k => ?h1) ?g1
  case h1 => rw [laws_FnValets.j0, if_neg (by decide)]
  exact Ev.bind hr (Ev.bind (ReorderCars.impl_ev r.1 r.2 (by omega)) (Ev.bind (ReorderCars.spec_ev r.1 r.2) (Ev.neg (by rw [bne_self_eq_false]; decide) (Ev.bind (jSame_ev _ (by omega)) (Ev.pos rfl h)))))
end Valets
open Valets in
theorem FnValets : laws_FnValets.Pure := by
  intro l0 l1 _ _ hw0 _ _ hw1
  refine Ev.rounds ?_
  have hb0 := bytes_of hw0
  have hb1 := bytes_of hw1
  unfold laws_FnValets.f laws_big.f
  by_cases hb : (l0.length : Int) > 1048576
  · rw [if_pos hb]
    exact Ev.bindc rfl (Ev.pos rfl (Ev.now _))
  rw [if_neg hb]
  refine Ev.bindc rfl ?_
  by_cases hb2 : decide ((l1.length : Int) > wrap64 (1048576 - (l0.length : Int))) = true
  · exact Ev.pos hb2 (Ev.now _)
  have hl1 : l1.length ≤ 2000000 := by
    rw [decide_eq_true_eq, wrap64_in _ (by omega) (by omega)] at hb2
    omega
  refine Ev.neg hb2 ?_
  obtain ⟨q, hq, hql⟩ := parked_ok hb0
  obtain ⟨l, hl⟩ : ∃ l, l = q.1 := ⟨_, rfl⟩
  obtain ⟨p, hp⟩ : ∃ p, p = q.2.1 := ⟨_, rfl⟩
  have hd : Ev (fun k => spec_DrawLeastGreatest.f k l0) (l, p) := by
    unfold spec_DrawLeastGreatest.f
    refine Ev.bind hq ?_
    rw [← hl, ← hp]
    exact Ev.now _
  have hLv := LeastGreatest.res_val l p
  have hGv := GreatestGreatest.res_val l p
  have hMv := MostLucky.res_val l p
  have hFl := FairOrder.res_length l p
  have hWl := WaitsOf.res_length l p
  refine Ev.bind hd (Ev.bind (LeastGreatest.impl_ev l p) (Ev.bind (LeastGreatest.spec_ev l p) (Ev.bind (GreatestGreatest.impl_ev l p) (Ev.bind (GreatestGreatest.spec_ev l p) (Ev.bind (MostLucky.impl_ev l p) (Ev.bind (MostLucky.spec_ev l p) (Ev.bind (FairOrder.impl_ev l p) (Ev.bind (FairOrder.spec_ev l p) (Ev.bind (WaitsOf.impl_ev l p) (Ev.bind (WaitsOf.spec_ev l p) ?_))))))))))
  refine Ev.neg (by rw [bne_self_eq_false]; decide) (Ev.pos rfl (Ev.neg (by rw [bne_self_eq_false]; decide) (Ev.pos rfl (Ev.neg (by rw [bne_self_eq_false]; decide) (Ev.pos rfl (Ev.neg (by rw [bne_self_eq_false]; decide) (Ev.bind (jSame_ev _ (by omega)) (Ev.pos rfl (Ev.neg (by rw [bne_self_eq_false]; decide) (Ev.bind (jSame_ev _ (by omega)) (Ev.pos rfl ?_)))))))))))
  have eF : FairOrder.res l p = if all l p = true then (fairS l, true) else ([], false) := rfl
  have eW : WaitsOf.res l p = if all l p = true then (W l p, true) else ([], false) := by
    unfold WaitsOf.res
    by_cases h : all l p = true
    · rw [if_pos h, if_pos (all_good h)]
      rfl
    · rw [if_neg h, if_neg (fun h2 => h (by unfold all; rw [h2.1, decide_eq_false h2.2]; rfl))]
  have eL : (LeastGreatest.res l p).2 = all l p := hLv.1
  have eM : (MostLucky.res l p).2 = all l p := hMv.1
  have eG : GreatestGreatest.res l p = if all l p = true ∧ l.length ≤ 6 then (GreatestGreatest.gmax l p 0 (GreatestGreatest.enumO l.length l.length []), true) else (0, false) := hGv
  cases hA : all l p with
  | false =>
    rw [hA] at eL eM
    rw [if_neg (by rw [hA]; decide)] at eF eW
    rw [if_neg (by rw [hA]; simp)] at eG
    rw [eL, eM, eF, eW, eG]
    refine Ev.neg (by simp) (Ev.neg (by simp) (Ev.neg (by simp) (Ev.neg (by simp) ?_)))
    exact j0_ok hb1 (Ev.neg (by decide) (Ev.now _))
  | true =>
    rw [hA] at eL eM
    rw [if_pos hA] at eF eW
    have hWf := W_facts hA
    have hgood := all_good hA
    have h8 := good_cars hgood.1
    have hpl := good_places hgood.1
    obtain ⟨Gok, hGok⟩ : ∃ b, b = decide (l.length ≤ 6) := ⟨_, rfl⟩
    obtain ⟨G, hG⟩ : ∃ g, g = (GreatestGreatest.res l p).1 := ⟨_, rfl⟩
    have eG2 : (GreatestGreatest.res l p).2 = Gok := by
      rw [eG, hGok]
      by_cases h6 : l.length ≤ 6
      · rw [if_pos ⟨hA, h6⟩, decide_eq_true h6]
      · rw [if_neg (fun h => h6 h.2), decide_eq_false h6]
    have T : ToldV l p (LeastGreatest.res l p).1 G (MostLucky.res l p).1 Gok := {
      all := hA
      least := hLv.2 hA
      most := fun h => by
        have h6 : l.length ≤ 6 := of_decide_eq_true (hGok ▸ h)
        rw [hG, eG, if_pos ⟨hA, h6⟩]
        exact ⟨h6, rfl⟩
      lucky := hMv.2 hA }
    rw [eL, eM, eF, eW, eG2, ← hG]
    refine Ev.neg (by simp) (Ev.neg (by simp) (Ev.neg (by simp) (Ev.pos rfl ?_)))
    have e6 : (Gok != decide ((l.length : Int) ≤ 6)) = false := by
      rw [hGok, show decide ((l.length : Int) ≤ 6) = decide (l.length ≤ 6) from decide_eq_decide.2 (by omega)]
      simp
    rw [e6]
    refine j0_ok hb1 (Ev.pos rfl ?_)
    refine Ev.bind (total_of hA) (Ev.pos rfl (Ev.bind (jSum_ev (W l p) (by rw [hWf.1]; omega) (W_in hA)) (Ev.pos rfl ?_)))
    cases hGk : Gok with
    | false =>
      rw [hGk] at T
      exact Ev.neg (by decide) (j2_ok T hb1 hl1)
    | true =>
      rw [hGk] at T
      refine Ev.pos rfl ?_
      have hle : (LeastGreatest.res l p).1 ≤ G := by
        have hm := T.most rfl
        rw [hm.2]
        have hx : ∀ x ∈ l, 0 ≤ x ∧ x < 100 := fun x hx => by have := good_in hgood.1 x hx; omega
        have hfp := fairS_perm l h8 hx
        exact most_ge hA hm.1 (o := fairS l) ⟨hfp.nodup_iff.2 (iota_nodup _), fun x hx => (iota_mem _ x).1 (hfp.mem_iff.1 hx)⟩ (by rw [hfp.length_eq, iota_length]) T.least
      rw [decide_eq_false (by omega)]
      exact j2_ok T hb1 hl1
end Go.Proofs.YtflgalpfbjhdlaaGreat.Pure
