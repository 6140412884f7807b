/- Regions and labels, in plain words: each parking function is the label of one region, and of no other. -/
import Derived.Test.YtgfcnfbbiaeboaaGreatBaseRt
import Derived.Test.YtgfcnfbbiaeboaaGreatBaseLp
import Derived.Test.YtgfcnfbbiaeboaaGreatBaseJd
import Derived.Test.YtgfcnfbbiaeboaaGreatPAllx1
import Derived.Test.YtgfcnfbbiaeboaaGreatPAllx2
import Derived.Test.YtgfcnfbbiaeboaaGreatPAllx3
import Derived.Test.YtgfcnfbbiaeboaaGreatBaseH
namespace Go.Proofs.YtgfcnfbbiaeboaaGreat.Plain
open Go.RowKit Go.Proofs.YtgfcnfbbiaeboaaGreatW.PrintWords Go.Proofs.YtgfcnfbbiaeboaaGreatW.PrintLast Go.Proofs.YtgfcnfbbiaeboaaGreat.Hand
open LabelOfRegion (rc)
set_option linter.unusedVariables false
/-! ### how many are ahead -/
theorem rc_low (i c d : Int) : ∀ (l : List Int) (n : Int), c ≤ n → d ≤ n → rc i c l n = rc i d l n
  | [], n, _, _ => rfl
  | x :: xs, n, hc, hd => by
    rw [rc, rc, rc_low i c d xs (n + 1) (by omega) (by omega)]
    by_cases h : x > i
    · rw [if_pos (.inl h), if_pos (.inl h)]
    · rw [if_neg (by omega), if_neg (by omega)]
theorem rc_step (i : Int) : ∀ (l : List Int) (n c : Nat), (h0 : n ≤ c) → (h : c < n + l.length) → (l[c - n]'(by omega) ≠ i) → rc i ((c : Int) + 1) l (n : Int) = rc i (c : Int) l (n : Int) + (if l[c - n]'(by omega) < i then 1 else 0)
  | [], n, c, h1, h2, _ => by simp at h2; omega
  | x :: xs, n, c, h1, h2, h3 => by
    rcases Nat.lt_or_eq_of_le h1 with e | e
    · have hx : (x :: xs)[c - n]'(by simp at h2 ⊢; omega) = xs[c - (n + 1)]'(by simp at h2; omega) := by
        simp only [show c - n = c - (n + 1) + 1 by omega, List.getElem_cons_succ]
      rw [hx] at h3 ⊢
      have ih := rc_step i xs (n + 1) c e (by simp at h2; omega) h3
      rw [rc, rc, show (n : Int) + 1 = ((n + 1 : Nat) : Int) by omega, ih]
      rw [show (if x > i ∨ (n : Int) < (c : Int) + 1 then (1 : Int) else 0) = 1 from if_pos (.inr (by omega)), show (if x > i ∨ (n : Int) < (c : Int) then (1 : Int) else 0) = 1 from if_pos (.inr (by omega))]
      omega
    · subst e
      have hx : (x :: xs)[n - n]'(by simp) = x := by simp
      rw [hx] at h3 ⊢
      rw [rc, rc, rc_low i ((n : Int) + 1) (n : Int) xs ((n : Int) + 1) (by omega) (by omega)]
      rw [show (if x > i ∨ (n : Int) < (n : Int) + 1 then (1 : Int) else 0) = 1 from if_pos (.inr (by omega))]
      by_cases h : x < i
      · rw [if_pos h, if_neg (by omega)]; omega
      · rw [if_neg h, if_pos (by omega)]; omega
theorem rc_succ {o : List Int} {i : Nat} (hi : (i : Int) ∉ o) (c : Nat) (hc : c < o.length) : rc (i : Int) ((c : Int) + 1) o 0 = rc (i : Int) (c : Int) o 0 + (if rd o (c : Int) < (i : Int) then 1 else 0) := by
  have h := rc_step (i : Int) o 0 c (Nat.zero_le _) (by omega) (fun e => hi (by rw [← e]; exact List.getElem_mem _))
  rw [rd_nat o c hc]
  exact h
theorem rc_mono {o : List Int} {i : Nat} (hi : (i : Int) ∉ o) : ∀ (d c : Nat), c + d ≤ o.length → rc (i : Int) (c : Int) o 0 ≤ rc (i : Int) ((c + d : Nat) : Int) o 0
  | 0, c, _ => Int.le_refl _
  | d + 1, c, h => by
    have h1 := rc_mono hi d c (by omega)
    have h2 := rc_succ hi (c + d) (by omega)
    rw [show ((c + (d + 1) : Nat) : Int) = ((c + d : Nat) : Int) + 1 by omega, h2]
    split <;> omega
theorem rc_le {o : List Int} {i : Nat} (hi : (i : Int) ∉ o) {c d : Nat} (hcd : c ≤ d) (hd : d ≤ o.length) : rc (i : Int) (c : Int) o 0 ≤ rc (i : Int) (d : Int) o 0 := by
  have := rc_mono hi (d - c) c (by omega)
  rwa [show c + (d - c) = d by omega] at this
theorem rc_all (i : Int) : ∀ (l : List Int) (n c : Nat), n + l.length ≤ c → rc i (c : Int) l (n : Int) = l.length
  | [], n, c, _ => rfl
  | x :: xs, n, c, h => by
    have ih := rc_all i xs (n + 1) c (by simp at h; omega)
    rw [rc, if_pos (.inr (by simp at h; omega)), show (n : Int) + 1 = ((n + 1 : Nat) : Int) by omega, ih, List.length_cons]
    omega
theorem rc_app (i c : Int) (m : List Int) : ∀ (l : List Int) (n : Int), rc i c (l ++ m) n = rc i c l n + rc i c m (n + l.length)
  | [], n => by simp [rc]
  | x :: xs, n => by
    rw [List.cons_append, rc, rc, rc_app i c m xs (n + 1), List.length_cons]
    rw [show n + 1 + (xs.length : Int) = n + ((xs.length + 1 : Nat) : Int) by omega]
    omega
theorem rc_snoc (i c : Int) (o : List Int) (x : Int) : rc i c (o ++ [x]) 0 = rc i c o 0 + (if x > i ∨ (o.length : Int) < c then 1 else 0) := by
  rw [rc_app, rc, rc]
  simp
/-! ### the places one after the other -/
def prv (f : List Int) : Int := if f.length = 0 then 0 else rd f ((f.length - 1 : Nat) : Int)
/-- Index i, with c far ahead, may follow (o, f) in a region with label a. -/
structure Vs (a o f : List Int) (i c : Nat) : Prop where
  new : (i : Int) ∉ o
  lt : i < a.length
  lo : prv f ≤ (c : Int)
  hi : c ≤ o.length
  eq : rc (i : Int) (c : Int) o 0 = rd a (i : Int)
  up : prv f < (c : Int) → rd o ((c : Int) - 1) < (i : Int)
/-- (o, f) is the beginning of a region with label a. -/
structure PV (a o f : List Int) : Prop where
  nd : o.Nodup
  inr : ∀ x ∈ o, 0 ≤ x ∧ x < (a.length : Int)
  len : f.length = o.length
  far : ∀ p : Nat, p < o.length → 0 ≤ rd f (p : Int) ∧ rd f (p : Int) ≤ (p : Int)
  mono : ∀ p : Nat, p + 1 < o.length → rd f (p : Int) ≤ rd f ((p + 1 : Nat) : Int)
  grow : ∀ p : Nat, p + 1 < o.length → rd f (p : Int) < rd f ((p + 1 : Nat) : Int) → rd o (rd f ((p + 1 : Nat) : Int) - 1) < rd o ((p + 1 : Nat) : Int)
  lab : ∀ q : Nat, q < o.length → rc (rd o (q : Int)) (rd f (q : Int)) (o.take q) 0 = rd a (rd o (q : Int))
theorem PV.nil (a : List Int) : PV a [] [] := ⟨List.nodup_nil, fun x hx => by simp at hx, rfl, fun p h => by simp at h, fun p h => by simp at h, fun p h => by simp at h, fun p h => by simp at h⟩
theorem rd_ap (l m : List Int) (p : Nat) (h : p < l.length) : rd (l ++ m) (p : Int) = rd l (p : Int) := by
  rw [rd_nat _ p (by rw [List.length_append]; omega), List.getElem_append_left h, ← rd_nat l p h]
theorem rd_end (l : List Int) (v : Int) : rd (l ++ [v]) (l.length : Int) = v := by
  rw [rd_nat _ l.length (by simp)]
  simp
theorem rd_tk (l : List Int) (p q : Nat) (h : q < p) (hp : p ≤ l.length) : rd (l.take p) (q : Int) = rd l (q : Int) := by
  rw [rd_nat _ q (by rw [List.length_take]; omega), rd_nat l q (by omega), List.getElem_take]
theorem prv_take (f : List Int) (p : Nat) (hp : p + 1 ≤ f.length) : prv (f.take (p + 1)) = rd f (p : Int) := by
  unfold prv
  have hl : (f.take (p + 1)).length = p + 1 := by rw [List.length_take]; omega
  rw [hl, if_neg (by omega), show p + 1 - 1 = p by omega, rd_tk f (p + 1) p (by omega) hp]
theorem prv_snoc (f : List Int) (c : Int) : prv (f ++ [c]) = c := by
  unfold prv
  rw [List.length_append, List.length_singleton, if_neg (by omega), show f.length + 1 - 1 = f.length by omega, rd_end]
theorem PV.prv_le {a o f : List Int} (h : PV a o f) : 0 ≤ prv f ∧ prv f ≤ (o.length : Int) := by
  unfold prv
  have hl := h.len
  split
  · omega
  · have := h.far (f.length - 1) (by omega)
    omega
theorem PV.snoc {a o f : List Int} {i c : Nat} (h : PV a o f) (v : Vs a o f i c) : PV a (o ++ [(i : Int)]) (f ++ [(c : Int)]) := by
  have hl := h.len
  have hp := h.prv_le
  have eo : rd (o ++ [(i : Int)]) (o.length : Int) = (i : Int) := rd_end o _
  have ef : rd (f ++ [(c : Int)]) (o.length : Int) = (c : Int) := by rw [← hl]; exact rd_end f _
  have ep : ∀ p : Nat, p + 1 = o.length → prv f = rd f (p : Int) := fun p hp => by
    unfold prv
    rw [if_neg (by omega), show f.length - 1 = p by omega]
  refine ⟨?_, fun x hx => ?_, by simp [hl], fun p hp' => ?_, fun p hp' => ?_, fun p hp' hlt => ?_, fun q hq => ?_⟩
  · rw [List.nodup_append]
    refine ⟨h.nd, by simp, fun x hx y hy => ?_⟩
    rw [List.mem_singleton] at hy
    subst hy
    exact fun e => v.new (e ▸ hx)
  · rw [List.mem_append, List.mem_singleton] at hx
    rcases hx with hx | rfl
    · exact h.inr x hx
    · have := v.lt; omega
  · rw [List.length_append, List.length_singleton] at hp'
    rcases Nat.lt_or_eq_of_le (Nat.le_of_lt_succ hp') with e | e
    · rw [rd_ap _ _ p (by omega)]; exact h.far p e
    · rw [e, ef]; have := v.hi; omega
  · rw [List.length_append, List.length_singleton] at hp'
    rcases Nat.lt_or_eq_of_le (Nat.le_of_lt_succ hp') with e | e
    · rw [rd_ap _ _ p (by omega), rd_ap _ _ (p + 1) (by omega)]; exact h.mono p e
    · rw [rd_ap _ _ p (by omega), e, ef, ← ep p e]; exact v.lo
  · rw [List.length_append, List.length_singleton] at hp'
    rcases Nat.lt_or_eq_of_le (Nat.le_of_lt_succ hp') with e | e
    · rw [rd_ap f _ p (by omega), rd_ap f _ (p + 1) (by omega)] at hlt
      have h1 := h.far p (by omega)
      have h2 := h.far (p + 1) e
      obtain ⟨q, hq⟩ : ∃ q : Nat, rd f ((p + 1 : Nat) : Int) - 1 = (q : Int) := ⟨(rd f ((p + 1 : Nat) : Int) - 1).toNat, by omega⟩
      have h3 := h.grow p e hlt
      rw [rd_ap f _ (p + 1) (by omega), hq, rd_ap o _ q (by omega), rd_ap o _ (p + 1) e]
      rwa [hq] at h3
    · rw [rd_ap f _ p (by omega), e, ef, ← ep p e] at hlt
      have h3 := v.up hlt
      have h4 := v.hi
      obtain ⟨q, hq⟩ : ∃ q : Nat, (c : Int) - 1 = (q : Int) := ⟨c - 1, by omega⟩
      rw [e, ef, eo, hq, rd_ap o _ q (by omega)]
      rwa [hq] at h3
  · rw [List.length_append, List.length_singleton] at hq
    rcases Nat.lt_or_eq_of_le (Nat.le_of_lt_succ hq) with e | e
    · rw [rd_ap o _ q e, rd_ap f _ q (by omega), List.take_append_of_le_length (by omega)]
      exact h.lab q e
    · rw [e, eo, ef, List.take_append_of_le_length (Nat.le_refl _), List.take_of_length_le (Nat.le_refl _)]
      exact v.eq
theorem PV.take {a o f : List Int} (h : PV a o f) (p : Nat) (hp : p ≤ o.length) : PV a (o.take p) (f.take p) := by
  have hl := h.len
  have lo : (o.take p).length = p := by rw [List.length_take]; omega
  refine ⟨h.nd.sublist (List.take_sublist _ _), fun x hx => h.inr x (List.mem_of_mem_take hx), by rw [List.length_take, List.length_take]; omega, fun q hq => ?_, fun q hq => ?_, fun q hq hlt => ?_, fun q hq => ?_⟩
  · rw [lo] at hq
    rw [rd_tk f p q hq (by omega)]; exact h.far q (by omega)
  · rw [lo] at hq
    rw [rd_tk f p q (by omega) (by omega), rd_tk f p (q + 1) hq (by omega)]; exact h.mono q (by omega)
  · rw [lo] at hq
    rw [rd_tk f p q (by omega) (by omega), rd_tk f p (q + 1) hq (by omega)] at hlt
    have h1 := h.far q (by omega)
    have h2 := h.far (q + 1) (by omega)
    obtain ⟨r, hr⟩ : ∃ r : Nat, rd f ((q + 1 : Nat) : Int) - 1 = (r : Int) := ⟨(rd f ((q + 1 : Nat) : Int) - 1).toNat, by omega⟩
    have h3 := h.grow q (by omega) hlt
    rw [hr] at h3
    rw [rd_tk f p (q + 1) hq (by omega), hr, rd_tk o p r (by omega) hp, rd_tk o p (q + 1) hq hp]
    exact h3
  · rw [lo] at hq
    rw [rd_tk o p q hq hp, rd_tk f p q hq (by omega), List.take_take, Nat.min_eq_left (by omega)]
    exact h.lab q (by omega)
theorem PV.at {a o f : List Int} (h : PV a o f) (p : Nat) (hp : p < o.length) : ∃ i c : Nat, rd o (p : Int) = (i : Int) ∧ rd f (p : Int) = (c : Int) ∧ Vs a (o.take p) (f.take p) i c := by
  have hl := h.len
  have h1 := h.inr (rd o (p : Int)) (by rw [rd_nat o p hp]; exact List.getElem_mem _)
  have h2 := h.far p hp
  obtain ⟨i, hi⟩ : ∃ i : Nat, rd o (p : Int) = (i : Int) := ⟨(rd o (p : Int)).toNat, by omega⟩
  obtain ⟨c, hc⟩ : ∃ c : Nat, rd f (p : Int) = (c : Int) := ⟨(rd f (p : Int)).toNat, by omega⟩
  have lo : (o.take p).length = p := by rw [List.length_take]; omega
  refine ⟨i, c, hi, hc, fun hm => ?_, by omega, ?_, by omega, ?_, fun hlt => ?_⟩
  · have h3 : (o.take (p + 1)).Nodup := h.nd.sublist (List.take_sublist _ _)
    rw [List.take_succ_eq_append_getElem hp, List.nodup_append] at h3
    refine h3.2.2 _ hm _ List.mem_cons_self ?_
    rw [← rd_nat o p hp, hi]
  · rcases Nat.eq_zero_or_pos p with e | e
    · subst e
      unfold prv
      simp
    · obtain ⟨q, rfl⟩ : ∃ q, p = q + 1 := ⟨p - 1, by omega⟩
      rw [prv_take f q (by omega), ← hc]
      exact h.mono q hp
  · rw [← hi, ← hc]
    exact h.lab p hp
  · rcases Nat.eq_zero_or_pos p with e | e
    · subst e
      unfold prv at hlt
      simp at hlt
      omega
    · obtain ⟨q, rfl⟩ : ∃ q, p = q + 1 := ⟨p - 1, by omega⟩
      rw [prv_take f q (by omega), ← hc] at hlt
      have h3 := h.grow q hp hlt
      obtain ⟨r, hr⟩ : ∃ r : Nat, (c : Int) - 1 = (r : Int) := ⟨c - 1, by have := h.far q (by omega); omega⟩
      rw [hc, hr, hi] at h3
      rw [hr, rd_tk o (q + 1) r (by omega) (by omega)]
      exact h3
/-! ### one region alone -/
theorem Vs.lt_no {a o f : List Int} {i c d : Nat} (h : Vs a o f i c) (h' : Vs a o f i d) : ¬ c < d := by
  intro hlt
  have h1 := h'.up (by have := h.lo; omega)
  obtain ⟨r, rfl⟩ : ∃ r, d = r + 1 := ⟨d - 1, by omega⟩
  have h2 := rc_succ h.new r (by have := h'.hi; omega)
  have h3 := rc_le h.new (show c ≤ r by omega) (by have := h'.hi; omega)
  have h4 := h.eq
  have h5 := h'.eq
  rw [show (((r + 1 : Nat) : Int)) - 1 = (r : Int) by omega] at h1
  rw [show ((r + 1 : Nat) : Int) = (r : Int) + 1 by omega, h2, if_pos h1] at h5
  omega
/-- What comes later in the region has at least as many ahead as now. -/
theorem PV.later {a o f : List Int} (h : PV a o f) (hfull : o.length = a.length) (p : Nat) (hp : p < o.length) (j : Nat) (hj : j < a.length) (hn : (j : Int) ∉ o.take (p + 1)) : rc (j : Int) (rd f (p : Int)) (o.take (p + 1)) 0 ≤ rd a (j : Int) := by
  have hl := h.len
  have hperm : o.Perm (iota 0 o.length) := nodup_perm _ _ h.nd (fun x hx => (iota_mem _ _).2 (by rw [hfull]; exact h.inr x hx)) (by rw [iota_length]; exact Nat.le_refl _)
  have hm : (j : Int) ∈ o := hperm.mem_iff.2 ((iota_mem _ _).2 (by omega))
  obtain ⟨q, hq, e⟩ := List.mem_iff_getElem.1 hm
  have hqp : p + 1 ≤ q := by
    rcases Nat.lt_or_ge q (p + 1) with c | c
    · exact absurd (List.mem_iff_getElem.2 ⟨q, by rw [List.length_take]; omega, by rw [List.getElem_take]; exact e⟩) hn
    · exact c
  obtain ⟨i, c, hi, hc, v⟩ := h.at q hq
  rw [rd_nat o q hq, e] at hi
  have hij : i = j := by omega
  subst hij
  have hmono : ∀ d : Nat, p + d < o.length → rd f (p : Int) ≤ rd f ((p + d : Nat) : Int) := by
    intro d
    induction d with
    | zero => intro _; exact Int.le_refl _
    | succ d ih =>
      intro hd
      have h1 := ih (by omega)
      have h2 := h.mono (p + d) (by omega)
      rw [show p + (d + 1) = p + d + 1 by omega]
      omega
  have hpq := hmono (q - p) (by omega)
  rw [show p + (q - p) = q by omega, hc] at hpq
  have hf0 := h.far p hp
  obtain ⟨b, hb⟩ : ∃ b : Nat, rd f (p : Int) = (b : Int) := ⟨(rd f (p : Int)).toNat, by omega⟩
  have lq : (o.take q).length = q := by rw [List.length_take]; omega
  have h1 := rc_le v.new (show b ≤ c by omega) (by have := v.hi; exact this)
  have h2 := v.eq
  have hsplit : o.take q = o.take (p + 1) ++ (o.take q).drop (p + 1) := by
    conv => lhs; rw [← List.take_append_drop (p + 1) (o.take q)]
    rw [List.take_take, Nat.min_eq_left hqp]
  have h3 : rc (i : Int) (b : Int) (o.take (p + 1)) 0 ≤ rc (i : Int) (b : Int) (o.take q) 0 := by
    rw [hsplit, rc_app]
    have := (LabelOfRegion.rc_in (i : Int) (b : Int) ((o.take q).drop (p + 1)) (0 + ((o.take (p + 1)).length : Int))).1
    omega
  rw [hb]
  omega
theorem step_no {a o f o' f' : List Int} (h : PV a o f) (h' : PV a o' f') (hf : o.length = a.length) (hf' : o'.length = a.length) (p : Nat) (hp : p < a.length) (eo : o.take p = o'.take p) (ef : f.take p = f'.take p) : ¬ rd o (p : Int) < rd o' (p : Int) := by
  intro hlt
  obtain ⟨i, c, hi, hc, v⟩ := h.at p (by omega)
  obtain ⟨i', c', hi', hc', v'⟩ := h'.at p (by omega)
  rw [← eo, ← ef] at v'
  have hii : i < i' := by omega
  have lo : (o.take p).length = p := by rw [List.length_take]; omega
  have t1 : o.take (p + 1) = o.take p ++ [(i : Int)] := by rw [List.take_succ_eq_append_getElem (by omega), ← rd_nat o p (by omega), hi]
  have t2 : o'.take (p + 1) = o.take p ++ [(i' : Int)] := by rw [List.take_succ_eq_append_getElem (by omega), ← rd_nat o' p (by omega), hi', eo]
  have l1 := h'.later hf' p (by omega) i v.lt (by
    rw [t2, List.mem_append, List.mem_singleton]
    rintro (e | e)
    · exact v.new e
    · omega)
  have l2 := h.later hf p (by omega) i' v'.lt (by
    rw [t1, List.mem_append, List.mem_singleton]
    rintro (e | e)
    · exact v'.new e
    · omega)
  rw [t2, rc_snoc, hc', if_pos (.inl (by omega))] at l1
  rw [t1, rc_snoc, hc] at l2
  have e1 := v.eq
  have e2 := v'.eq
  have hcc : c' < c := by
    rcases Nat.lt_or_ge c' c with e | e
    · exact e
    · have := rc_le v.new e v'.hi
      omega
  have hup := v.up (by have := v'.lo; omega)
  obtain ⟨r, rfl⟩ : ∃ r, c = r + 1 := ⟨c - 1, by omega⟩
  have h2 := rc_succ v'.new r (by have := v.hi; omega)
  have h3 := rc_le v'.new (show c' ≤ r by omega) (by have := v.hi; omega)
  rw [show (((r + 1 : Nat) : Int)) - 1 = (r : Int) by omega] at hup
  rw [if_pos (by omega)] at h2
  have e3 : rc (i' : Int) ((r + 1 : Nat) : Int) (o.take p) 0 = rc (i' : Int) (r : Int) (o.take p) 0 + 1 := by
    rw [show ((r + 1 : Nat) : Int) = (r : Int) + 1 by omega]; exact h2
  rw [e3] at l2
  split at l2 <;> omega
/-- A label tells one region alone. -/
theorem label_unique {a o f o' f' : List Int} (h : PV a o f) (h' : PV a o' f') (hf : o.length = a.length) (hf' : o'.length = a.length) : o = o' ∧ f = f' := by
  have hl := h.len
  have hl' := h'.len
  have key : ∀ p : Nat, p ≤ a.length → o.take p = o'.take p ∧ f.take p = f'.take p := by
    intro p
    induction p with
    | zero => intro _; exact ⟨by simp, by simp⟩
    | succ p ih =>
      intro hp
      obtain ⟨eo, ef⟩ := ih (by omega)
      have n1 := step_no h h' hf hf' p (by omega) eo ef
      have n2 := step_no h' h hf' hf p (by omega) eo.symm ef.symm
      obtain ⟨i, c, hi, hc, v⟩ := h.at p (by omega)
      obtain ⟨i', c', hi', hc', v'⟩ := h'.at p (by omega)
      rw [← eo, ← ef] at v'
      have e : i = i' := by omega
      subst e
      have m1 := v.lt_no v'
      have m2 := v'.lt_no v
      have e : c = c' := by omega
      subst e
      rw [List.take_succ_eq_append_getElem (by omega), List.take_succ_eq_append_getElem (by omega), List.take_succ_eq_append_getElem (l := f) (by omega), List.take_succ_eq_append_getElem (l := f') (by omega)]
      rw [← rd_nat o p (by omega), ← rd_nat o' p (by omega), ← rd_nat f p (by omega), ← rd_nat f' p (by omega), hi, hi', hc, hc', eo, ef]
      exact ⟨rfl, rfl⟩
  have k := key a.length (Nat.le_refl _)
  rw [List.take_of_length_le (by omega), List.take_of_length_le (by omega), List.take_of_length_le (l := f) (by omega), List.take_of_length_le (l := f') (by omega)] at k
  exact k
/-! ### each parking function has a region -/
theorem least {P : Nat → Prop} (n : Nat) : ∀ (m : Nat), P m → m ≤ n → ∃ k, P k ∧ ∀ j, j < k → ¬ P j := by
  induction n with
  | zero => intro m hm h; exact ⟨m, hm, fun j hj => by omega⟩
  | succ n ih =>
    intro m hm h
    by_cases c : ∃ j, j < m ∧ P j
    · obtain ⟨j, hj, hp⟩ := c
      exact ih j hp (by omega)
    · exact ⟨m, hm, fun j hj hp => c ⟨j, hj, hp⟩⟩
/-- Where i is not late, there is a place for it. -/
theorem Vs.get {a o f : List Int} (h : PV a o f) {i : Nat} (hi : i < a.length) (hn : (i : Int) ∉ o) (h1 : rc (i : Int) (prv f) o 0 ≤ rd a (i : Int)) (h2 : rd a (i : Int) ≤ (o.length : Int)) : ∃ c, Vs a o f i c ∧ ∀ d : Nat, prv f ≤ (d : Int) → d < c → rc (i : Int) (d : Int) o 0 < rd a (i : Int) := by
  have hp := h.prv_le
  obtain ⟨b, hb⟩ : ∃ b : Nat, prv f = (b : Int) := ⟨(prv f).toNat, by omega⟩
  rw [hb] at h1 hp ⊢
  have hall := rc_all (i : Int) o 0 o.length (by omega)
  obtain ⟨c, hc, hm⟩ := least (P := fun c => b ≤ c ∧ c ≤ o.length ∧ rd a (i : Int) ≤ rc (i : Int) (c : Int) o 0) o.length o.length ⟨by omega, Nat.le_refl _, by rw [show (0 : Int) = ((0 : Nat) : Int) from rfl, hall]; exact h2⟩ (Nat.le_refl _)
  have hlow : ∀ d : Nat, b ≤ d → d < c → rc (i : Int) (d : Int) o 0 < rd a (i : Int) := fun d hd hdc => by
    have := hm d hdc
    have : ¬ rd a (i : Int) ≤ rc (i : Int) (d : Int) o 0 := fun e => this ⟨hd, by omega, e⟩
    omega
  refine ⟨c, ⟨hn, hi, by rw [hb]; omega, hc.2.1, ?_, fun hlt => ?_⟩, fun d hd hdc => hlow d (by omega) hdc⟩
  · rcases Nat.lt_or_eq_of_le hc.1 with e | e
    · obtain ⟨r, rfl⟩ : ∃ r, c = r + 1 := ⟨c - 1, by omega⟩
      have h3 := hlow r (by omega) (by omega)
      have h4 := rc_succ hn r (by omega)
      have h5 := hc.2.2
      rw [show ((r + 1 : Nat) : Int) = (r : Int) + 1 by omega, h4] at h5 ⊢
      split at h5
      · rename_i hh
        rw [if_pos hh]; omega
      · omega
    · rw [← e]; have := hc.2.2; rw [← e] at this; omega
  · rw [hb] at hlt
    obtain ⟨r, rfl⟩ : ∃ r, c = r + 1 := ⟨c - 1, by omega⟩
    have h3 := hlow r (by omega) (by omega)
    have h4 := rc_succ hn r (by omega)
    have h5 := hc.2.2
    rw [show ((r + 1 : Nat) : Int) = (r : Int) + 1 by omega, h4] at h5
    rw [show (((r + 1 : Nat) : Int)) - 1 = (r : Int) by omega]
    split at h5
    · rename_i hh; exact hh
    · omega
/-- None is late yet. -/
def Inv (a o f : List Int) : Prop := PV a o f ∧ ∀ j : Nat, j < a.length → (j : Int) ∉ o → rc (j : Int) (prv f) o 0 ≤ rd a (j : Int)
theorem ready {a : List Int} (hp : parking a = true) (o : List Int) (hlt : o.length < a.length) : ∃ j : Nat, j < a.length ∧ (j : Int) ∉ o ∧ rd a (j : Int) ≤ (o.length : Int) := by
  by_cases c : ∃ j : Nat, j < a.length ∧ (j : Int) ∉ o ∧ rd a (j : Int) ≤ (o.length : Int)
  · exact c
  · exfalso
    have h1 := parking_lt hp ((o.length : Int) + 1) (by omega) (by omega)
    have e : (iota 0 a.length).map (rd a) = a := by
      refine List.ext_getElem (by simp [iota]) fun i h1 h2 => ?_
      rw [List.getElem_map, iota_get, Int.zero_add, rd_nat a i h2]
    have h2 : lt a ((o.length : Int) + 1) = (((iota 0 a.length).filter fun j => decide (rd a j < (o.length : Int) + 1)).length : Int) := by
      conv => lhs; rw [← e]
      unfold lt
      first
        | (unfold cnt; rw [List.filter_map, List.length_map]; rfl)
        | (rw [List.filter_map, List.length_map]; rfl)
    have h3 := nodup_len ((iota 0 a.length).filter fun j => decide (rd a j < (o.length : Int) + 1)) o ((iota_nodup _).sublist List.filter_sublist) (fun x hx => by
      rw [List.mem_filter] at hx
      have h4 := (iota_mem _ _).1 hx.1
      have h5 := of_decide_eq_true hx.2
      by_cases hm : x ∈ o
      · exact hm
      · refine absurd ⟨x.toNat, by omega, ?_, ?_⟩ c
        · rw [Int.toNat_of_nonneg h4.1]; exact hm
        · rw [Int.toNat_of_nonneg h4.1]; omega)
    omega
theorem Inv.next {a o f : List Int} (hp : parking a = true) (h : Inv a o f) (hlt : o.length < a.length) : ∃ i c : Nat, Vs a o f i c ∧ Inv a (o ++ [(i : Int)]) (f ++ [(c : Int)]) := by
  obtain ⟨pv, hinv⟩ := h
  obtain ⟨j1, hj1, hn1, hr1⟩ := ready hp o hlt
  obtain ⟨c1, v1, _⟩ := Vs.get pv hj1 hn1 (hinv j1 hj1 hn1) hr1
  obtain ⟨c, ⟨i1, hi1⟩, hcm⟩ := least (P := fun c => ∃ i, Vs a o f i c) c1 c1 ⟨j1, v1⟩ (Nat.le_refl _)
  obtain ⟨i, v, him⟩ := least (P := fun i => Vs a o f i c) i1 i1 hi1 (Nat.le_refl _)
  refine ⟨i, c, v, pv.snoc v, fun j hj hn => ?_⟩
  rw [List.mem_append, List.mem_singleton, not_or] at hn
  rw [prv_snoc, rc_snoc]
  have hc := v.hi
  have hle : rc (j : Int) (c : Int) o 0 ≤ (o.length : Int) := (LabelOfRegion.rc_in (j : Int) (c : Int) o 0).2
  by_cases hr : rd a (j : Int) ≤ (o.length : Int)
  · obtain ⟨d, vd, hd⟩ := Vs.get pv hj hn.1 (hinv j hj hn.1) hr
    rcases Nat.lt_trichotomy c d with e | e | e
    · have := hd c v.lo e
      split <;> omega
    · subst e
      have h1 : ¬ j < i := fun e => him j e vd
      have h2 : (j : Int) ≠ (i : Int) := hn.2
      have h3 := vd.eq
      rw [if_neg (by omega)]
      omega
    · exact absurd ⟨j, vd⟩ (hcm d e)
  · split <;> omega
theorem label_exists {a : List Int} (hp : parking a = true) : ∃ o f : List Int, PV a o f ∧ o.length = a.length := by
  have go : ∀ (d : Nat) (o f : List Int), o.length + d = a.length → Inv a o f → ∃ o f : List Int, PV a o f ∧ o.length = a.length := by
    intro d
    induction d with
    | zero => intro o f hl h; exact ⟨o, f, h.1, by omega⟩
    | succ d ih =>
      intro o f hl h
      obtain ⟨i, c, v, h2⟩ := h.next hp (by omega)
      exact ih _ _ (by simp; omega) h2
  refine go a.length [] [] (by simp) ⟨PV.nil a, fun j hj _ => ?_⟩
  have h1 := parking_in hp (rd a (j : Int)) (by rw [rd_nat a j hj]; exact List.getElem_mem _)
  show rc (j : Int) (prv []) [] 0 ≤ _
  exact h1.1
end Go.Proofs.YtgfcnfbbiaeboaaGreat.Plain
/- The searches of impl.regionOf and spec.reGoOn: they end in the region with the label, if there is one. Condition: what each theorem states. -/
namespace Go.Proofs.YtgfcnfbbiaeboaaGreat.Plain
open Go.RowKit Go.Proofs.YtgfcnfbbiaeboaaGreatW.PrintWords Go.Proofs.YtgfcnfbbiaeboaaGreatW.PrintLast Go.Proofs.YtgfcnfbbiaeboaaGreat.Hand Go.Proofs.YtgfcnfbbiaeboaaGreat.PAll
open LabelOfRegion (rc)
set_option linter.unusedVariables false
theorem indexD_l0 (l : List Int) (x : Int) (hs : l.length ≤ 1000) : ∀ (d n : Nat), n + d = l.length → ∃ r, Ev (fun k => slices_Index_int_int.l0 k l x (l.length : Int) (n : Int)) r ∧ (0 ≤ r ↔ x ∈ l.drop n) := by
  intro d
  induction d with
  | zero =>
    intro n hn
    refine ⟨-1, Ev.step (f := fun _ => some (-1)) (fun k => ?_) (Ev.now _), ?_⟩
    · rw [slices_Index_int_int.l0, if_neg (by omega)]
    · rw [List.drop_eq_nil_of_le (by omega)]
      simp
  | succ d ih =>
    intro n hn
    have h1 : n < l.length := by omega
    rw [List.drop_eq_getElem_cons h1, List.mem_cons]
    by_cases hx : x = l[n]
    · refine ⟨(n : Int), Ev.step (f := fun _ => some (n : Int)) (fun k => ?_) (Ev.now _), ⟨fun _ => .inl hx, fun _ => by omega⟩⟩
      rw [slices_Index_int_int.l0, if_pos (by omega), if_pos (by omega), if_pos (by omega), rd_nat l n h1, if_pos hx]
    · obtain ⟨r, hr, h⟩ := ih (n + 1) (by omega)
      refine ⟨r, ?_, h.trans ⟨fun h => .inr h, fun h => h.resolve_left hx⟩⟩
      refine Ev.step (f := ?f1) (fun k => ?h1) ?g1
      case g1 => exact hr
      case h1 => rw [slices_Index_int_int.l0, if_pos (by omega), if_pos (by omega), if_pos (by omega), rd_nat l n h1, if_neg hx, wrap_succ n (by omega)]
theorem containsD_ev (l : List Int) (x : Int) (hs : l.length ≤ 1000) : Ev (fun k => slices_Contains_int_int.f k l x) (decide (x ∈ l)) := by
  obtain ⟨r, hr, h⟩ := indexD_l0 l x hs l.length 0 (by omega)
  unfold slices_Contains_int_int.f
  refine Ev.bind hr ?_
  rw [List.drop_zero] at h
  rw [show decide (x ∈ l) = decide (r ≥ 0) from decide_eq_decide.2 ⟨fun e => h.2 e, fun e => h.1 e⟩]
  exact Ev.now _
/-- (o', f') is a region with label a that begins with (o, f). -/
structure Ext (a o f o' f' : List Int) : Prop where
  pv : PV a o' f'
  full : o'.length = a.length
  eo : o'.take o.length = o
  ef : f'.take f.length = f
/-- r: a region with label a that begins with (o, f), or none, where none has an index from i on next (at the same i: with c or more far). -/
def Res (a o f : List Int) (i c : Nat) (r : List Int × List Int × Bool) : Prop :=
  Ext a o f r.1 r.2.1 ∧ r.2.2 = true ∨ r = ([], [], false) ∧ ∀ o' f' : List Int, Ext a o f o' f' → ¬ ((i : Int) < rd o' (o.length : Int) ∨ (i : Int) = rd o' (o.length : Int) ∧ (c : Int) ≤ rd f' (o.length : Int))
theorem Ext.next {a o f o' f' : List Int} (h : Ext a o f o' f') (hl : f.length = o.length) (hlt : o.length < a.length) : ∃ j d : Nat, rd o' (o.length : Int) = (j : Int) ∧ rd f' (o.length : Int) = (d : Int) ∧ Vs a o f j d ∧ Ext a (o ++ [(j : Int)]) (f ++ [(d : Int)]) o' f' := by
  obtain ⟨j, d, hj, hd, v⟩ := h.pv.at o.length (by have := h.full; omega)
  have hf := h.pv.len
  have hfu := h.full
  have ef := h.ef
  rw [hl] at ef
  rw [h.eo, ef] at v
  refine ⟨j, d, hj, hd, v, h.pv, h.full, ?_, ?_⟩
  · rw [List.length_append, List.length_singleton, List.take_succ_eq_append_getElem (by omega), h.eo, ← rd_nat o' o.length (by omega), hj]
  · rw [List.length_append, List.length_singleton, hl, List.take_succ_eq_append_getElem (by omega), ef, ← rd_nat f' o.length (by omega), hd]
theorem Ext.of {a o f o' f' : List Int} {i c : Nat} (h : Ext a (o ++ [(i : Int)]) (f ++ [(c : Int)]) o' f') (hl : f.length = o.length) : Ext a o f o' f' := by
  have e1 := h.eo
  have e2 := h.ef
  refine ⟨h.pv, h.full, ?_, ?_⟩
  · have := congrArg (List.take o.length) e1
    rwa [List.take_take, List.length_append, List.length_singleton, Nat.min_eq_left (by omega), List.take_append_of_le_length (Nat.le_refl _), List.take_of_length_le (Nat.le_refl _)] at this
  · have := congrArg (List.take f.length) e2
    rwa [List.take_take, List.length_append, List.length_singleton, Nat.min_eq_left (by omega), List.take_append_of_le_length (Nat.le_refl _), List.take_of_length_le (Nat.le_refl _)] at this
/-- What the search from (o, f) on is to come to. -/
def All (a o f : List Int) (r : List Int × List Int × Bool) : Prop := Ext a o f r.1 r.2.1 ∧ r.2.2 = true ∨ r = ([], [], false) ∧ ∀ o' f' : List Int, ¬ Ext a o f o' f'
theorem Res.all {a o f : List Int} {r : List Int × List Int × Bool} (h : Res a o f 0 0 r) (hl : f.length = o.length) (hlt : o.length < a.length) : All a o f r := by
  rcases h with h | ⟨h1, h2⟩
  · exact .inl h
  · refine .inr ⟨h1, fun o' f' e => h2 o' f' e ?_⟩
    obtain ⟨j, d, hj, hd, _⟩ := e.next hl hlt
    rw [hj, hd]
    rcases Nat.eq_zero_or_pos j with c | c
    · subst c; exact .inr ⟨rfl, by omega⟩
    · exact .inl (by omega)
/-- Where i (from c on) cannot be next, the search from what follows will do. -/
theorem Res.skip {a o f : List Int} {i c : Nat} {r : List Int × List Int × Bool} (hl : f.length = o.length) (hlt : o.length < a.length) (hn : ∀ d : Nat, c ≤ d → ¬ Vs a o f i d) (h : Res a o f (i + 1) 0 r) : Res a o f i c r := by
  rcases h with h | ⟨h1, h2⟩
  · exact .inl h
  · refine .inr ⟨h1, fun o' f' e hc => ?_⟩
    obtain ⟨j, d, hj, hd, v, _⟩ := e.next hl hlt
    rw [hj, hd] at hc
    rcases hc with hc | ⟨hc, hc2⟩
    · refine h2 o' f' e ?_
      rw [hj, hd]
      rcases Nat.lt_or_eq_of_le (show i + 1 ≤ j by omega) with e2 | e2
      · exact .inl (by omega)
      · exact .inr ⟨by omega, by omega⟩
    · have : i = j := by omega
      subst this
      exact hn d (by omega) v
theorem Res.skip1 {a o f : List Int} {i c : Nat} {r : List Int × List Int × Bool} (hl : f.length = o.length) (hlt : o.length < a.length) (hn : ¬ Vs a o f i c) (h : Res a o f i (c + 1) r) : Res a o f i c r := by
  rcases h with h | ⟨h1, h2⟩
  · exact .inl h
  · refine .inr ⟨h1, fun o' f' e hc => ?_⟩
    obtain ⟨j, d, hj, hd, v, _⟩ := e.next hl hlt
    rw [hj, hd] at hc
    rcases hc with hc | ⟨hc, hc2⟩
    · exact h2 o' f' e (.inl (by rw [hj]; exact hc))
    · have : i = j := by omega
      subst this
      rcases Nat.lt_or_eq_of_le (show c ≤ d by omega) with e2 | e2
      · exact h2 o' f' e (.inr ⟨hj.symm, by rw [hd]; omega⟩)
      · subst e2; exact hn v
/-- None is found behind (i, c): then none begins so. -/
theorem All.no {a o f : List Int} {i c : Nat} (hl : f.length = o.length) (hlt : o.length < a.length) (h : All a (o ++ [(i : Int)]) (f ++ [(c : Int)]) ([], [], false)) (v : Vs a o f i c) : ∀ o' f' : List Int, Ext a o f o' f' → rd o' (o.length : Int) ≠ (i : Int) := by
  intro o' f' e hi
  obtain ⟨j, d, hj, hd, v', e'⟩ := e.next hl hlt
  have : i = j := by omega
  subst this
  have h1 := v.lt_no v'
  have h2 := v'.lt_no v
  have : c = d := by omega
  subst this
  rcases h with ⟨_, h⟩ | ⟨_, h⟩
  · cases h
  · exact h o' f' e'
theorem Res.back {a o f : List Int} {i c : Nat} {r : List Int × List Int × Bool} (hl : f.length = o.length) (hn : ∀ o' f' : List Int, Ext a o f o' f' → rd o' (o.length : Int) ≠ (i : Int)) (h : Res a o f i (c + 1) r ∨ Res a o f (i + 1) 0 r) (hlt : o.length < a.length) : Res a o f i c r := by
  rcases h with h | h
  · rcases h with h | ⟨h1, h2⟩
    · exact .inl h
    · refine .inr ⟨h1, fun o' f' e hc => ?_⟩
      rcases hc with hc | ⟨hc, _⟩
      · exact h2 o' f' e (.inl hc)
      · exact hn o' f' e hc.symm
  · rcases h with h | ⟨h1, h2⟩
    · exact .inl h
    · refine .inr ⟨h1, fun o' f' e hc => ?_⟩
      rcases hc with hc | ⟨hc, _⟩
      · obtain ⟨j, d, hj, hd, _⟩ := e.next hl hlt
        refine h2 o' f' e ?_
        rw [hj, hd]
        rw [hj] at hc
        rcases Nat.lt_or_eq_of_le (show i + 1 ≤ j by omega) with e2 | e2
        · exact .inl (by omega)
        · exact .inr ⟨by omega, by omega⟩
      · exact hn o' f' e hc.symm
theorem Res.found {a o f : List Int} {i c : Nat} {r : List Int × List Int × Bool} (hl : f.length = o.length) (h : Ext a (o ++ [(i : Int)]) (f ++ [(c : Int)]) r.1 r.2.1) (ht : r.2.2 = true) (j d : Nat) : Res a o f j d r := .inl ⟨h.of hl, ht⟩
theorem Vs.of_low {a o f : List Int} {i c : Nat} (hn : (i : Int) ∉ o) (hi : i < a.length) (hlo : prv f ≤ (c : Int)) (hp0 : 0 ≤ prv f) (hc : c ≤ o.length) (hlow : ∀ d : Nat, prv f ≤ (d : Int) → d < c → rc (i : Int) (d : Int) o 0 < rd a (i : Int)) (he : rc (i : Int) (c : Int) o 0 = rd a (i : Int)) : Vs a o f i c := by
  refine ⟨hn, hi, hlo, hc, he, fun hlt => ?_⟩
  obtain ⟨r, rfl⟩ : ∃ r, c = r + 1 := ⟨c - 1, by omega⟩
  have h3 := hlow r (by omega) (by omega)
  have h4 := rc_succ hn r (by omega)
  rw [show ((r + 1 : Nat) : Int) = (r : Int) + 1 by omega, h4] at he
  rw [show (((r + 1 : Nat) : Int)) - 1 = (r : Int) by omega]
  split at he
  · rename_i hh; exact hh
  · omega
theorem cloneD (l : List Int) (h : l.length ≤ 100) : slices_Clone_int_int.f l = some l := if_pos (by omega)
theorem regionOf_ev (a : List Int) (ha : a.length ≤ 8) : ∀ (d : Nat) (o f : List Int), o.length + d = a.length → PV a o f → ∃ r, All a o f r ∧ Ev (fun k => impl_regionOf.f k a o f) r := by
  intro d
  induction d with
  | zero =>
    intro o f hd h
    have hl := h.len
    refine ⟨(o, f, true), .inl ⟨⟨h, by omega, by rw [List.take_of_length_le (Nat.le_refl _)], by rw [List.take_of_length_le (Nat.le_refl _)]⟩, rfl⟩, ?_⟩
    refine Ev.step (f := fun _ => some (o, f, true)) (fun k => ?_) (Ev.now _)
    rw [impl_regionOf.f, if_pos (by omega)]
  | succ d ih =>
    intro o f hd h
    have hl := h.len
    have hlt : o.length < a.length := by omega
    have hp := h.prv_le
    have loop : ∀ (e i : Nat), i + e = a.length → ∃ r, Res a o f i 0 r ∧ Ev (fun k => impl_regionOf.l0 k a (o.length : Int) (prv f) a (a.length : Int) (i : Int) o f) r := by
      intro e
      induction e with
      | zero =>
        intro i hi
        refine ⟨([], [], false), .inr ⟨rfl, fun o' f' e hc => ?_⟩, ?_⟩
        · obtain ⟨j, d, hj, hd, v, _⟩ := e.next hl hlt
          have := v.lt
          rw [hj] at hc
          omega
        · refine Ev.step (f := fun _ => some (([] : List Int), ([] : List Int), false)) (fun k => ?_) (Ev.now _)
          rw [impl_regionOf.l0, if_neg (by omega)]
      | succ e ihe =>
        intro i hi
        obtain ⟨r, hr, hev⟩ := ihe (i + 1) (by omega)
        have hc := containsD_ev o (i : Int) (by omega)
        by_cases hm : (i : Int) ∈ o
        · rw [decide_eq_true hm] at hc
          refine ⟨r, Res.skip hl hlt (fun d _ v => v.new hm) hr, ?_⟩
          refine Ev.step (f := fun k => (slices_Contains_int_int.f k o (i : Int)).bind fun t => (if t = true then (impl_regionOf.l0 k a (o.length : Int) (prv f) a (a.length : Int) ((i + 1 : Nat) : Int) o f) else (impl_regionOf.l1 k a (o.length : Int) (prv f) (i : Int) (rd a (i : Int)) (prv f) a (a.length : Int) (i : Int) o f))) (fun k => ?_) (Ev.bind hc (Ev.pos rfl hev))
          rw [impl_regionOf.l0, if_pos (by omega), if_pos (by omega), if_pos (by omega), wrap_succ i (by omega)]
        · rw [decide_eq_false hm] at hc
          have hia : i < a.length := by omega
          have hlab : ∀ c : Nat, c ≤ o.length → impl_labelAt.f o (c : Int) (i : Int) = some (rc (i : Int) (c : Int) o 0) := fun c hc => LabelOfRegion.labelAt_eq o (c : Int) (i : Int) (by omega) (by omega) (by omega) (fun x hx e => hm (e ▸ hx))
          have j3 : ∀ c : Nat, prv f ≤ (c : Int) → c ≤ o.length → (∀ d : Nat, prv f ≤ (d : Int) → d < c → rc (i : Int) (d : Int) o 0 < rd a (i : Int)) → (c = o.length ∨ rd a (i : Int) ≤ rc (i : Int) (c : Int) o 0) →
              ∃ r, Res a o f i 0 r ∧ Ev (fun k => impl_regionOf.j3 k a (o.length : Int) (prv f) (i : Int) (rd a (i : Int)) (c : Int) a (a.length : Int) (i : Int) o f) r := by
            intro c hlo hco hlow hstop
            by_cases he : rc (i : Int) (c : Int) o 0 = rd a (i : Int)
            · have v := Vs.of_low hm hia hlo hp.1 hco hlow he
              obtain ⟨r2, ha2, he2⟩ := ih (o ++ [(i : Int)]) (f ++ [(c : Int)]) (by simp; omega) (h.snoc v)
              have tail : ∀ r3, Ev (fun k => (if r2.2.2 = true then some (r2.1, r2.2.1, true) else impl_regionOf.l0 k a (o.length : Int) (prv f) a (a.length : Int) ((i + 1 : Nat) : Int) o f)) r3 → Ev (fun k => impl_regionOf.j3 k a (o.length : Int) (prv f) (i : Int) (rd a (i : Int)) (c : Int) a (a.length : Int) (i : Int) o f) r3 := by
                intro r3 h3
                refine Ev.step (f := ?f2) (fun k => ?h2) ?g2
                case h2 => rw [impl_regionOf.j3, hlab c hco, Option.bind_some, if_pos he, cloneD o (by omega), Option.bind_some, Option.bind_some, if_pos (by simp; omega), cloneD f (by omega), Option.bind_some, Option.bind_some, if_pos (by simp; omega), wrap_succ i (by omega)]
                case g2 => exact Ev.bind he2 h3
              rcases ha2 with ⟨hx, ht⟩ | ⟨hr2, hno⟩
              · exact ⟨(r2.1, r2.2.1, true), Res.found (r := (r2.1, r2.2.1, true)) hl hx rfl i 0, tail _ (Ev.pos ht (Ev.now _))⟩
              · refine ⟨r, Res.back hl (All.no hl hlt (.inr ⟨rfl, hno⟩) v) (.inr hr) hlt, tail _ (Ev.neg (by rw [hr2]; decide) hev)⟩
            · refine ⟨r, Res.skip hl hlt (fun d _ v => ?_) hr, ?_⟩
              · rcases Nat.lt_trichotomy d c with e1 | e1 | e1
                · have := hlow d v.lo e1
                  have := v.eq
                  omega
                · subst e1; exact he v.eq
                · have h1 := v.eq
                  have h2 := v.hi
                  have h3 := rc_le hm (show c ≤ d by omega) h2
                  rcases hstop with e2 | e2
                  · omega
                  · omega
              · refine Ev.step (f := ?f3) (fun k => ?h3) ?g3
                case g3 => exact hev
                case h3 => rw [impl_regionOf.j3, hlab c hco, Option.bind_some, if_neg he, wrap_succ i (by omega)]
          have l1 : ∀ (e c : Nat), c + e = o.length → prv f ≤ (c : Int) → (∀ d : Nat, prv f ≤ (d : Int) → d < c → rc (i : Int) (d : Int) o 0 < rd a (i : Int)) →
              ∃ r, Res a o f i 0 r ∧ Ev (fun k => impl_regionOf.l1 k a (o.length : Int) (prv f) (i : Int) (rd a (i : Int)) (c : Int) a (a.length : Int) (i : Int) o f) r := by
            intro e
            induction e with
            | zero =>
              intro c hc hlo hlow
              obtain ⟨r3, h3, h4⟩ := j3 c hlo (by omega) hlow (.inl (by omega))
              refine ⟨r3, h3, ?_⟩
              refine Ev.step (f := ?f4) (fun k => ?h4) ?g4
              case g4 => exact h4
              case h4 => rw [impl_regionOf.l1, if_neg (by omega)]
            | succ e ihc =>
              intro c hc hlo hlow
              by_cases ht : rc (i : Int) (c : Int) o 0 < rd a (i : Int)
              · obtain ⟨r3, h3, h4⟩ := ihc (c + 1) (by omega) (by omega) (fun d h5 h6 => by
                  rcases Nat.lt_or_eq_of_le (Nat.le_of_lt_succ h6) with e1 | e1
                  · exact hlow d h5 e1
                  · subst e1; exact ht)
                refine ⟨r3, h3, ?_⟩
                refine Ev.step (f := ?f5) (fun k => ?h5) ?g5
                case g5 => exact h4
                case h5 => rw [impl_regionOf.l1, if_pos (by omega), hlab c (by omega), Option.bind_some, if_pos ht, wrap_succ c (by omega)]
              · obtain ⟨r3, h3, h4⟩ := j3 c hlo (by omega) hlow (.inr (by omega))
                refine ⟨r3, h3, ?_⟩
                refine Ev.step (f := ?f6) (fun k => ?h6) ?g6
                case g6 => exact h4
                case h6 => rw [impl_regionOf.l1, if_pos (by omega), hlab c (by omega), Option.bind_some, if_neg ht]
          obtain ⟨b, hb⟩ : ∃ b : Nat, prv f = (b : Int) := ⟨(prv f).toNat, by omega⟩
          obtain ⟨r3, h3, h4⟩ := l1 (o.length - b) b (by omega) (by omega) (fun d h5 h6 => by omega)
          refine ⟨r3, h3, ?_⟩
          rw [← hb] at h4
          refine Ev.step (f := fun k => (slices_Contains_int_int.f k o (i : Int)).bind fun t => (if t = true then (impl_regionOf.l0 k a (o.length : Int) (prv f) a (a.length : Int) ((i + 1 : Nat) : Int) o f) else (impl_regionOf.l1 k a (o.length : Int) (prv f) (i : Int) (rd a (i : Int)) (prv f) a (a.length : Int) (i : Int) o f))) (fun k => ?_) (Ev.bind hc (Ev.neg (by decide) h4))
          rw [impl_regionOf.l0, if_pos (by omega), if_pos (by omega), if_pos (by omega), wrap_succ i (by omega)]
    obtain ⟨r, hr, hev⟩ := loop a.length 0 (by omega)
    refine ⟨r, hr.all hl hlt, ?_⟩
    have hj0 : Ev (fun k => impl_regionOf.j0 k a (o.length : Int) (prv f) o f) r := by
      refine Ev.step (f := ?f8) (fun k => ?h8) ?g8
      case g8 => exact hev
      case h8 =>
        rw [impl_regionOf.j0]
        rfl
    refine Ev.step (f := ?f9) (fun k => ?h9) ?g9
    case g9 => exact hj0
    case h9 =>
      rw [impl_regionOf.f, if_neg (by omega)]
      unfold prv
      rcases Nat.eq_zero_or_pos o.length with e | e
      · rw [if_neg (by omega), if_pos (by omega)]
      · have hw : wrap64 ((o.length : Int) - 1) = ((f.length - 1 : Nat) : Int) := by rw [wrap64_in _ (by omega) (by omega)]; omega
        rw [if_pos (by omega), hw, if_pos (by omega), if_pos (by omega), if_neg (by omega)]
theorem ownD (l : List Int) (h : l.length ≤ 100) : spec_l1Own.f l = some l := by
  unfold spec_l1Own.f
  rw [Option.bind_some, if_pos (by simp; omega), List.nil_append]
theorem reGoOn_ev (a : List Int) (ha : a.length ≤ 8) : ∀ (d : Nat) (o f : List Int), o.length + d = a.length → PV a o f → ∃ r, All a o f r ∧ Ev (fun k => spec_reGoOn.f k o f a) r := by
  intro d
  induction d with
  | zero =>
    intro o f hd h
    have hl := h.len
    refine ⟨(o, f, true), .inl ⟨⟨h, by omega, by rw [List.take_of_length_le (Nat.le_refl _)], by rw [List.take_of_length_le (Nat.le_refl _)]⟩, rfl⟩, ?_⟩
    refine Ev.step (f := fun _ => some (o, f, true)) (fun k => ?_) (Ev.now _)
    rw [spec_reGoOn.f, if_pos (by omega)]
  | succ d ih =>
    intro o f hd h
    have hl := h.len
    have hlt : o.length < a.length := by omega
    have hp := h.prv_le
    have loop : ∀ (e i : Nat), i + e = a.length → ∃ r, Res a o f i 0 r ∧ Ev (fun k => spec_reGoOn.l0 k a (o.length : Int) (prv f) a (a.length : Int) (i : Int) o f) r := by
      intro e
      induction e with
      | zero =>
        intro i hi
        refine ⟨([], [], false), .inr ⟨rfl, fun o' f' e hc => ?_⟩, ?_⟩
        · obtain ⟨j, d, hj, hd, v, _⟩ := e.next hl hlt
          have := v.lt
          rw [hj] at hc
          omega
        · refine Ev.step (f := fun _ => some (([] : List Int), ([] : List Int), false)) (fun k => ?_) (Ev.now _)
          rw [spec_reGoOn.l0, if_neg (by omega)]
      | succ e ihe =>
        intro i hi
        obtain ⟨r, hr, hev⟩ := ihe (i + 1) (by omega)
        have hc := l1Has_ev o (i : Int) (by omega)
        by_cases hm : (i : Int) ∈ o
        · rw [decide_eq_true hm] at hc
          refine ⟨r, Res.skip hl hlt (fun d _ v => v.new hm) hr, ?_⟩
          refine Ev.step (f := fun k => (spec_l1Has.f k o (i : Int)).bind fun t => (if t = true then (spec_reGoOn.l0 k a (o.length : Int) (prv f) a (a.length : Int) ((i + 1 : Nat) : Int) o f) else (spec_reGoOn.l1 k a (o.length : Int) (prv f) (i : Int) (rd a (i : Int)) (prv f) a (a.length : Int) (i : Int) o f))) (fun k => ?_) (Ev.bind hc (Ev.pos rfl hev))
          rw [spec_reGoOn.l0, if_pos (by omega), if_pos (by omega), if_pos (by omega), wrap_succ i (by omega)]
        · rw [decide_eq_false hm] at hc
          have hia : i < a.length := by omega
          have hcnt : ∀ c : Nat, Ev (fun k => spec_reCount.f k o (c : Int) (i : Int)) (rc (i : Int) (c : Int) o 0) := fun c => LabelOfRegion.reCount_ev o (c : Int) (i : Int) (by omega)
          have l1 : ∀ (e c : Nat), c + e = o.length + 1 → prv f ≤ (c : Int) → ∃ r, Res a o f i c r ∧ Ev (fun k => spec_reGoOn.l1 k a (o.length : Int) (prv f) (i : Int) (rd a (i : Int)) (c : Int) a (a.length : Int) (i : Int) o f) r := by
            intro e
            induction e with
            | zero =>
              intro c hc hlo
              refine ⟨r, Res.skip hl hlt (fun d hd v => by have := v.hi; omega) hr, ?_⟩
              refine Ev.step (f := ?f2) (fun k => ?h2) ?g2
              case g2 => exact hev
              case h2 => rw [spec_reGoOn.l1, if_neg (by omega), wrap_succ i (by omega)]
            | succ e ihc =>
              intro c hc hlo
              obtain ⟨r3, h3, h4⟩ := ihc (c + 1) (by omega) (by omega)
              have skipj : Ev (fun k => spec_reGoOn.j3 k a (o.length : Int) (prv f) (i : Int) (rd a (i : Int)) (c : Int) a (a.length : Int) (i : Int) true o f) r3 := by
                refine Ev.step (f := ?f3) (fun k => ?h3) ?g3
                case g3 => exact h4
                case h3 => rw [spec_reGoOn.j3, if_pos rfl, wrap_succ c (by omega)]
              have goj : Vs a o f i c → ∃ r, Res a o f i c r ∧ Ev (fun k => spec_reGoOn.j3 k a (o.length : Int) (prv f) (i : Int) (rd a (i : Int)) (c : Int) a (a.length : Int) (i : Int) false o f) r := by
                intro v
                obtain ⟨r2, ha2, he2⟩ := ih (o ++ [(i : Int)]) (f ++ [(c : Int)]) (by simp; omega) (h.snoc v)
                have tail : ∀ r5, Ev (fun k => (if r2.2.2 = true then some (r2.1, r2.2.1, true) else spec_reGoOn.l1 k a (o.length : Int) (prv f) (i : Int) (rd a (i : Int)) ((c + 1 : Nat) : Int) a (a.length : Int) (i : Int) o f)) r5 → Ev (fun k => spec_reGoOn.j3 k a (o.length : Int) (prv f) (i : Int) (rd a (i : Int)) (c : Int) a (a.length : Int) (i : Int) false o f) r5 := by
                  intro r5 h5
                  refine Ev.step (f := ?f4) (fun k => ?h4) ?g4
                  case h4 => rw [spec_reGoOn.j3, if_neg (by decide), ownD o (by omega), Option.bind_some, Option.bind_some, if_pos (by simp; omega), ownD f (by omega), Option.bind_some, Option.bind_some, if_pos (by simp; omega), wrap_succ c (by omega)]
                  case g4 => exact Ev.bind he2 h5
                rcases ha2 with ⟨hx, ht⟩ | ⟨hr2, hno⟩
                · exact ⟨(r2.1, r2.2.1, true), Res.found (r := (r2.1, r2.2.1, true)) hl hx rfl i c, tail _ (Ev.pos ht (Ev.now _))⟩
                · exact ⟨r3, Res.back hl (All.no hl hlt (.inr ⟨rfl, hno⟩) v) (.inl h3) hlt, tail _ (Ev.neg (by rw [hr2]; decide) h4)⟩
              have cnt : (prv f < (c : Int) → rd o ((c : Int) - 1) < (i : Int)) → ∃ r, Res a o f i c r ∧ Ev (fun k => (spec_reCount.f k o (c : Int) (i : Int)).bind fun t => spec_reGoOn.j3 k a (o.length : Int) (prv f) (i : Int) (rd a (i : Int)) (c : Int) a (a.length : Int) (i : Int) (t != rd a (i : Int)) o f) r := by
                intro hup
                by_cases he : rc (i : Int) (c : Int) o 0 = rd a (i : Int)
                · obtain ⟨r5, h5, h6⟩ := goj ⟨hm, hia, hlo, by omega, he, hup⟩
                  refine ⟨r5, h5, Ev.bind (hcnt c) ?_⟩
                  rw [show (rc (i : Int) (c : Int) o 0 != rd a (i : Int)) = false from bne_eq_false_iff_eq.2 he]
                  exact h6
                · refine ⟨r3, Res.skip1 hl hlt (fun v => he v.eq) h3, Ev.bind (hcnt c) ?_⟩
                  rw [show (rc (i : Int) (c : Int) o 0 != rd a (i : Int)) = true from bne_iff_ne.2 he]
                  exact skipj
              by_cases hgt : (c : Int) > prv f
              · obtain ⟨q, rfl⟩ : ∃ q, c = q + 1 := ⟨c - 1, by omega⟩
                have hw : wrap64 (((q + 1 : Nat) : Int) - 1) = (q : Int) := by rw [wrap64_in _ (by omega) (by omega)]; omega
                have hne : rd o (q : Int) ≠ (i : Int) := fun e => hm (by rw [← e, rd_nat o q (by omega)]; exact List.getElem_mem _)
                by_cases hoi : rd o (q : Int) > (i : Int)
                · refine ⟨r3, Res.skip1 hl hlt (fun v => ?_) h3, ?_⟩
                  · have := v.up (by omega)
                    rw [show ((q + 1 : Nat) : Int) - 1 = (q : Int) by omega] at this
                    omega
                  · refine Ev.step (f := ?f5) (fun k => ?h5) ?g5
                    case g5 => exact skipj
                    case h5 => rw [spec_reGoOn.l1, if_pos (by omega), if_pos hgt, hw, if_pos (by omega), if_pos (by omega), if_pos hoi]
                · obtain ⟨r5, h5, h6⟩ := cnt (fun _ => by rw [show ((q + 1 : Nat) : Int) - 1 = (q : Int) by omega]; omega)
                  refine ⟨r5, h5, ?_⟩
                  refine Ev.step (f := ?f6) (fun k => ?h6) ?g6
                  case g6 => exact h6
                  case h6 => rw [spec_reGoOn.l1, if_pos (by omega), if_pos hgt, hw, if_pos (by omega), if_pos (by omega), if_neg hoi]
              · obtain ⟨r5, h5, h6⟩ := cnt (fun hh => by omega)
                refine ⟨r5, h5, ?_⟩
                refine Ev.step (f := ?f7) (fun k => ?h7) ?g7
                case g7 => exact h6
                case h7 => rw [spec_reGoOn.l1, if_pos (by omega), if_neg hgt]
          obtain ⟨b, hb⟩ : ∃ b : Nat, prv f = (b : Int) := ⟨(prv f).toNat, by omega⟩
          obtain ⟨r3, h3, h4⟩ := l1 (o.length + 1 - b) b (by omega) (by omega)
          have h3' : Res a o f i 0 r3 := by
            rcases h3 with h3 | ⟨h5, h6⟩
            · exact .inl h3
            · refine .inr ⟨h5, fun o' f' e hc => h6 o' f' e ?_⟩
              rcases hc with hc | ⟨hc, _⟩
              · exact .inl hc
              · obtain ⟨j, d, hj, hd, v, _⟩ := e.next hl hlt
                refine .inr ⟨hc, ?_⟩
                rw [hd]
                have := v.lo
                omega
          refine ⟨r3, h3', ?_⟩
          rw [← hb] at h4
          refine Ev.step (f := fun k => (spec_l1Has.f k o (i : Int)).bind fun t => (if t = true then (spec_reGoOn.l0 k a (o.length : Int) (prv f) a (a.length : Int) ((i + 1 : Nat) : Int) o f) else (spec_reGoOn.l1 k a (o.length : Int) (prv f) (i : Int) (rd a (i : Int)) (prv f) a (a.length : Int) (i : Int) o f))) (fun k => ?_) (Ev.bind hc (Ev.neg (by decide) h4))
          rw [spec_reGoOn.l0, if_pos (by omega), if_pos (by omega), if_pos (by omega), wrap_succ i (by omega)]
    obtain ⟨r, hr, hev⟩ := loop a.length 0 (by omega)
    refine ⟨r, hr.all hl hlt, ?_⟩
    have hj0 : Ev (fun k => spec_reGoOn.j0 k a (o.length : Int) (prv f) o f) r := by
      refine Ev.step (f := ?f9) (fun k => ?h9) ?g9
      case g9 => exact hev
      case h9 =>
        rw [spec_reGoOn.j0]
        rfl
    refine Ev.step (f := ?f10) (fun k => ?h10) ?g10
    case g10 => exact hj0
    case h10 =>
      rw [spec_reGoOn.f, if_neg (by omega)]
      unfold prv
      rcases Nat.eq_zero_or_pos o.length with e | e
      · rw [if_neg (by omega), if_pos (by omega)]
      · have hw : wrap64 ((o.length : Int) - 1) = ((f.length - 1 : Nat) : Int) := by rw [wrap64_in _ (by omega) (by omega)]; omega
        rw [if_pos (by omega), hw, if_pos (by omega), if_pos (by omega), if_neg (by omega)]
end Go.Proofs.YtgfcnfbbiaeboaaGreat.Plain
