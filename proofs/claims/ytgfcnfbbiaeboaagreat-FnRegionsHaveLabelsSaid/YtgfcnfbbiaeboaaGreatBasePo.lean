/- The point of a region: impl.PointOfRegion gives a point that lies in it. Condition: a region of at most 8 places. -/
import Derived.Test.YtgfcnfbbiaeboaaGreatPAllx6
import Derived.Test.YtgfcnfbbiaeboaaGreatBaseRt
import Derived.Test.YtgfcnfbbiaeboaaGreatBasePp
import Derived.Test.YtgfcnfbbiaeboaaGreatBaseKa
namespace Go.Proofs.YtgfcnfbbiaeboaaGreat.Plain
open Go.RowKit Go.Proofs.YtgfcnfbbiaeboaaGreatW.PrintWords Go.Proofs.YtgfcnfbbiaeboaaGreatW.PrintLast Go.Proofs.YtgfcnfbbiaeboaaGreat.Hand Go.Proofs.YtgfcnfbbiaeboaaGreat.PAll
set_option linter.unusedVariables false
namespace PoR
theorem farL_mem : ∀ (d p lo : Nat) (f : List Int), f.length = d → (∀ m : Nat, m < d → (lo : Int) ≤ rd f m ∧ rd f m ≤ (p + m : Nat)) → (∀ m m2 : Nat, m ≤ m2 → m2 < d → rd f m ≤ rd f m2) → f ∈ farL d p lo := by
  intro d
  induction d with
  | zero =>
    intro p lo f hl _ _
    have : f = [] := List.eq_nil_of_length_eq_zero hl
    subst this
    exact List.mem_singleton.2 rfl
  | succ d ih =>
    intro p lo f hl hin hmo
    match f, hl with
    | x :: t, hl =>
      have h0 := hin 0 (by omega)
      have hx : rd (x :: t) ((0 : Nat) : Int) = x := rfl
      rw [hx] at h0
      have hrd : ∀ m : Nat, rd (x :: t) ((m + 1 : Nat) : Int) = rd t (m : Int) := by
        intro m
        unfold rd
        rw [Int.toNat_natCast, Int.toNat_natCast, List.getD_cons_succ]
      obtain ⟨y, hy⟩ : ∃ y : Nat, x = ((lo + y : Nat) : Int) := ⟨(x - lo).toNat, by omega⟩
      rw [farL, List.mem_flatten]
      refine ⟨(farL d (p + 1) (lo + y)).map fun t => ((lo + y : Nat) : Int) :: t, List.mem_map.2 ⟨y, List.mem_range.2 (by omega), rfl⟩, List.mem_map.2 ⟨t, ?_, by rw [hy]⟩⟩
      refine ih (p + 1) (lo + y) t (by simpa using hl) ?_ ?_
      · intro m hm
        have h1 := hin (m + 1) (by omega)
        have h2 := hmo 0 (m + 1) (by omega) (by omega)
        rw [hrd] at h1 h2
        rw [hx] at h2
        omega
      · intro m m2 hm hm2
        have h1 := hmo (m + 1) (m2 + 1) (by omega) (by omega)
        rw [hrd, hrd] at h1
        exact h1
theorem farL_len7 : (farL 7 0 0).length ≤ 1000 := by decide +kernel
theorem farL_len8 : (farL 8 0 0).length ≤ 1440 := by decide +kernel
theorem RegP.mono' {o f : List Int} (h : RegP o f) : ∀ (d m : Nat), m + d < o.length → rd f (m : Int) ≤ rd f ((m + d : Nat) : Int)
  | 0, m, _ => Int.le_refl _
  | d + 1, m, hm => by
    have h1 := RegP.mono' h d m (by omega)
    have h2 := h.mono (m + d) (by omega)
    rw [show m + (d + 1) = m + d + 1 by omega]
    omega
theorem good_all {o f : List Int} (h : RegP o f) (h8 : o.length ≤ 8) : goodF f = true := by
  have hl := h.len
  have hm : f ∈ farL f.length 0 0 := farL_mem f.length 0 0 f rfl (fun m hm => by have := h.far m (by omega); omega) (fun m m2 h1 h2 => by
    have := RegP.mono' h (m2 - m) m (by omega)
    rwa [show m + (m2 - m) = m2 by omega] at this)
  have h5 := List.all_eq_true.1 good_5
  by_cases e : f.length ≤ 5
  · refine h5 f ?_
    simp only [List.mem_append]
    obtain ⟨n, hn⟩ : ∃ n, n = f.length := ⟨_, rfl⟩
    rw [← hn] at hm e
    match n, e with
    | 0, _ => exact .inl (.inl (.inl (.inl (.inl hm))))
    | 1, _ => exact .inl (.inl (.inl (.inl (.inr hm))))
    | 2, _ => exact .inl (.inl (.inl (.inr hm)))
    | 3, _ => exact .inl (.inl (.inr hm))
    | 4, _ => exact .inl (.inr hm)
    | 5, _ => exact .inr hm
    | n + 6, h => omega
  by_cases e6 : f.length = 6
  · rw [e6] at hm
    exact List.all_eq_true.1 good_6 f hm
  by_cases e7 : f.length = 7
  · rw [e7] at hm
    refine List.all_eq_true.1 good_7_0 f ?_
    rw [List.drop_zero, List.take_of_length_le farL_len7]
    exact hm
  have e8 : f.length = 8 := by omega
  rw [e8] at hm
  have hl8 := farL_len8
  rw [← List.take_append_drop 480 (farL 8 0 0), List.mem_append] at hm
  rcases hm with hm | hm
  · exact List.all_eq_true.1 good_8_0 f (by rw [List.drop_zero]; exact hm)
  · rw [← List.take_append_drop 480 ((farL 8 0 0).drop 480), List.mem_append] at hm
    rcases hm with hm | hm
    · exact List.all_eq_true.1 good_8_480 f hm
    · rw [List.drop_drop] at hm
      refine List.all_eq_true.1 good_8_960 f ?_
      rw [List.take_of_length_le (by rw [List.length_drop]; omega)]
      exact hm
theorem up {α : Type} {g : Nat → Option α} (hm : ∀ k, LeO (g k) (g (k + 1))) {k0 : Nat} {r : α} (h : g k0 = some r) : Ev g r := by
  refine ⟨k0, fun k hk => ?_⟩
  obtain ⟨d, rfl⟩ : ∃ d, k = k0 + d := ⟨k - k0, by omega⟩
  clear hk
  induction d with
  | zero => exact h
  | succ d ih => exact hm (k0 + d) r ih
theorem tells_iff {f m : List Int} (h : tells f m = true) : m.length = f.length ∧ (∀ v ∈ m, -100000 ≤ v ∧ v ≤ 100000) ∧ ∀ q p : Nat, q < p → p < f.length → rd m (p : Int) < rd m (q : Int) ∧ ((q : Int) < rd f (p : Int) ↔ 100 < rd m (q : Int) - rd m (p : Int)) ∧ rd m (q : Int) - rd m (p : Int) ≠ 100 := by
  unfold tells at h
  simp only [Bool.and_eq_true, decide_eq_true_eq, List.all_eq_true, List.mem_range] at h
  exact ⟨h.1.1, h.1.2, fun q p hq hp => h.2 p hp q hq⟩
theorem most {o f : List Int} (h : RegP o f) (h8 : o.length ≤ 8) : ∃ m : List Int, tells f m = true ∧ Ev (fun k => ptT f o.length k (List.replicate o.length 0, true)) m := by
  have hg := good_all h h8
  have hl := h.len
  unfold goodF at hg
  split at hg
  · rename_i m hm
    refine ⟨m, hg, ?_⟩
    rw [← hl]
    exact up (fun k => ptT_mono f f.length k _) (k0 := 200) hm
  · cases hg
theorem out_get {o m : List Int} (nd : o.Nodup) (inr : ∀ x ∈ o, 0 ≤ x ∧ x < (o.length : Int)) : ∀ (N p : Nat), p < N → N ≤ o.length → rd (ptOut o m N) (rd o (p : Int)) = rd m (p : Int)
  | 0, p, h, _ => by omega
  | N + 1, p, h, hN => by
    have hin : ∀ q : Nat, q < o.length → 0 ≤ rd o (q : Int) ∧ rd o (q : Int) < (o.length : Int) := fun q hq => inr _ (by rw [rd_nat o q hq]; exact List.getElem_mem hq)
    have h1 := hin p (by omega)
    have h2 := hin N (by omega)
    have hlb := ptOut_length o m N
    obtain ⟨a, ha⟩ : ∃ a : Nat, rd o (p : Int) = (a : Int) := ⟨(rd o (p : Int)).toNat, by omega⟩
    rw [ptOut, ha]
    rcases Nat.lt_or_eq_of_le (Nat.le_of_lt_succ h) with e | e
    · have hne : rd o (N : Int) ≠ rd o (p : Int) := by
        rw [rd_nat o N (by omega), rd_nat o p (by omega)]
        intro e2
        have := (List.getElem_inj nd).1 e2
        omega
      rw [rd_nat _ a (by rw [List.length_set]; omega), List.getElem_set_ne (by omega), ← rd_nat _ a (by omega), ← ha]
      exact out_get nd inr N p e (by omega)
    · subst e
      rw [ha, Int.toNat_natCast, rd_nat _ a (by rw [List.length_set]; omega), List.getElem_set_self]
end PoR
/-- The program's point of a region lies in it. -/
theorem PointOfRegion_ev {o f : List Int} (h : RegP o f) (h8 : o.length ≤ 8) : ∃ x : List Int, Pt x ∧ InReg x o f ∧ Ev (fun k => impl_PointOfRegion.f k o f) (x, true) ∧ ∃ m : List Int, x = ptOut o m o.length ∧ Ev (fun k => ptT f o.length k (List.replicate o.length 0, true)) m := by
  obtain ⟨m, hm, he⟩ := PoR.most h h8
  obtain ⟨hml, hmb, ht⟩ := PoR.tells_iff hm
  have hl := h.len
  have hget := fun p hp => PoR.out_get (m := m) h.nd h.inr o.length p hp (Nat.le_refl _)
  have hxl : (ptOut o m o.length).length = o.length := ptOut_length o m o.length
  have hpos : ∀ i : Nat, i < o.length → ∃ p : Nat, p < o.length ∧ rd o (p : Int) = (i : Int) := fun i hi => by
    have hm : (i : Int) ∈ o := h.perm.mem_iff.2 ((iota_mem _ _).2 ⟨by omega, by omega⟩)
    obtain ⟨p, hp, e⟩ := List.mem_iff_getElem.1 hm
    exact ⟨p, hp, by rw [rd_nat o p hp, e]⟩
  refine ⟨ptOut o m o.length, ⟨by omega, fun v hv => ?_, fun i j hij hj => ?_⟩, ⟨hxl, fun p q hpq hq => ?_, fun q p hqp hp hlt => ?_⟩, ?_, m, rfl, he⟩
  · obtain ⟨i, hi, e⟩ := List.mem_iff_getElem.1 hv
    obtain ⟨p, hp, ep⟩ := hpos i (by omega)
    have hg := hget p hp
    rw [ep, rd_nat _ i hi, e] at hg
    rw [hg]
    exact hmb _ (by rw [rd_nat m p (by omega)]; exact List.getElem_mem _)
  · obtain ⟨p, hp, ep⟩ := hpos i (by omega)
    obtain ⟨q, hq, eq⟩ := hpos j (by omega)
    rw [← ep, ← eq, hget p hp, hget q hq]
    rcases Nat.lt_trichotomy p q with c | c | c
    · have := ht p q c (by omega)
      omega
    · subst c; rw [ep] at eq; omega
    · have := ht q p c (by omega)
      omega
  · rw [hget p (by omega), hget q hq]
    exact (ht p q hpq (by omega)).1
  · rw [hget p hp, hget q (by omega)]
    exact (ht q p hqp (by omega)).2.1
  · unfold impl_PointOfRegion.f
    have hr : reg o f = true := (reg_iff o f).2 ⟨h, h8⟩
    refine Ev.bind (isRegion_ev o f (by omega)) (Ev.pos hr (Ev.pos ⟨h8, hl, List.all_eq_true.2 fun x hx => decide_eq_true (h.inr x hx)⟩ (Ev.bind he (Ev.now _))))
end Go.Proofs.YtgfcnfbbiaeboaaGreat.Plain
