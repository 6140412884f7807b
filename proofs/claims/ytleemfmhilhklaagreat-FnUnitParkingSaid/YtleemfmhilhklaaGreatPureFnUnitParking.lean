/- The pure statement of the law FnUnitParking: whatever is drawn, the law's tests hold. No condition beside the row's own. -/
import Derived.Test.YtleemfmhilhklaaGreatPAllx1
import Derived.Test.YtleemfmhilhklaaGreatPAllx2
import Derived.Test.YtleemfmhilhklaaGreatPAllx4
import Derived.Test.YtleemfmhilhklaaGreatPAllx5
import Derived.Test.YtleemfmhilhklaaGreatPAllx6
import Derived.Test.YtleemfmhilhklaaGreatPAllx7
import Derived.Test.YtleemfmhilhklaaGreatPAllx8
import Derived.Test.YtleemfmhilhklaaGreatBaseUb
import Derived.Test.YtleemfmhilhklaaGreatBaseDr
import Derived.Test.YtleemfmhilhklaaGreatPureFnExactFromUnitBlocks
import Derived.Test.YtleemfmhilhklaaGreatPureFnExactIsUnit
import Derived.Test.YtleemfmhilhklaaGreatPureFnExactCountUnit
namespace Go.Proofs.YtleemfmhilhklaaGreat.Pure
open Go.RowKit Go.Proofs.YtleemfmhilhklaaGreatW.PrintWords Go.Proofs.YtleemfmhilhklaaGreatW.PrintLast Go.Proofs.YtleemfmhilhklaaGreat.Hand Go.Proofs.YtleemfmhilhklaaGreat.PAll Go.Proofs.YtleemfmhilhklaaGreat.Plain
set_option linter.unusedVariables false
namespace UnitP
open FromUnit
/-! ### What is written for the blocks of a list -/
/-- The favourites that blocks tell, beside those of l. -/
def GoodB (l : List Int) : Int → List (List Int) → Prop
  | _, [] => True
  | f, b :: bs => (∀ (i : Nat) (h : i < b.length), rd l b[i] = f + lag i) ∧ GoodB l (f + (b.length : Int)) bs
theorem goodB_snoc (l : List Int) (b : List Int) : ∀ (a : List (List Int)) (f : Int), GoodB l f a → (∀ (i : Nat) (h : i < b.length), rd l b[i] = f + (a.flatten.length : Int) + lag i) → GoodB l f (a ++ [b])
  | [], f, _, h => ⟨fun i hi => by have := h i hi; simp only [List.flatten_nil, List.length_nil, Int.natCast_zero, Int.add_zero] at this; exact this, trivial⟩
  | x :: xs, f, h1, h => by
    refine ⟨h1.1, goodB_snoc l b xs _ h1.2 (fun i hi => ?_)⟩
    have := h i hi
    rw [List.flatten_cons, List.length_append] at this
    rw [this]
    omega
theorem goodB_init (l : List Int) (b : List Int) : ∀ (a : List (List Int)) (f : Int), GoodB l f (a ++ [b]) → GoodB l f a ∧ ∀ (i : Nat) (h : i < b.length), rd l b[i] = f + (a.flatten.length : Int) + lag i
  | [], f, h => ⟨trivial, fun i hi => by have := h.1 i hi; simp only [List.flatten_nil, List.length_nil, Int.natCast_zero, Int.add_zero]; exact this⟩
  | x :: xs, f, h => by
    have ih := goodB_init l b xs _ h.2
    refine ⟨⟨h.1, ih.1⟩, fun i hi => ?_⟩
    have := ih.2 i hi
    rw [List.flatten_cons, List.length_append, this]
    omega
theorem fillB_val (l : List Int) (first : Int) : ∀ (b : List Int) (j : Nat) (out : List Int), (∀ c ∈ b, 0 ≤ c ∧ c < (out.length : Int)) → (∀ (i : Nat) (h : i < b.length), rd l b[i] = first + lag (j + i)) →
    ∀ c : Nat, c < out.length → rd (fillB first j b out) (c : Int) = if (c : Int) ∈ b then rd l (c : Int) else rd out (c : Int)
  | [], j, out, _, _, c, hc => by rw [fillB, if_neg (by simp)]
  | x :: xs, j, out, hin, hv, c, hc => by
    have hx := hin x List.mem_cons_self
    have h0 := hv 0 (by simp)
    rw [List.getElem_cons_zero, Nat.add_zero] at h0
    have ih := fillB_val l first xs (j + 1) (out.set x.toNat (first + lag j)) (fun c hc => by rw [List.length_set]; exact hin c (List.mem_cons_of_mem _ hc)) (fun i hi => by
      have := hv (i + 1) (by simpa using hi)
      rw [List.getElem_cons_succ, show j + (i + 1) = j + 1 + i by omega] at this
      exact this) c (by rw [List.length_set]; exact hc)
    rw [fillB, ih, rd_set out x.toNat c _ (by omega) hc]
    by_cases h1 : (c : Int) ∈ xs
    · rw [if_pos h1, if_pos (List.mem_cons_of_mem _ h1)]
    · rw [if_neg h1]
      by_cases h2 : x.toNat = c
      · have e : x = (c : Int) := by omega
        rw [if_pos h2, if_pos (by rw [e]; exact List.mem_cons_self), ← h0, e]
      · rw [if_neg h2, if_neg (fun h => by
          rcases List.mem_cons.1 h with h | h
          · omega
          · exact h1 h)]
theorem fillL_val (l : List Int) : ∀ (L : List (List Int)) (first : Int) (out : List Int), (∀ c ∈ L.flatten, 0 ≤ c ∧ c < (out.length : Int)) → GoodB l first L →
    ∀ c : Nat, c < out.length → rd (fillL first L out) (c : Int) = if (c : Int) ∈ L.flatten then rd l (c : Int) else rd out (c : Int)
  | [], first, out, _, _, c, hc => by rw [fillL, if_neg (by simp)]
  | b :: bs, first, out, hin, hg, c, hc => by
    have h1 := fillB_val l first b 0 out (fun c hc => hin c (by rw [List.flatten_cons, List.mem_append]; exact .inl hc)) (fun i hi => by rw [Nat.zero_add]; exact hg.1 i hi) c hc
    have ih := fillL_val l bs (first + (b.length : Int)) (fillB first 0 b out) (fun c hc => by rw [fillB_length]; exact hin c (by rw [List.flatten_cons, List.mem_append]; exact .inr hc)) hg.2 c (by rw [fillB_length]; exact hc)
    rw [fillL, ih, h1, List.flatten_cons]
    by_cases h2 : (c : Int) ∈ bs.flatten
    · rw [if_pos h2, if_pos (List.mem_append.2 (.inr h2))]
    · rw [if_neg h2]
      by_cases h3 : (c : Int) ∈ b
      · rw [if_pos h3, if_pos (List.mem_append.2 (.inl h3))]
      · rw [if_neg h3, if_neg (fun h => by
          rcases List.mem_append.1 h with h | h
          · exact h3 h
          · exact h2 h)]
theorem join_snoc (car : Int) (pre : List (List Int)) (b : List Int) : UnitBlocks.join car (pre ++ [b]) = pre ++ [b ++ [car]] := by
  unfold UnitBlocks.join
  have e : (pre ++ [b]).length - 1 = pre.length := by simp
  rw [e, List.set_append_right _ _ (Nat.le_refl _), Nat.sub_self, List.set_cons_zero]
  congr 2
  unfold rd_L3
  rw [Int.toNat_natCast, List.getD_eq_getElem?_getD, List.getElem?_append_right (Nat.le_refl _), Nat.sub_self]
  rfl
/-- What holds of the blocks of the first n cars. -/
structure Inv (l : List Int) (n : Nat) (o : List (List Int)) : Prop where
  flat : o.flatten = (fairS l).take n
  good : GoodB l 0 o
  up : ∀ b ∈ o, b.Pairwise (· < ·)
  last : 0 < n → ∃ pre b c, o = pre ++ [b ++ [c]] ∧ c = rd (fairS l) ((n - 1 : Nat) : Int)
theorem inv_put {l : List Int} (U : UnitF l) (hf0 : 0 < (fairS l).length → rd l (rd (fairS l) 0) = 0) (n : Nat) (hn : n < (fairS l).length) (o : List (List Int)) (I : Inv l n o) : Inv l (n + 1) (UnitBlocks.put l (rd (fairS l) (n : Int)) n o) := by
  have hlen : o.flatten.length = n := by rw [I.flat, List.length_take]; omega
  have hcar : rd (fairS l) (n : Int) = (fairS l)[n] := rd_nat _ n hn
  rw [hcar]
  unfold UnitBlocks.put
  by_cases hc : rd l (fairS l)[n] = (n : Int)
  · rw [if_pos hc, join_snoc, List.nil_append]
    refine ⟨?_, ?_, ?_, fun _ => ⟨o, [], (fairS l)[n], by simp, by rw [Nat.add_sub_cancel, hcar]⟩⟩
    · rw [List.flatten_append, I.flat, List.take_succ_eq_append_getElem hn]
      simp
    · refine goodB_snoc l _ o 0 I.good (fun i hi => ?_)
      simp only [List.length_singleton] at hi
      obtain rfl : i = 0 := by omega
      simp only [List.getElem_cons_zero]
      rw [hc, hlen]
      unfold lag
      omega
    · intro b hb
      rw [List.mem_append, List.mem_singleton] at hb
      rcases hb with hb | rfl
      · exact I.up b hb
      · simp
  · rw [if_neg hc]
    have hn0 : 0 < n := by
      rcases Nat.eq_zero_or_pos n with rfl | h
      · refine absurd ?_ hc
        have := hf0 (by omega)
        rw [show (0 : Int) = ((0 : Nat) : Int) from rfl, rd_nat _ 0 hn] at this
        exact this
      · exact h
    obtain ⟨pre, b, c, rfl, hce⟩ := I.last hn0
    rw [join_snoc]
    have hg := goodB_init l (b ++ [c]) pre 0 I.good
    have hfl : (pre ++ [b ++ [c]]).flatten = pre.flatten ++ (b ++ [c]) := by rw [List.flatten_append]; simp
    rw [hfl, List.length_append, List.length_append, List.length_singleton] at hlen
    have hfav := (fav_at U n hn).resolve_left hc
    refine ⟨?_, ?_, ?_, fun _ => ⟨pre, b ++ [c], (fairS l)[n], rfl, by rw [Nat.add_sub_cancel, hcar]⟩⟩
    · have h2 := I.flat
      rw [hfl] at h2
      rw [List.flatten_append, List.take_succ_eq_append_getElem hn, ← h2]
      simp
    · refine goodB_snoc l _ pre 0 hg.1 (fun i hi => ?_)
      by_cases h3 : i < (b ++ [c]).length
      · rw [List.getElem_append_left h3]
        exact hg.2 i h3
      · have h4 : i = b.length + 1 := by simp only [List.length_append, List.length_singleton] at hi h3; omega
        subst h4
        rw [List.getElem_append_right (by simp)]
        simp only [List.length_append, List.length_singleton, Nat.sub_self, List.getElem_cons_zero]
        rw [hfav]
        unfold lag
        omega
    · intro x hx
      rw [List.mem_append, List.mem_singleton] at hx
      rcases hx with hx | rfl
      · exact I.up x (List.mem_append.2 (.inl hx))
      · have hp := I.up (b ++ [c]) (List.mem_append.2 (.inr (List.mem_singleton.2 rfl)))
        have hlast : c < (fairS l)[n] := by
          have := go_up U (n - 1) (by omega) (by
            simp only [Nat.sub_add_cancel hn0]
            rw [hfav]
            omega)
          simp only [Nat.sub_add_cancel hn0] at this
          rw [hce, rd_nat _ (n - 1) (by omega)]
          exact this
        rw [List.pairwise_append]
        refine ⟨hp, by simp, fun a ha d hd => ?_⟩
        rw [List.mem_singleton] at hd
        subst hd
        rcases List.mem_append.1 ha with ha | ha
        · rw [List.pairwise_append] at hp
          have := hp.2.2 a ha c (List.mem_singleton.2 rfl)
          omega
        · rw [List.mem_singleton] at ha
          omega
theorem inv_go {l : List Int} (U : UnitF l) (hf0 : 0 < (fairS l).length → rd l (rd (fairS l) 0) = 0) : ∀ (d n : Nat) (o : List (List Int)), n + d = (fairS l).length → Inv l n o → Inv l (fairS l).length (UnitBlocks.go l (fairS l) d n o)
  | 0, n, o, hn, I => by
    obtain rfl : n = (fairS l).length := by omega
    exact I
  | d + 1, n, o, hn, I => inv_go U hf0 d (n + 1) _ (by omega) (inv_put U hf0 n (by omega) o I)
theorem inv_all {l : List Int} (hp : parking l = true) (hu : unit l 1 = true) : Inv l (fairS l).length (UnitBlocks.go l (fairS l) (fairS l).length 0 []) :=
  inv_go (unitF hp hu) (UnitBlocks.fits hp).first (fairS l).length 0 [] (by omega) ⟨by simp, trivial, by simp, fun h => by omega⟩
/-- The blocks of a list make that list again. -/
theorem back {l : List Int} (hp : parking l = true) (hu : unit l 1 = true) : res (ub l).1 = (l, true) ∧ ∀ b ∈ (ub l).1, b.Pairwise (· < ·) := by
  have U := unitF hp hu
  have I := inv_all hp hu
  have e : ub l = (UnitBlocks.go l (fairS l) (fairS l).length 0 [], true) := by unfold ub; rw [if_pos ⟨hp, hu⟩]
  rw [e]
  generalize UnitBlocks.go l (fairS l) (fairS l).length 0 [] = L at I e ⊢
  have hfl : L.flatten = fairS l := by rw [I.flat, List.take_length]
  have hl := U.flen
  have ho : order L.flatten = true := by
    rw [hfl]
    exact order_of (by have := U.eight; omega) (U.perm.nodup_iff.2 (iota_nodup _)) (fun x hx => by rw [hl]; exact (iota_mem _ x).1 (U.perm.mem_iff.1 hx))
  have hout : outOf L = l := by
    unfold outOf
    rw [hfl, hl]
    refine List.ext_getElem (by rw [fillL_length, List.length_replicate]) (fun c h1 h2 => ?_)
    have hv := fillL_val l L 0 (List.replicate l.length 0) (fun c hc => by
      rw [List.length_replicate]
      rw [hfl] at hc
      exact (iota_mem _ c).1 (U.perm.mem_iff.1 hc)) I.good c (by rw [List.length_replicate]; exact h2)
    rw [if_pos (by rw [hfl]; exact U.perm.mem_iff.2 ((iota_mem _ _).2 (by omega))), rd_nat _ c h1, rd_nat l c h2] at hv
    exact hv
  refine ⟨?_, I.up⟩
  unfold res
  rw [hout, e, if_pos ⟨ho, rfl, rfl⟩]
/-! ### What is drawn -/
theorem most_eq (x y : Int) : ∃ z, spec_l1Most.f x y = some z := by unfold spec_l1Most.f; split <;> exact ⟨_, rfl⟩
theorem unit_l0 {code : List Int} (hc : Bytes code) (o : List Int) (hi : ∀ x ∈ o, 0 ≤ x ∧ x < (o.length : Int)) (h8 : o.length ≤ 8) : ∀ (d n : Nat) (x : List Int) (first at_ seed : Int), n + d = o.length → x.length = o.length → 0 ≤ at_ ∧ at_ ≤ 600000 - 2 * (d : Int) →
    ∃ r, Ev (fun k => spec_l1Cur_unit.l0 k x first o (o.length : Int) (n : Int) code at_ seed) r ∧ r.1.length = o.length ∧ 0 ≤ r.2.1 ∧ r.2.1 ≤ 600000 := by
  intro d
  induction d with
  | zero =>
    intro n x first at_ seed hn hx ha
    refine ⟨(x, at_, seed), Ev.step (f := fun _ => some (x, at_, seed)) (fun k => ?_) (Ev.now _), hx, by dsimp only; omega, by dsimp only; omega⟩
    rw [spec_l1Cur_unit.l0, if_neg (by omega)]
  | succ d ih =>
    intro n x first at_ seed hn hx ha
    have hlt : n < o.length := by omega
    have hin := hi o[n] (List.getElem_mem hlt)
    have hstep : ∀ k, spec_l1Cur_unit.l0 (k + 1) x first o (o.length : Int) (n : Int) code at_ seed = _ := fun k => by rw [spec_l1Cur_unit.l0, if_pos (by omega), if_pos (by omega), if_pos (by omega), rd_nat o n hlt, wrap_succ n (by omega)]
    by_cases h0 : (n : Int) > 0
    · obtain ⟨b, a, s, e, ha0, ha1⟩ := one_ok hc at_ seed 2 (by omega) (by decide)
      cases b with
      | true =>
        obtain ⟨z, ez⟩ := most_eq (-1) 0
        obtain ⟨r, hr, h1, h2, h3⟩ := ih (n + 1) (x.set o[n].toNat (wrap64 ((n : Int) + z))) (n : Int) a s (by omega) (by rw [List.length_set]; exact hx) (by omega)
        refine ⟨r, Ev.step (fun k => ?_) hr, h1, h2, h3⟩
        rw [hstep, if_pos h0, e, Option.bind_some]
        dsimp only
        rw [if_pos rfl, ez, Option.bind_some, if_pos hin.1, if_pos (by omega)]
      | false =>
        obtain ⟨z, ez⟩ := most_eq (wrap64 (wrap64 ((n : Int) - first) - 1)) 0
        obtain ⟨r, hr, h1, h2, h3⟩ := ih (n + 1) (x.set o[n].toNat (wrap64 (first + z))) first a s (by omega) (by rw [List.length_set]; exact hx) (by omega)
        refine ⟨r, Ev.step (fun k => ?_) hr, h1, h2, h3⟩
        rw [hstep, if_pos h0, e, Option.bind_some]
        dsimp only
        rw [if_neg (by decide), ez, Option.bind_some, if_pos hin.1, if_pos (by omega)]
    · obtain ⟨z, ez⟩ := most_eq (wrap64 (wrap64 ((n : Int) - first) - 1)) 0
      obtain ⟨r, hr, h1, h2, h3⟩ := ih (n + 1) (x.set o[n].toNat (wrap64 (first + z))) first at_ seed (by omega) (by rw [List.length_set]; exact hx) (by omega)
      refine ⟨r, Ev.step (fun k => ?_) hr, h1, h2, h3⟩
      rw [hstep, if_neg h0, ez, Option.bind_some, if_pos hin.1, if_pos (by omega)]
theorem unit_ok {code : List Int} (hc : Bytes code) : ∃ r, Ev (fun k => spec_l1Cur_unit.f k code 0 0) r ∧ r.1.length ≤ 20 ∧ 0 ≤ r.2.1 ∧ r.2.1 ≤ 600000 := by
  obtain ⟨n, a, s, e, hn0, hn1, ha0, ha1⟩ := pick_ok hc 0 0 9 (by decide) (by decide)
  have hn := hn1 (by decide)
  obtain ⟨q, hq, hql, hq0, hq1⟩ := out_ok hc a s n.toNat (by omega) (by omega)
  rw [show ((n.toNat : Nat) : Int) = n by omega] at hq
  have hpark : ∀ at_ seed : Int, 0 ≤ at_ ∧ at_ ≤ 50000 → ∃ r, Ev (fun k => spec_l1Cur_unit.j0 k n q.1 true code at_ seed) r ∧ r.1.length ≤ 20 ∧ 0 ≤ r.2.1 ∧ r.2.1 ≤ 600000 := fun at_ seed ha => by
    obtain ⟨r, hr, hrl, hr0, hr1⟩ := park_at hc at_ seed ha 6 (by decide)
    refine ⟨(r.1, r.2.1, r.2.2), Ev.step (f := ?f1) (fun k => ?h1) ?g1, by dsimp only; omega, hr0, by dsimp only; omega⟩
    case h1 => rw [spec_l1Cur_unit.j0, if_pos rfl]
    exact Ev.bind hr (Ev.now _)
  cases ho : order q.1 with
  | false =>
    obtain ⟨r, hr, h1⟩ := hpark q.2.1 q.2.2 (by omega)
    have hpo := paOutcome_ev q.1
    rw [ho] at hpo
    refine ⟨r, ?_, h1⟩
    unfold spec_l1Cur_unit.f
    exact Ev.bindc e (Ev.bind hq (Ev.bind hpo (Ev.neg (by decide) hr)))
  | true =>
    have hpo := paOutcome_ev q.1
    rw [ho] at hpo
    have hf := order_facts ho
    obtain ⟨b, a2, s2, e2, ha20, ha21⟩ := one_ok hc q.2.1 q.2.2 6 (by omega) (by decide)
    cases b with
    | true =>
      obtain ⟨r, hr, h1⟩ := hpark a2 s2 (by omega)
      refine ⟨r, ?_, h1⟩
      unfold spec_l1Cur_unit.f
      exact Ev.bindc e (Ev.bind hq (Ev.bind hpo (Ev.pos rfl (Ev.bindc e2 hr))))
    | false =>
      obtain ⟨r, hr, h1, h2, h3⟩ := unit_l0 hc q.1 hf.2.2 hf.1 q.1.length 0 (List.replicate n.toNat 0) 0 a2 s2 (by omega) (by rw [List.length_replicate]; omega) (by omega)
      refine ⟨r, ?_, by omega, h2, h3⟩
      unfold spec_l1Cur_unit.f
      have hj : Ev (fun k => spec_l1Cur_unit.j0 k n q.1 false code a2 s2) r := by
        refine Ev.step (fun k => ?_) hr
        rw [spec_l1Cur_unit.j0, if_neg (by decide), if_pos hn0, if_pos (by omega)]
        rfl
      exact Ev.bindc e (Ev.bind hq (Ev.bind hpo (Ev.pos rfl (Ev.bindc e2 hj))))
theorem rows_l0 {code : List Int} (hc : Bytes code) (o : List Int) (h8 : o.length ≤ 8) : ∀ (d n : Nat) (x : List (List Int)) (y : List Int) (at_ seed : Int), n + d = o.length → x.length ≤ n → x.flatten.length + y.length = n → 0 ≤ at_ ∧ at_ ≤ 700000 - 2 * (d : Int) →
    ∃ r, Ev (fun k => spec_DrawFromUnitBlocks.l0 k x y o (o.length : Int) (n : Int) code at_ seed) r ∧ r.length ≤ 20 ∧ r.flatten.length ≤ 20 := by
  intro d
  induction d with
  | zero =>
    intro n x y at_ seed hn hx hy ha
    have hfl : (x ++ [y]).flatten.length = n := by rw [List.flatten_append, List.length_append, List.flatten_cons, List.flatten_nil, List.append_nil]; exact hy
    by_cases h0 : (y.length : Int) > 0
    · refine ⟨x ++ [y], Ev.step (f := fun _ => some (x ++ [y])) (fun k => ?_) (Ev.now _), by simp; omega, by omega⟩
      rw [spec_DrawFromUnitBlocks.l0, if_neg (by omega), if_pos h0, if_pos (by omega)]
    · obtain ⟨b, a, s, e, ha0, ha1⟩ := one_ok hc at_ seed 6 (by omega) (by decide)
      cases b with
      | true =>
        refine ⟨x ++ [y], Ev.step (f := fun _ => some (x ++ [y])) (fun k => ?_) (Ev.now _), by simp; omega, by omega⟩
        rw [spec_DrawFromUnitBlocks.l0, if_neg (by omega), if_neg h0, e, Option.bind_some]
        dsimp only
        rw [if_pos rfl, if_pos (by omega)]
      | false =>
        refine ⟨x, Ev.step (f := fun _ => some x) (fun k => ?_) (Ev.now _), by omega, by omega⟩
        rw [spec_DrawFromUnitBlocks.l0, if_neg (by omega), if_neg h0, e, Option.bind_some]
        dsimp only
        rw [if_neg (by decide)]
  | succ d ih =>
    intro n x y at_ seed hn hx hy ha
    have hlt : n < o.length := by omega
    obtain ⟨b, a, s, e, ha0, ha1⟩ := one_ok hc at_ seed 2 (by omega) (by decide)
    have hstep : ∀ k, spec_DrawFromUnitBlocks.l0 (k + 1) x y o (o.length : Int) (n : Int) code at_ seed = _ := fun k => by rw [spec_DrawFromUnitBlocks.l0, if_pos (by omega), if_pos (by omega), if_pos (by omega), if_pos (by omega), Option.bind_some, e, Option.bind_some]
    dsimp only at hstep
    cases b with
    | true =>
      obtain ⟨r, hr, h1⟩ := ih (n + 1) (x ++ [y ++ [rd o (n : Int)]]) [] a s (by omega) (by simp; omega) (by rw [List.flatten_append, List.length_append, List.flatten_cons, List.flatten_nil, List.append_nil, List.length_append, List.length_singleton, List.length_nil]; omega) (by omega)
      refine ⟨r, Ev.step (fun k => ?_) hr, h1⟩
      rw [hstep, if_pos rfl, if_pos (by omega), wrap_succ n (by omega)]
    | false =>
      obtain ⟨r, hr, h1⟩ := ih (n + 1) x (y ++ [rd o (n : Int)]) a s (by omega) (by omega) (by rw [List.length_append, List.length_singleton]; omega) (by omega)
      refine ⟨r, Ev.step (fun k => ?_) hr, h1⟩
      rw [hstep, if_neg (by decide), wrap_succ n (by omega)]
theorem flat_small (L : List (List Int)) (m : Nat) (h : ∀ x ∈ L, x.length ≤ m) : L.flatten.length ≤ L.length * m := by
  induction L with
  | nil => simp
  | cons x xs ih =>
    have h1 := h x List.mem_cons_self
    have h2 := ih (fun y hy => h y (List.mem_cons_of_mem _ hy))
    rw [List.flatten_cons, List.length_append, List.length_cons, Nat.add_mul, Nat.one_mul]
    omega
theorem draw_from {code : List Int} (hc : Bytes code) : ∃ L, Ev (fun k => spec_DrawFromUnitBlocks.f k code) L ∧ L.length ≤ 100 ∧ L.flatten.length ≤ 100 := by
  obtain ⟨r, hr, hrl, hr0, hr1⟩ := unit_ok hc
  have hu := ub_ev r.1
  have hrows := ub_rows r.1
  have hfs := flat_small (ub r.1).1 8 hrows.2.1
  have hno : ∀ at_ seed : Int, 0 ≤ at_ ∧ at_ ≤ 650000 → ∃ L, Ev (fun k => spec_DrawFromUnitBlocks.j0 k (ub r.1).1 false code at_ seed) L ∧ L.length ≤ 100 ∧ L.flatten.length ≤ 100 := fun at_ seed ha => by
    obtain ⟨n, a, s, e, hn0, hn1, ha0, ha1⟩ := pick_ok hc at_ seed 6 (by omega) (by decide)
    have hn := hn1 (by decide)
    obtain ⟨q, hq, hql, hq0, hq1⟩ := out_ok hc a s n.toNat (by omega) (by omega)
    rw [show ((n.toNat : Nat) : Int) = n by omega] at hq
    obtain ⟨L, hL, h1, h2⟩ := rows_l0 hc q.1 (by omega) q.1.length 0 [] [] q.2.1 q.2.2 (by omega) (by simp) (by simp) (by omega)
    refine ⟨L, Ev.step (f := ?f1) (fun k => ?h1) ?g1, by omega, by omega⟩
    case h1 => rw [spec_DrawFromUnitBlocks.j0, if_neg (by decide)]
    exact Ev.bindc e (Ev.bind hq hL)
  cases hb : (ub r.1).2 with
  | false =>
    obtain ⟨L, hL, h1⟩ := hno r.2.1 r.2.2 (by omega)
    refine ⟨L, ?_, h1⟩
    unfold spec_DrawFromUnitBlocks.f
    exact Ev.bind hr (Ev.bind hu.1 (Ev.neg (by rw [hb]; decide) hL))
  | true =>
    obtain ⟨b, a, s, e, ha0, ha1⟩ := one_ok hc r.2.1 r.2.2 4 (by omega) (by decide)
    cases b with
    | true =>
      obtain ⟨L, hL, h1⟩ := hno a s (by omega)
      refine ⟨L, ?_, h1⟩
      unfold spec_DrawFromUnitBlocks.f
      exact Ev.bind hr (Ev.bind hu.1 (Ev.pos hb (Ev.bindc e hL)))
    | false =>
      refine ⟨(ub r.1).1, ?_, by omega, by omega⟩
      unfold spec_DrawFromUnitBlocks.f
      refine Ev.bind hr (Ev.bind hu.1 (Ev.pos hb (Ev.bindc e (Ev.step (f := fun _ => some (ub r.1).1) (fun k => ?_) (Ev.now _)))))
      rw [spec_DrawFromUnitBlocks.j0]
      exact if_pos rfl
theorem draw_is {code : List Int} (hc : Bytes code) : ∃ r : List Int × Int, Ev (fun k => spec_DrawIsUnit.f k code) r := by
  obtain ⟨r, hr, hrl, hr0, hr1⟩ := park_ok hc 7 (by decide)
  obtain ⟨z, a, s, e, _, _, _⟩ := among_ok hc r.2.1 r.2.2 [0, 1, 1, 2, 3, 8, 9, (-1)] (by simp) (by simp) (by omega)
  refine ⟨(r.1, z), ?_⟩
  unfold spec_DrawIsUnit.f
  exact Ev.bind hr (Ev.bindc e (Ev.now _))
theorem draw_count {code : List Int} (hc : Bytes code) : ∃ n m : Int, spec_DrawCountUnit.f code = some (n, m) := by
  obtain ⟨z, a, s, e, _, ha0, ha1⟩ := among_ok hc 0 0 [0, 1, 2, 3, 4, 4, 5, 6, (-1)] (by simp) (by simp) (by decide)
  obtain ⟨z2, a2, s2, e2, _, _, _⟩ := among_ok hc a s [0, 1, 1, 2, 3, 8, 9, (-1)] (by simp) (by simp) (by omega)
  refine ⟨z, z2, ?_⟩
  unfold spec_DrawCountUnit.f
  rw [e, Option.bind_some]
  dsimp only
  rw [e2, Option.bind_some]
/-! ### The law's own functions -/
theorem jSame_l0 (l : List Int) (hs : l.length ≤ 1000000) : ∀ (d n : Nat), n + d = l.length → Ev (fun k => laws_jSame.l0 k l l (l.length : Int) (n : Int)) true := by
  intro d
  induction d with
  | zero =>
    intro n hn
    refine Ev.step (f := fun _ => some true) (fun k => ?_) (Ev.now _)
    rw [laws_jSame.l0, if_neg (by omega)]
  | succ d ih =>
    intro n hn
    refine Ev.step (fun k => ?_) (ih (n + 1) (by omega))
    rw [laws_jSame.l0, if_pos (by omega), if_pos (by omega), if_pos (by omega), if_pos (by omega), if_pos rfl, wrap_succ n (by omega)]
theorem jSame_ev (l : List Int) (hs : l.length ≤ 1000000) : Ev (fun k => laws_jSame.f k l l) true := by
  unfold laws_jSame.f
  exact Ev.pos rfl (jSame_l0 l hs l.length 0 (by omega))
theorem jRows_l0 (L : List (List Int)) (hs : L.length ≤ 1000000) (hr : ∀ x ∈ L, x.length ≤ 1000000) : ∀ (d n : Nat), n + d = L.length → Ev (fun k => laws_jRows.l0 k L L (L.length : Int) (n : Int)) true := by
  intro d
  induction d with
  | zero =>
    intro n hn
    refine Ev.step (f := fun _ => some true) (fun k => ?_) (Ev.now _)
    rw [laws_jRows.l0, if_neg (by omega)]
  | succ d ih =>
    intro n hn
    have hlt : n < L.length := by omega
    refine Ev.step (f := ?f1) (fun k => ?h1) ?g1
    case h1 => rw [laws_jRows.l0, if_pos (by omega), if_pos (by omega), if_pos (by omega), if_pos (by omega), rdL_nat L n hlt, wrap_succ n (by omega)]
    exact Ev.bind (jSame_ev _ (hr _ (List.getElem_mem hlt))) (Ev.pos rfl (ih (n + 1) (by omega)))
theorem jRows_ev (L : List (List Int)) (hs : L.length ≤ 1000000) (hr : ∀ x ∈ L, x.length ≤ 1000000) : Ev (fun k => laws_jRows.f k L L) true := by
  unfold laws_jRows.f
  exact Ev.pos rfl (jRows_l0 L hs hr L.length 0 (by omega))
/-! ### How many -/
theorem unit_more {l : List Int} {m : Int} (h : unit l m = true) : unit l (m + 1) = true := by
  unfold unit at h ⊢
  rw [List.all_eq_true] at h ⊢
  intro x hx
  have := of_decide_eq_true (h x hx)
  exact decide_eq_true (by omega)
theorem uc_more (m : Int) : ∀ L : List (List Int), CountUnit.uc m L ≤ CountUnit.uc (m + 1) L
  | [] => by simp [CountUnit.uc]
  | q :: qs => by
    have ih := uc_more m qs
    rw [CountUnit.uc, CountUnit.uc]
    by_cases h : unit q m = true
    · rw [if_pos h, if_pos (unit_more h)]; omega
    · rw [if_neg h]
      split <;> omega
theorem uc_all (m : Int) : ∀ L : List (List Int), (∀ q ∈ L, unit q m = true) → CountUnit.uc m L = (L.length : Int)
  | [], _ => rfl
  | q :: qs, h => by
    rw [CountUnit.uc, if_pos (h q List.mem_cons_self), uc_all m qs (fun x hx => h x (List.mem_cons_of_mem _ hx)), List.length_cons]
    omega
theorem unit_all {l : List Int} (hp : parking l = true) (m : Int) (hm : (l.length : Int) - 1 ≤ m) : unit l m = true := by
  have h8 := parking_cars hp
  unfold unit
  rw [List.all_eq_true]
  intro x hx
  have h0 := dists_nonneg hp x hx
  unfold dists dst at hx
  obtain ⟨i, hi, rfl⟩ := List.mem_map.1 hx
  have hi := List.mem_range.1 hi
  have hs : i < (sdrive (l.length : Int) [] l).length := by rw [s_len]; exact hi
  have hm2 := met0 (parking_all hp) i hi
  unfold Meets at hm2
  have hl0 := parking_in hp l[i] (List.getElem_mem hi)
  rw [rd_nat _ i hs] at hm2
  rw [rd_nat _ i hs, rd_nat l i hi, wrap64_in _ (by omega) (by omega)] at h0 ⊢
  exact decide_eq_true (by omega)
theorem enum_len (n : Nat) : ∀ d p q, p.length + d = n → q ∈ enum n d p → q.length = n := by
  intro d
  induction d with
  | zero =>
    intro p q hp h
    rw [enum] at h
    split at h
    · rw [List.mem_singleton] at h
      rw [h]
      omega
    · cases h
  | succ d ih =>
    intro p q hp h
    rw [enum] at h
    obtain ⟨k, _, _, h3⟩ := catF_mem _ q n 0 h
    exact ih _ q (by simp; omega) h3
theorem isCars_eq (n : Int) : impl_isCars.f n = some (decide (0 ≤ n ∧ n ≤ 8)) := by
  unfold impl_isCars.f
  rw [between_eq]
  rfl
theorem j4_ok (n m : Int) (b : Bool) (hb : b = true → (0 ≤ n ∧ n ≤ 5) ∧ 0 ≤ m ∧ m < 8) : Ev (fun k => laws_FnUnitParking.j4 k n m (CountUnit.res n m).1 b) true := by
  cases b with
  | false =>
    refine Ev.step (f := fun _ => some true) (fun k => ?_) (Ev.now _)
    rw [laws_FnUnitParking.j4, if_neg (by decide)]
  | true =>
    have h := hb rfl
    obtain ⟨N, rfl⟩ := Int.eq_ofNat_of_zero_le h.1.1
    have e1 : CountUnit.res (N : Int) m = (CountUnit.uc m (enum N N []), true) := by
      unfold CountUnit.res
      rw [if_pos ⟨h.1, by omega⟩, Int.toNat_natCast]
    have e2 : CountUnit.res (N : Int) (m + 1) = (CountUnit.uc (m + 1) (enum N N []), true) := by
      unfold CountUnit.res
      rw [if_pos ⟨h.1, by omega⟩, Int.toNat_natCast]
    have hin := CountUnit.uc_in (m + 1) (enum N N [])
    have hcp : Ev (fun k => impl_CountParking.f k (N : Int)) (((enum N N []).length : Int), true) := by
      unfold impl_CountParking.f
      refine Ev.bindc (isCars_eq _) ?_
      rw [decide_eq_true (by omega)]
      exact Ev.pos rfl (Ev.bind (CountUnit.count_ev N (by omega)) (Ev.now _))
    refine Ev.step (f := ?f1) (fun k => ?h1) ?g1
    case h1 => rw [laws_FnUnitParking.j4, if_pos rfl, wrap64_in (m + 1) (by omega) (by omega), wrap64_in ((N : Int) - 1) (by omega) (by omega)]
    have hi := CountUnit.impl_ev (N : Int) (m + 1)
    rw [e2] at hi
    rw [e1]
    refine Ev.bind hi (Ev.bind hcp (Ev.pos rfl (Ev.pos rfl (Ev.pos (uc_more m _) (Ev.pos hin.2 ?_)))))
    by_cases hm : m < (N : Int) - 1
    · exact Ev.pos hm (Ev.now _)
    · refine Ev.neg hm (Ev.const ?_)
      have := uc_all m (enum N N []) (fun q hq => unit_all (enum_mem N N [] q hq) m (by rw [enum_len N N [] q (by simp) hq]; omega))
      dsimp only
      rw [this]
      simp
theorem j3_ok {l1 : List Int} (hc : Bytes l1) : Ev (fun k => laws_FnUnitParking.j3 k l1) true := by
  obtain ⟨L, hL, hL1, hL2⟩ := draw_from hc
  obtain ⟨r, hr⟩ := draw_is hc
  obtain ⟨n, m, hnm⟩ := draw_count hc
  have hlen : (res L).1.length ≤ 1000000 := by
    unfold res
    split
    · unfold outOf; rw [fillL_length, List.length_replicate]; omega
    · simp
  refine Ev.step (f := ?f1) (fun k => ?h1) ?g1
  case h1 => rw [laws_FnUnitParking.j3]
  refine Ev.bind hL (Ev.bind (impl_ev L (by omega) (by omega)) (Ev.bind (spec_ev L (by omega) (by omega)) (Ev.neg (by rw [bne_self_eq_false]; decide) (Ev.bind (jSame_ev _ hlen) (Ev.pos rfl (Ev.bind hr (Ev.bind (IsUnit.impl_ev r.1 r.2) (Ev.bind (IsUnit.spec_ev r.1 r.2) (Ev.neg (by rw [bne_self_eq_false]; decide) (Ev.neg (by rw [bne_self_eq_false]; decide) (Ev.bindc hnm (Ev.bind (CountUnit.impl_ev n m) (Ev.bind (CountUnit.spec_ev n m) (Ev.neg (by rw [bne_self_eq_false]; decide) (Ev.pos rfl ?_)))))))))))))))
  cases hb : (CountUnit.res n m).2 with
  | false => exact Ev.neg (by decide) (j4_ok n m false (by simp))
  | true =>
    refine Ev.pos rfl (j4_ok n m _ (fun h => ?_))
    have h8 := of_decide_eq_true h
    unfold CountUnit.res at hb
    split at hb
    · rename_i h2
      exact ⟨h2.1, by omega, h8⟩
    · simp at hb
theorem up_l1 {l1 : List Int} (L : List (List Int)) (i : Nat) (b : List Int) (hb : b.length ≤ 1000) (hi : i < 1000000) (hu : b.Pairwise (· < ·)) (r : Bool) (h : Ev (fun k => laws_FnUnitParking.l0 k l1 L (L.length : Int) ((i + 1 : Nat) : Int)) r) : ∀ (d j : Nat), j + d = b.length + 1 → 1 ≤ j → Ev (fun k => laws_FnUnitParking.l1 k l1 b (j : Int) L (L.length : Int) (i : Int)) r := by
  intro d
  induction d with
  | zero =>
    intro j hj h1
    refine Ev.step (fun k => ?_) h
    rw [laws_FnUnitParking.l1, if_neg (by omega), wrap_succ i (by omega)]
  | succ d ih =>
    intro j hj h1
    by_cases hlt : j < b.length
    · refine Ev.step (fun k => ?_) (ih (j + 1) (by omega) (by omega))
      have h2 := List.pairwise_iff_getElem.1 hu (j - 1) j (by omega) hlt (by omega)
      rw [laws_FnUnitParking.l1, if_pos (by omega), if_pos (by omega), wrap64_in ((j : Int) - 1) (by omega) (by omega), if_pos (by omega), if_pos (by omega), show (j : Int) - 1 = ((j - 1 : Nat) : Int) by omega, rd_nat b j hlt, rd_nat b (j - 1) (by omega), if_neg (by omega), wrap_succ j (by omega)]
    · refine Ev.step (fun k => ?_) h
      rw [laws_FnUnitParking.l1, if_neg (by omega), wrap_succ i (by omega)]
theorem up_l0 {l1 : List Int} (L : List (List Int)) (hL : L.length ≤ 1000) (hr : ∀ b ∈ L, b.length ≤ 1000) (hu : ∀ b ∈ L, b.Pairwise (· < ·)) (r : Bool) (h : Ev (fun k => laws_FnUnitParking.j3 k l1) r) : ∀ (d i : Nat), i + d = L.length → Ev (fun k => laws_FnUnitParking.l0 k l1 L (L.length : Int) (i : Int)) r := by
  intro d
  induction d with
  | zero =>
    intro i hi
    refine Ev.step (fun k => ?_) h
    rw [laws_FnUnitParking.l0, if_neg (by omega)]
  | succ d ih =>
    intro i hi
    have hlt : i < L.length := by omega
    refine Ev.step (f := ?f1) (fun k => ?h1) ?g1
    case h1 => rw [laws_FnUnitParking.l0, if_pos (by omega), if_pos (by omega), if_pos (by omega), rdL_nat L i hlt]
    exact up_l1 L i L[i] (hr _ (List.getElem_mem hlt)) (by omega) (hu _ (List.getElem_mem hlt)) r (ih (i + 1) (by omega)) L[i].length 1 (by omega) (by omega)
end UnitP
open UnitP FromUnit in
theorem FnUnitParking : laws_FnUnitParking.Pure := by
  intro l0 l1 _ _ hw0 _ _ hw1
  refine Ev.rounds ?_
  have hb0 := bytes_of hw0
  have hb1 := bytes_of hw1
  unfold laws_FnUnitParking.f laws_big.f
  by_cases hb : (l0.length : Int) > 1048576
  · rw [if_pos hb]
    exact Ev.bindc rfl (Ev.pos rfl (Ev.now _))
  rw [if_neg hb]
  refine Ev.bindc rfl ?_
  by_cases hb2 : decide ((l1.length : Int) > wrap64 (1048576 - (l0.length : Int))) = true
  · exact Ev.pos hb2 (Ev.now _)
  refine Ev.neg hb2 ?_
  obtain ⟨q, hq, hql, _⟩ := unit_ok hb0
  obtain ⟨l, hl⟩ : ∃ l, l = q.1 := ⟨_, rfl⟩
  have hll : l.length ≤ 20 := by rw [hl]; exact hql
  have hd : Ev (fun k => spec_DrawUnitBlocks.f k l0) l := by
    unfold spec_DrawUnitBlocks.f
    refine Ev.bind hq ?_
    rw [← hl]
    exact Ev.now _
  have hu := ub_ev l
  have hrows := ub_rows l
  refine Ev.bind hd (Ev.bind hu.2 (Ev.bind hu.1 (Ev.neg (by rw [bne_self_eq_false]; decide) (Ev.bind (jRows_ev _ (by omega) (fun x hx => by have := hrows.2.1 x hx; omega)) (Ev.pos rfl (Ev.bind (IsUnit.impl_ev l 1) ?_))))))
  by_cases hk : parking l = true ∧ unit l 1 = true
  · have e1 : IsUnit.res l 1 = (true, true) := by unfold IsUnit.res; rw [if_pos ⟨hk.1, by decide, by decide⟩, hk.2]
    have e2 : (ub l).2 = true := by unfold ub; rw [if_pos hk]
    have hbk := back hk.1 hk.2
    rw [e1, e2]
    refine Ev.pos rfl (Ev.step (f := ?f1) (fun k => ?h1) ?g1)
    case h1 => rw [laws_FnUnitParking.j0, if_neg (by decide), if_pos rfl]
    have hfs := flat_small (ub l).1 8 hrows.2.1
    have hi := impl_ev (ub l).1 (by omega) (by omega)
    rw [hbk.1] at hi
    refine Ev.bind hi (Ev.pos rfl (Ev.bind (jSame_ev l (by omega)) (Ev.pos rfl ?_)))
    exact up_l0 (ub l).1 (by omega) (fun b hb => by have := hrows.2.1 b hb; omega) hbk.2 true (j3_ok hb1) (ub l).1.length 0 (by omega)
  · have e2 : (ub l).2 = false := by unfold ub; rw [if_neg hk]
    have hj : Ev (fun k => laws_FnUnitParking.j0 k l1 l (ub l).1 false false) true := by
      refine Ev.step (f := fun k => laws_FnUnitParking.j3 k l1) (fun k => ?_) (j3_ok hb1)
      rw [laws_FnUnitParking.j0, if_neg (by decide), if_neg (by decide)]
    rw [e2]
    by_cases hp : parking l = true
    · have hun : unit l 1 = false := by
        cases h : unit l 1 with
        | false => rfl
        | true => exact absurd ⟨hp, h⟩ hk
      have e1 : IsUnit.res l 1 = (false, true) := by unfold IsUnit.res; rw [if_pos ⟨hp, by decide, by decide⟩, hun]
      rw [e1]
      exact Ev.pos rfl hj
    · have e1 : IsUnit.res l 1 = (false, false) := by unfold IsUnit.res; rw [if_neg (fun h => hp h.1)]
      rw [e1]
      exact Ev.neg (by decide) hj
end Go.Proofs.YtleemfmhilhklaaGreat.Pure
