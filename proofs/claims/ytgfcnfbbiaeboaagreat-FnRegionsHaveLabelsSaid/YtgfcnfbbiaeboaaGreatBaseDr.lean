/- What the reference's draws come to: each tells something, within bounds. Condition: the bytes are bytes, and few of them are read. -/
import Derived.Test.YtgfcnfbbiaeboaaGreatPAllx1
import Derived.Test.YtgfcnfbbiaeboaaGreatPAllx4
import Derived.Test.YtgfcnfbbiaeboaaGreatBaseA
import Derived.OpenShut
import Derived.Laws.Bits64b
import Derived.Test.YtgfcnfbbiaeboaaGreatPAllx5
import Derived.Test.YtgfcnfbbiaeboaaGreatBasePp
namespace Go.Proofs.YtgfcnfbbiaeboaaGreat.Plain
open Go.RowKit Go.Proofs.YtgfcnfbbiaeboaaGreatW.PrintWords Go.Proofs.YtgfcnfbbiaeboaaGreatW.PrintLast Go.Proofs.YtgfcnfbbiaeboaaGreat.Hand Go.Proofs.YtgfcnfbbiaeboaaGreat.PAll
set_option linter.unusedVariables false
def Bytes (l : List Int) : Prop := ∀ x ∈ l, 0 ≤ x ∧ x ≤ 255
theorem bytes_of {l : List Int} (h : ∀ x ∈ l, (Lit.int .u8 x).wf = true) : Bytes l := fun x hx => bounds_u8 (h x hx)
theorem rd_bytes {l : List Int} (h : Bytes l) (i : Int) : 0 ≤ rd l i ∧ rd l i ≤ 255 := by
  unfold rd
  by_cases hi : i.toNat < l.length
  · rw [List.getD_eq_getElem?_getD, List.getElem?_eq_getElem hi]
    exact h _ (List.getElem_mem hi)
  · rw [List.getD_eq_getElem?_getD, List.getElem?_eq_none (by omega)]
    exact ⟨Int.le_refl _, by decide⟩
theorem low_byte (n : Int) : 0 ≤ Go.bits .and .u64 (IntKind.u64.wrap n / 1099511627776) 255 ∧ Go.bits .and .u64 (IntKind.u64.wrap n / 1099511627776) 255 ≤ 255 := by
  have hw : IntKind.u64.wrap n = n % 18446744073709551616 := by simp [IntKind.wrap, IntKind.bits, IntKind.signed]
  obtain ⟨m, hm⟩ : ∃ m : Nat, IntKind.u64.wrap n / 1099511627776 = (m : Int) := ⟨(IntKind.u64.wrap n / 1099511627776).toNat, by rw [hw]; omega⟩
  have hb : m < 18446744073709551616 := by rw [hw] at hm; omega
  rw [hm]
  have e := bits_and_u64_nat m 255 hb (by decide)
  have e2 : Go.bits .and .u64 (m : Int) 255 = ((m &&& 255 : Nat) : Int) := e
  rw [e2]
  have := Nat.and_le_right (n := m) (m := 255)
  omega
/-- Where the reading stands. -/
abbrev At (at_ : Int) (n : Int) : Prop := 0 ≤ at_ ∧ at_ ≤ n
theorem next_ok {code : List Int} (hc : Bytes code) (at_ seed : Int) (ha : 0 ≤ at_ ∧ at_ ≤ 1000000) : ∃ b s, spec_l1Cur_next.f code at_ seed = some (b, at_ + 1, s) ∧ 0 ≤ b ∧ b ≤ 255 := by
  unfold spec_l1Cur_next.f
  rw [wrap64_in (at_ + 1) (by omega) (by omega)]
  have h1 := rd_bytes hc at_
  have h2 := wrap64_in (rd code at_) (by omega) (by omega)
  by_cases h : at_ < (code.length : Int)
  · rw [if_pos h, if_pos ha.1, if_pos (by omega)]
    exact ⟨_, _, rfl, by omega, by omega⟩
  · rw [if_neg h, if_neg (by omega)]
    have h3 := low_byte ((IntKind.u64.wrap (IntKind.u64.wrap (seed * 6364136223846793005))) + 1442695040888963407)
    have h4 := wrap64_in (Go.bits .and .u64 (IntKind.u64.wrap ((IntKind.u64.wrap (IntKind.u64.wrap (seed * 6364136223846793005))) + 1442695040888963407) / 1099511627776) 255) (by omega) (by omega)
    refine ⟨_, _, rfl, ?_, ?_⟩
    · rw [h4]; exact h3.1
    · rw [h4]; exact h3.2
theorem pick_ok {code : List Int} (hc : Bytes code) (at_ seed n : Int) (ha : 0 ≤ at_ ∧ at_ ≤ 900000) (hn : n ≤ 1000000) : ∃ x a s, spec_l1Cur_pick.f code at_ seed n = some (x, a, s) ∧ 0 ≤ x ∧ (1 ≤ n → x < n) ∧ at_ ≤ a ∧ a ≤ at_ + 2 := by
  unfold spec_l1Cur_pick.f
  by_cases h1 : n ≤ 1
  · rw [if_pos h1]
    exact ⟨0, at_, seed, rfl, Int.le_refl _, fun h => by omega, by omega, by omega⟩
  · rw [if_neg h1]
    obtain ⟨b, s, e, hb0, hb1⟩ := next_ok hc at_ seed (by omega)
    rw [e, Option.bind_some]
    dsimp only
    by_cases h2 : n > 200
    · obtain ⟨b2, s2, e2, hc0, hc1⟩ := next_ok hc (at_ + 1) s (by omega)
      rw [if_pos h2, e2, Option.bind_some]
      dsimp only
      rw [if_neg (by omega), wrap64_in (b * 256) (by omega) (by omega), wrap64_in (b * 256 + b2) (by omega) (by omega), Int.tmod_eq_emod_of_nonneg (by omega)]
      exact ⟨_, _, _, rfl, Int.emod_nonneg _ (by omega), fun _ => Int.emod_lt_of_pos _ (by omega), by omega, by omega⟩
    · rw [if_neg h2, if_neg (by omega), Int.tmod_eq_emod_of_nonneg (by omega)]
      exact ⟨_, _, _, rfl, Int.emod_nonneg _ (by omega), fun _ => Int.emod_lt_of_pos _ (by omega), by omega, by omega⟩
theorem among_ok {code : List Int} (hc : Bytes code) (at_ seed : Int) (l : List Int) (h0 : 0 < l.length) (hl : l.length ≤ 1000000) (ha : 0 ≤ at_ ∧ at_ ≤ 900000) : ∃ x a s, spec_l1Cur_among.f code at_ seed l = some (x, a, s) ∧ x ∈ l ∧ at_ ≤ a ∧ a ≤ at_ + 2 := by
  unfold spec_l1Cur_among.f
  obtain ⟨x, a, s, e, hx0, hx1, ha0, ha1⟩ := pick_ok hc at_ seed (l.length : Int) ha (by omega)
  have hx := hx1 (by omega)
  rw [e, Option.bind_some]
  dsimp only
  rw [if_pos hx0, if_pos hx]
  refine ⟨_, _, _, rfl, ?_, ha0, ha1⟩
  have hlt : x.toNat < l.length := by omega
  unfold rd
  rw [List.getD_eq_getElem?_getD, List.getElem?_eq_getElem hlt]
  exact List.getElem_mem hlt
theorem one_ok {code : List Int} (hc : Bytes code) (at_ seed n : Int) (ha : 0 ≤ at_ ∧ at_ ≤ 900000) (hn : n ≤ 1000000) : ∃ b a s, spec_l1Cur_one.f code at_ seed n = some (b, a, s) ∧ at_ ≤ a ∧ a ≤ at_ + 2 := by
  unfold spec_l1Cur_one.f
  obtain ⟨x, a, s, e, hx0, hx1, ha0, ha1⟩ := pick_ok hc at_ seed n ha hn
  rw [e, Option.bind_some]
  exact ⟨_, _, _, rfl, ha0, ha1⟩
theorem own_ok (l : List Int) (hs : l.length ≤ 1099511627776) : spec_l1Own.f l = some l := by
  unfold spec_l1Own.f
  rw [Option.bind_some, if_pos (by simp; omega), List.nil_append]
theorem park_l1 {code : List Int} (at_ seed : Int) : ∀ (d : Nat) (x : List Int), d = 9 - x.length → ∃ r, Ev (fun k => spec_l1Cur_park.l1 k x code at_ seed) (r, at_, seed) ∧ r.length ≤ x.length + d := by
  intro d
  induction d with
  | zero =>
    intro x hd
    refine ⟨x, Ev.step (f := fun _ => some (x, at_, seed)) (fun k => ?_) (Ev.now _), by omega⟩
    rw [spec_l1Cur_park.l1, if_neg (by omega)]
  | succ d ih =>
    intro x hd
    obtain ⟨r, h, hr⟩ := ih (x ++ [0]) (by simp; omega)
    rw [List.length_append, List.length_singleton] at hr
    refine ⟨r, Ev.step (fun k => ?_) h, by omega⟩
    rw [spec_l1Cur_park.l1, if_pos (by omega), if_pos (by omega)]
/-- The list of a draw: not long. -/
theorem park_l0 {code : List Int} (hc : Bytes code) : ∀ (d : Nat) (x : List Int) (at_ seed : Int), d ≤ 100 → x.length + d ≤ 500 → 0 ≤ at_ ∧ at_ ≤ 100000 + (100 - d) * 4 → ∃ r, Ev (fun k => spec_l1Cur_park.l0 k x (d : Int) code at_ seed) r ∧ r.1.length ≤ x.length + d + 9 ∧ 0 ≤ r.2.1 ∧ r.2.1 ≤ 200000 := by
  intro d
  induction d with
  | zero =>
    intro x at_ seed hd hx ha
    obtain ⟨p, a, s, e, hp0, hp1, ha0, ha1⟩ := pick_ok hc at_ seed 20 (by omega) (by decide)
    have hstep : ∀ k, spec_l1Cur_park.l0 (k + 1) x ((0 : Nat) : Int) code at_ seed = _ := fun k => by rw [spec_l1Cur_park.l0, if_neg (by decide), e, Option.bind_some]
    dsimp only at hstep
    by_cases h0 : p = 0
    · obtain ⟨y, a2, s2, e2, hy, hb0, hb1⟩ := among_ok hc a s [(-1), 0, (x.length : Int), wrap64 ((x.length : Int) + 1), 99, 100] (by simp) (by simp) (by omega)
      refine ⟨(x ++ [y], a2, s2), Ev.step (f := fun _ => some (x ++ [y], a2, s2)) (fun k => ?_) (Ev.now _), by dsimp only; simp, by dsimp only; omega, by dsimp only; omega⟩
      rw [hstep, if_pos h0, e2, Option.bind_some]
      dsimp only
      rw [if_pos (by omega)]
    · by_cases h1 : p = 1
      · by_cases h2 : (x.length : Int) > 0
        · obtain ⟨y, a2, s2, e2, hy0, hy1, hb0, hb1⟩ := pick_ok hc a s (x.length : Int) (by omega) (by omega)
          obtain ⟨z, a3, s3, e3, hz0, hz1, hc0, hc1⟩ := pick_ok hc a2 s2 (x.length : Int) (by omega) (by omega)
          have := hy1 (by omega)
          refine ⟨(x.set y.toNat z, a3, s3), Ev.step (f := fun _ => some (x.set y.toNat z, a3, s3)) (fun k => ?_) (Ev.now _), by dsimp only; simp, by dsimp only; omega, by dsimp only; omega⟩
          rw [hstep, if_neg h0, if_pos h1, if_pos h2, e2, Option.bind_some]
          dsimp only
          rw [e3, Option.bind_some, if_pos hy0, if_pos this]
        · refine ⟨(x, a, s), Ev.step (f := fun _ => some (x, a, s)) (fun k => ?_) (Ev.now _), by dsimp only; omega, by dsimp only; omega, by dsimp only; omega⟩
          rw [hstep, if_neg h0, if_pos h1, if_neg h2]
      · by_cases h2 : p = 2
        · obtain ⟨r, hr, hl⟩ := park_l1 (code := code) a s (9 - x.length) x rfl
          refine ⟨(r, a, s), Ev.step (fun k => ?_) hr, by dsimp only; omega, by dsimp only; omega, by dsimp only; omega⟩
          rw [hstep, if_neg h0, if_neg h1, if_pos h2]
        · refine ⟨(x, a, s), Ev.step (f := fun _ => some (x, a, s)) (fun k => ?_) (Ev.now _), by dsimp only; omega, by dsimp only; omega, by dsimp only; omega⟩
          rw [hstep, if_neg h0, if_neg h1, if_neg h2]
  | succ d ih =>
    intro x at_ seed hd hx ha
    obtain ⟨y, a, s, e, hy0, hy1, ha0, ha1⟩ := pick_ok hc at_ seed ((x.length : Int) + 1) (by omega) (by omega)
    obtain ⟨z, a2, s2, e2, hz0, hz1, hb0, hb1⟩ := pick_ok hc a s ((x.length : Int) + 1) (by omega) (by omega)
    have hz := hz1 (by omega)
    have hlen : (x.take z.toNat ++ [y] ++ x.drop z.toNat).length = x.length + 1 := by simp; omega
    obtain ⟨r, hr, hl, hr0, hr1⟩ := ih (x.take z.toNat ++ [y] ++ x.drop z.toNat) a2 s2 (by omega) (by omega) (by omega)
    rw [hlen] at hl
    refine ⟨r, Ev.step (fun k => ?_) hr, by omega, hr0, hr1⟩
    rw [spec_l1Cur_park.l0, if_pos (by omega), wrap64_in ((x.length : Int) + 1) (by omega) (by omega), e, Option.bind_some]
    dsimp only
    rw [e2, Option.bind_some]
    dsimp only
    rw [if_pos hz0, if_pos (by omega), own_ok _ (by simp; omega), Option.bind_some, if_pos (by simp; omega), Option.bind_some, Option.bind_some, if_pos (by simp; omega), wrap64_in _ (by omega) (by omega)]
    congr 1
    omega
theorem park_ok {code : List Int} (hc : Bytes code) (most : Nat) (hm : most ≤ 90) : ∃ r, Ev (fun k => spec_l1Cur_park.f k code 0 0 (most : Int)) r ∧ r.1.length ≤ most + 9 ∧ 0 ≤ r.2.1 ∧ r.2.1 ≤ 200000 := by
  obtain ⟨x, a, s, e, hx0, hx1, ha0, ha1⟩ := pick_ok hc 0 0 ((most : Int) + 1) (by decide) (by omega)
  have hx := hx1 (by omega)
  obtain ⟨r, hr, hl, h0, h1⟩ := park_l0 hc x.toNat [] a s (by omega) (by simp; omega) (by omega)
  refine ⟨r, ?_, by simp at hl; omega, h0, h1⟩
  unfold spec_l1Cur_park.f
  rw [wrap64_in ((most : Int) + 1) (by omega) (by omega), e]
  rw [show ((x.toNat : Nat) : Int) = x by omega] at hr
  exact hr
end Go.Proofs.YtgfcnfbbiaeboaaGreat.Plain
/- The draws of points: they end, with at most 20 numbers. Condition: bytes. -/
namespace Go.Proofs.YtgfcnfbbiaeboaaGreat.Plain
open Go.RowKit Go.Proofs.YtgfcnfbbiaeboaaGreatW.PrintWords Go.Proofs.YtgfcnfbbiaeboaaGreatW.PrintLast Go.Proofs.YtgfcnfbbiaeboaaGreat.Hand Go.Proofs.YtgfcnfbbiaeboaaGreat.PAll
set_option linter.unusedVariables false
theorem point_l1 {code : List Int} (hc : Bytes code) (B : Int) (hB : 0 ≤ B ∧ B ≤ 500000) : ∀ (d : Nat) (x : List Int) (at_ seed : Int), x.length + d = 12 → 0 ≤ at_ ∧ at_ ≤ B + (12 - (d : Int)) * 2 →
    ∃ r, Ev (fun k => spec_l1Cur_point.l1 k x code at_ seed) r ∧ r.1.length ≤ 20 ∧ 0 ≤ r.2.1 ∧ r.2.1 ≤ B + 100 := by
  intro d
  induction d with
  | zero =>
    intro x at_ seed hx ha
    obtain ⟨v, a2, s2, e, h0, h1, h2, h3⟩ := pick_ok hc at_ seed 2 (by omega) (by omega)
    have h4 := h1 (by omega)
    refine ⟨(x, a2, s2), ?_, by simp; omega, by dsimp only; omega, by dsimp only; omega⟩
    refine Ev.step (f := fun _ => some (x, a2, s2)) (fun k => ?_) (Ev.now _)
    rw [spec_l1Cur_point.l1, e, Option.bind_some]
    dsimp only
    rw [wrap64_in _ (by omega) (by omega), if_neg (by omega)]
  | succ d ih =>
    intro x at_ seed hx ha
    obtain ⟨v, a2, s2, e, h0, h1, h2, h3⟩ := pick_ok hc at_ seed 2 (by omega) (by omega)
    have h4 := h1 (by omega)
    by_cases c : (x.length : Int) < 8 + v
    · obtain ⟨r, hr, hl⟩ := ih (x ++ [wrap64 ((-37) * (x.length : Int))]) a2 s2 (by simp; omega) (by omega)
      refine ⟨r, ?_, hl⟩
      refine Ev.step (f := ?f1) (fun k => ?h1) ?g1
      case g1 => exact hr
      case h1 =>
        rw [spec_l1Cur_point.l1, e, Option.bind_some]
        dsimp only
        rw [wrap64_in (8 + v) (by omega) (by omega), if_pos c, if_pos (by omega)]
    · refine ⟨(x, a2, s2), ?_, by simp; omega, by dsimp only; omega, by dsimp only; omega⟩
      refine Ev.step (f := fun _ => some (x, a2, s2)) (fun k => ?_) (Ev.now _)
      rw [spec_l1Cur_point.l1, e, Option.bind_some]
      dsimp only
      rw [wrap64_in (8 + v) (by omega) (by omega), if_neg c]
theorem point_l0 {code : List Int} (hc : Bytes code) (B : Int) (hB : 0 ≤ B ∧ B ≤ 400000) (n : Nat) (hn : n ≤ 10) : ∀ (d : Nat) (x : List Int) (at_ seed : Int), x.length + d = n → 0 ≤ at_ ∧ at_ ≤ B + (10 - (d : Int)) * 10 →
    ∃ r, Ev (fun k => spec_l1Cur_point.l0 k (n : Int) x code at_ seed) r ∧ r.1.length ≤ 20 ∧ 0 ≤ r.2.1 ∧ r.2.1 ≤ B + 300 := by
  intro d
  induction d with
  | zero =>
    intro x at_ seed hx ha
    obtain ⟨v, a2, s2, e, h0, h1, h2, h3⟩ := pick_ok hc at_ seed 14 (by omega) (by omega)
    by_cases c0 : v = 0
    · obtain ⟨w, a3, s3, e3, hw, h6, h7⟩ := among_ok hc a2 s2 [(-100001), (-100000), 100000, 100001] (by decide) (by decide) (by omega)
      refine ⟨(x ++ [w], a3, s3), ?_, by simp; omega, by dsimp only; omega, by dsimp only; omega⟩
      refine Ev.step (f := fun _ => some (x ++ [w], a3, s3)) (fun k => ?_) (Ev.now _)
      rw [spec_l1Cur_point.l0, if_neg (by omega), e, Option.bind_some]
      dsimp only
      rw [if_pos c0, e3, Option.bind_some]
      dsimp only
      rw [if_pos (by omega)]
    · by_cases c1 : v = 1
      · by_cases c2 : (x.length : Int) > 1
        · obtain ⟨w, a3, s3, e3, hw, h6, h7⟩ := among_ok hc a2 s2 [0, 100, (-100)] (by decide) (by decide) (by omega)
          refine ⟨(x.set (0 : Int).toNat (wrap64 ((rd x 1) + w)), a3, s3), ?_, by simp; omega, by dsimp only; omega, by dsimp only; omega⟩
          refine Ev.step (f := fun _ => some (x.set (0 : Int).toNat (wrap64 ((rd x 1) + w)), a3, s3)) (fun k => ?_) (Ev.now _)
          rw [spec_l1Cur_point.l0, if_neg (by omega), e, Option.bind_some]
          dsimp only
          rw [if_neg c0, if_pos c1, if_pos c2, if_pos (by omega), e3, Option.bind_some]
          dsimp only
          rw [if_pos (by omega)]
        · refine ⟨(x, a2, s2), ?_, by simp; omega, by dsimp only; omega, by dsimp only; omega⟩
          refine Ev.step (f := fun _ => some (x, a2, s2)) (fun k => ?_) (Ev.now _)
          rw [spec_l1Cur_point.l0, if_neg (by omega), e, Option.bind_some]
          dsimp only
          rw [if_neg c0, if_pos c1, if_neg c2]
      · by_cases c2 : v = 2
        · obtain ⟨r, hr, hl, hr2⟩ := point_l1 hc (B + 110) (by omega) 12 [] a2 s2 (by simp) (by omega)
          refine ⟨r, ?_, hl, by omega, by omega⟩
          refine Ev.step (f := ?f1) (fun k => ?h1) ?g1
          case g1 => exact hr
          case h1 =>
            rw [spec_l1Cur_point.l0, if_neg (by omega), e, Option.bind_some]
            dsimp only
            rw [if_neg c0, if_neg c1, if_pos c2]
        · refine ⟨(x, a2, s2), ?_, by simp; omega, by dsimp only; omega, by dsimp only; omega⟩
          refine Ev.step (f := fun _ => some (x, a2, s2)) (fun k => ?_) (Ev.now _)
          rw [spec_l1Cur_point.l0, if_neg (by omega), e, Option.bind_some]
          dsimp only
          rw [if_neg c0, if_neg c1, if_neg c2]
  | succ d ih =>
    intro x at_ seed hx ha
    obtain ⟨v, a2, s2, e, h0, h1, h2, h3⟩ := pick_ok hc at_ seed 330 (by omega) (by omega)
    obtain ⟨b, a3, s3, e3, h4, h5⟩ := one_ok hc a2 s2 5 (by omega) (by omega)
    have plain : ∃ r, Ev (fun k => spec_l1Cur_point.j1 k (n : Int) x (wrap64 (v - 100)) false code a3 s3) r ∧ r.1.length ≤ 20 ∧ 0 ≤ r.2.1 ∧ r.2.1 ≤ B + 300 := by
      obtain ⟨r, hr, hl⟩ := ih (x ++ [wrap64 (v - 100)]) a3 s3 (by simp; omega) (by omega)
      refine ⟨r, ?_, hl⟩
      refine Ev.step (f := ?f2) (fun k => ?h2) ?g2
      case g2 => exact hr
      case h2 => rw [spec_l1Cur_point.j1, if_neg (by decide), if_pos (by omega)]
    have both : ∀ c : Bool, (c = true → 0 < x.length) → ∃ r, Ev (fun k => spec_l1Cur_point.j1 k (n : Int) x (wrap64 (v - 100)) c code a3 s3) r ∧ r.1.length ≤ 20 ∧ 0 ≤ r.2.1 ∧ r.2.1 ≤ B + 300 := by
      intro c hc0
      cases c with
      | false => exact plain
      | true =>
        have hp := hc0 rfl
        obtain ⟨i, a4, s4, e4, i0, i1, i2, i3⟩ := pick_ok hc a3 s3 (x.length : Int) (by omega) (by omega)
        have i4 := i1 (by omega)
        obtain ⟨w, a5, s5, e5, hw, h6, h7⟩ := among_ok hc a4 s4 [(-101), (-99), (-1), 1, 99, 101] (by decide) (by decide) (by omega)
        obtain ⟨r, hr, hl⟩ := ih (x ++ [wrap64 ((rd x i) + w)]) a5 s5 (by simp; omega) (by omega)
        refine ⟨r, ?_, hl⟩
        refine Ev.step (f := ?f3) (fun k => ?h3) ?g3
        case g3 => exact hr
        case h3 =>
          rw [spec_l1Cur_point.j1, if_pos rfl, e4, Option.bind_some]
          dsimp only
          rw [if_pos i0, if_pos i4, e5, Option.bind_some]
          dsimp only
          rw [if_pos (by omega)]
    cases b with
    | false =>
      obtain ⟨r, hr, hl⟩ := plain
      refine ⟨r, ?_, hl⟩
      refine Ev.step (f := ?f4) (fun k => ?h4) ?g4
      case g4 => exact hr
      case h4 =>
        rw [spec_l1Cur_point.l0, if_pos (by omega), e, Option.bind_some]
        dsimp only
        rw [e3, Option.bind_some]
        rfl
    | true =>
      obtain ⟨r, hr, hl⟩ := both (decide ((x.length : Int) > 0)) (fun h => by have := of_decide_eq_true h; omega)
      refine ⟨r, ?_, hl⟩
      refine Ev.step (f := ?f5) (fun k => ?h5) ?g5
      case g5 => exact hr
      case h5 =>
        rw [spec_l1Cur_point.l0, if_pos (by omega), e, Option.bind_some]
        dsimp only
        rw [e3, Option.bind_some]
        rfl
theorem point_ok {code : List Int} (hc : Bytes code) (at_ seed : Int) (ha : 0 ≤ at_ ∧ at_ ≤ 400000) (n : Int) (hn : 0 ≤ n ∧ n ≤ 10) : ∃ r, Ev (fun k => spec_l1Cur_point.f k code at_ seed n) r ∧ r.1.length ≤ 20 ∧ 0 ≤ r.2.1 ∧ r.2.1 ≤ at_ + 300 := by
  obtain ⟨m, rfl⟩ : ∃ m : Nat, n = (m : Int) := ⟨n.toNat, by omega⟩
  exact point_l0 hc at_ ha m (by omega) m [] at_ seed (by simp) (by omega)
end Go.Proofs.YtgfcnfbbiaeboaaGreat.Plain
/- The draws of regions: spec.reOf ends at any short list; what is drawn is short. Condition: bytes. -/
namespace Go.Proofs.YtgfcnfbbiaeboaaGreat.Plain
open Go.RowKit Go.Proofs.YtgfcnfbbiaeboaaGreatW.PrintWords Go.Proofs.YtgfcnfbbiaeboaaGreatW.PrintLast Go.Proofs.YtgfcnfbbiaeboaaGreat.Hand Go.Proofs.YtgfcnfbbiaeboaaGreat.PAll
set_option linter.unusedVariables false
theorem ownG (l : List Int) (h : l.length ≤ 1000) : spec_l1Own.f l = some l := by
  unfold spec_l1Own.f
  rw [Option.bind_some, if_pos (by simp; omega), List.nil_append]
structure OutA (out : List Int) (i : Nat) : Prop where
  len : out.length = i
  inr : ∀ v ∈ out, 0 ≤ v ∧ v < (i : Int)
theorem OutA.put {out : List Int} {i : Nat} (h : OutA out i) (k : Nat) (hk : k ≤ out.length) : OutA ((out.take k ++ [(i : Int)]) ++ out.drop k) (i + 1) := by
  have hl := h.len
  refine ⟨by simp; omega, fun v hv => ?_⟩
  rw [List.mem_append, List.mem_append, List.mem_singleton] at hv
  rcases hv with (hv | rfl) | hv
  · have := h.inr v (List.mem_of_mem_take hv); omega
  · omega
  · have := h.inr v (List.mem_of_mem_drop hv); omega
theorem sortedG_l1 (x : List Int) (h8 : x.length ≤ 100) (out : List Int) (i : Nat) (hi : i < x.length) (h : OutA out i)
    (H : ∀ out', OutA out' (i + 1) → ∃ o', OutA o' x.length ∧ Ev (fun k => spec_reSorted.l0 k x out' (x.length : Int) ((i + 1 : Nat) : Int)) o') : ∀ (d k : Nat), k + d = out.length →
    ∃ o', OutA o' x.length ∧ Ev (fun n => spec_reSorted.l1 n x out (i : Int) (k : Int) (x.length : Int) (i : Int)) o' := by
  have hl := h.len
  have fin : ∀ k : Nat, k ≤ out.length →
      ∃ o', OutA o' x.length ∧ Ev (fun n => (spec_l1Own.f (out.take (k : Int).toNat)).bind fun t263 => (if t263.length < 17592186044416 then ((some (t263 ++ [(i : Int)] : List Int)).bind fun y266 => ((some (out.drop (k : Int).toNat : List Int)).bind fun y269 => (if y266.length + y269.length < 17592186044416 then (spec_reSorted.l0 n x (y266 ++ y269) (x.length : Int) (wrap64 ((i : Int) + 1))) else (none)))) else (none))) o' := by
    intro k hk
    obtain ⟨o', ho, he⟩ := H _ (h.put k hk)
    refine ⟨o', ho, ?_⟩
    rw [Int.toNat_natCast, ownG _ (by rw [List.length_take]; omega), wrap_succ i (by omega)]
    exact Ev.bindc rfl (Ev.pos (by rw [List.length_take]; omega) (Ev.bindc rfl (Ev.bindc rfl (Ev.pos (by simp only [List.length_append, List.length_take, List.length_drop, List.length_singleton]; omega) he))))
  intro d
  induction d with
  | zero =>
    intro k hk
    obtain ⟨o', ho, he⟩ := fin k (by omega)
    refine ⟨o', ho, ?_⟩
    refine Ev.step (f := ?f1) (fun n => ?h1) ?g1
    case g1 => exact he
    case h1 => rw [spec_reSorted.l1, if_neg (by omega), if_pos (by omega), if_pos (by omega)]
  | succ d ih =>
    intro k hk
    have hlt : k < out.length := by omega
    have hv := h.inr (rd out (k : Int)) (by rw [rd_nat out k hlt]; exact List.getElem_mem _)
    by_cases hgt : rd x (rd out (k : Int)) > rd x (i : Int)
    · obtain ⟨o', ho, he⟩ := ih (k + 1) (by omega)
      refine ⟨o', ho, ?_⟩
      refine Ev.step (f := ?f2) (fun n => ?h2) ?g2
      case g2 => exact he
      case h2 => rw [spec_reSorted.l1, if_pos (by omega), if_pos (by omega), if_pos (by omega), if_pos (by omega), if_pos (by omega), if_pos (by omega), if_pos hgt, wrap_succ k (by omega)]
    · obtain ⟨o', ho, he⟩ := fin k (by omega)
      refine ⟨o', ho, ?_⟩
      refine Ev.step (f := ?f3) (fun n => ?h3) ?g3
      case g3 => exact he
      case h3 => rw [spec_reSorted.l1, if_pos (by omega), if_pos (by omega), if_pos (by omega), if_pos (by omega), if_pos (by omega), if_pos (by omega), if_neg hgt, if_pos (by omega)]
theorem sortedG_l0 (x : List Int) (h8 : x.length ≤ 100) : ∀ (d i : Nat), i + d = x.length → ∀ out, OutA out i → ∃ o', OutA o' x.length ∧ Ev (fun k => spec_reSorted.l0 k x out (x.length : Int) (i : Int)) o' := by
  intro d
  induction d with
  | zero =>
    intro i hi out h
    obtain rfl : i = x.length := by omega
    refine ⟨out, h, Ev.step (f := fun _ => some out) (fun k => ?_) (Ev.now _)⟩
    rw [spec_reSorted.l0, if_neg (by omega)]
  | succ d ih =>
    intro i hi out h
    obtain ⟨o', ho, he⟩ := sortedG_l1 x h8 out i (by omega) h (fun out' h' => ih (i + 1) (by omega) out' h') out.length 0 (by omega)
    refine ⟨o', ho, ?_⟩
    refine Ev.step (f := ?f1) (fun n => ?h1) ?g1
    case g1 => exact he
    case h1 =>
      rw [spec_reSorted.l0, if_pos (by omega)]
      rfl
theorem ofG_l1 (x o fl : List Int) (h8 : x.length ≤ 100) (ho : OutA o x.length) (p : Nat) (hp : p < x.length) (hfl : fl.length ≤ 100)
    (H : ∀ b : Int, ∃ f : List Int, f.length ≤ fl.length + 1 + (x.length - (p + 1)) ∧ Ev (fun k => spec_reOf.l0 k x b o (o.length : Int) ((p + 1 : Nat) : Int) o (fl ++ [b])) (o, f)) : ∀ (d q : Nat) (b : Int), q + d = p →
    ∃ f : List Int, f.length ≤ fl.length + 1 + (x.length - (p + 1)) ∧ Ev (fun k => spec_reOf.l1 k x b (rd o (p : Int)) o (o.length : Int) (p : Int) (o.take p) ((o.take p).length : Int) (q : Int) o fl) (o, f) := by
  have hol := ho.len
  have hlt : (o.take p).length = p := by rw [List.length_take]; omega
  have hat : ∀ q : Nat, q < x.length → 0 ≤ rd o (q : Int) ∧ rd o (q : Int) < (x.length : Int) := fun q hq => ho.inr _ (by rw [rd_nat o q (by omega)]; exact List.getElem_mem _)
  intro d
  induction d with
  | zero =>
    intro q b hq
    obtain rfl : q = p := by omega
    obtain ⟨f, hf, he⟩ := H b
    refine ⟨f, hf, ?_⟩
    refine Ev.step (f := ?f1) (fun n => ?h1) ?g1
    case g1 => exact he
    case h1 => rw [spec_reOf.l1, if_neg (by omega), if_pos (by omega), wrap_succ q (by omega)]
  | succ d ih =>
    intro q b hq
    have e : rd (o.take p) (q : Int) = rd o (q : Int) := rd_take o p q (by omega) (by omega)
    have ha1 := hat q (by omega)
    have ha2 := hat p hp
    by_cases c1 : rd o (q : Int) < rd o (p : Int)
    · by_cases c2 : wrap64 (rd x (rd o (q : Int)) - rd x (rd o (p : Int))) > 100
      · obtain ⟨b', hb'⟩ : ∃ b', spec_l1Most.f b ((q + 1 : Nat) : Int) = some b' := by
          unfold spec_l1Most.f
          by_cases hgt : b > ((q + 1 : Nat) : Int)
          · exact ⟨b, if_pos hgt⟩
          · exact ⟨_, if_neg hgt⟩
        obtain ⟨f, hf, he⟩ := ih (q + 1) b' (by omega)
        refine ⟨f, hf, ?_⟩
        refine Ev.step (f := ?f2) (fun n => ?h2) ?g2
        case g2 => exact he
        case h2 => rw [spec_reOf.l1, if_pos (by omega), if_pos (by omega), if_pos (by omega), e, if_pos c1, if_pos (by omega), if_pos (by omega), if_pos (by omega), if_pos (by omega), if_pos c2, wrap_succ q (by omega), hb', Option.bind_some]
      · obtain ⟨f, hf, he⟩ := ih (q + 1) b (by omega)
        refine ⟨f, hf, ?_⟩
        refine Ev.step (f := ?f3) (fun n => ?h3) ?g3
        case g3 => exact he
        case h3 => rw [spec_reOf.l1, if_pos (by omega), if_pos (by omega), if_pos (by omega), e, if_pos c1, if_pos (by omega), if_pos (by omega), if_pos (by omega), if_pos (by omega), if_neg c2, wrap_succ q (by omega)]
    · obtain ⟨f, hf, he⟩ := ih (q + 1) b (by omega)
      refine ⟨f, hf, ?_⟩
      refine Ev.step (f := ?f4) (fun n => ?h4) ?g4
      case g4 => exact he
      case h4 => rw [spec_reOf.l1, if_pos (by omega), if_pos (by omega), if_pos (by omega), e, if_neg c1, wrap_succ q (by omega)]
theorem ofG_l0 (x o : List Int) (h8 : x.length ≤ 50) (ho : OutA o x.length) : ∀ (d p : Nat) (a : Int) (fl : List Int), p + d = x.length → fl.length = p →
    ∃ f : List Int, f.length ≤ x.length ∧ Ev (fun k => spec_reOf.l0 k x a o (o.length : Int) (p : Int) o fl) (o, f) := by
  have hol := ho.len
  intro d
  induction d with
  | zero =>
    intro p a fl hp hf
    refine ⟨fl, by omega, Ev.step (f := fun _ => some (o, fl)) (fun k => ?_) (Ev.now _)⟩
    rw [spec_reOf.l0, if_neg (by omega)]
  | succ d ih =>
    intro p a fl hp hf
    obtain ⟨f, hf2, he⟩ := ofG_l1 x o fl (by omega) ho p (by omega) (by omega) (fun b => by
      obtain ⟨f, h1, h2⟩ := ih (p + 1) b (fl ++ [b]) (by omega) (by simp; omega)
      exact ⟨f, by omega, h2⟩) p 0 a (by omega)
    refine ⟨f, by omega, ?_⟩
    refine Ev.step (f := ?f1) (fun n => ?h1) ?g1
    case g1 => exact he
    case h1 =>
      rw [spec_reOf.l0, if_pos (by omega), if_pos (by omega), if_pos (by omega), if_pos (by omega), Option.bind_some, Int.toNat_natCast]
      rfl
theorem ofG (x : List Int) (h8 : x.length ≤ 50) : ∃ r : List Int × List Int, Ev (fun k => spec_reOf.f k x) r ∧ r.1.length ≤ 50 ∧ r.2.length ≤ 50 := by
  obtain ⟨o, ho, he⟩ := sortedG_l0 x (by omega) x.length 0 (by omega) [] ⟨rfl, fun v hv => by simp at hv⟩
  obtain ⟨f, hf, he2⟩ := ofG_l0 x o h8 ho x.length 0 0 [] (by omega) rfl
  have := ho.len
  unfold spec_reOf.f
  exact ⟨(o, f), Ev.bind he he2, by dsimp only; omega, by dsimp only; omega⟩
theorem region_ok {code : List Int} (hc : Bytes code) : ∃ r : List Int × List Int, Ev (fun k => spec_DrawPointOfRegion.f k code) r ∧ r.1.length ≤ 100 ∧ r.2.length ≤ 100 := by
  unfold spec_DrawPointOfRegion.f spec_l1Cur_region.f
  obtain ⟨n, a, s, e, h0, h1, h2, h3⟩ := pick_ok hc 0 0 8 (by omega) (by omega)
  have h4 := h1 (by omega)
  obtain ⟨⟨x, a1, s1⟩, hr, hl, h5, h6⟩ := point_ok hc a s (by omega) n (by omega)
  dsimp only at hl h5 h6
  obtain ⟨⟨o, f⟩, hq, hl1, hl2⟩ := ofG x (by omega)
  dsimp only at hl1 hl2
  obtain ⟨v, a2, s2, e2, g0, g1, g2, g3⟩ := pick_ok hc a1 s1 12 (by omega) (by omega)
  by_cases c0 : v = 0
  · by_cases c1 : (f.length : Int) > 0
    · obtain ⟨w, a3, s3, e3, i0, i1, i2, i3⟩ := pick_ok hc a2 s2 (f.length : Int) (by omega) (by omega)
      have i4 := i1 (by omega)
      obtain ⟨u, a4, s4, e4, j0, j1, j2, j3⟩ := pick_ok hc a3 s3 4 (by omega) (by omega)
      refine ⟨(o, f.set (w : Int).toNat (wrap64 (u - 1))), ?_, by dsimp only; omega, by dsimp only; rw [List.length_set]; omega⟩
      exact Ev.bind (a := (o, f.set (w : Int).toNat (wrap64 (u - 1)), a4, s4)) (Ev.bindc e (Ev.bind hr (Ev.bind hq (Ev.bindc e2 (Ev.pos c0 (Ev.pos c1 (Ev.bindc e3 (Ev.bindc e4 (Ev.pos i0 (Ev.pos i4 (Ev.now _))))))))))) (Ev.now _)
    · exact ⟨(o, f), Ev.bind (a := (o, f, a2, s2)) (Ev.bindc e (Ev.bind hr (Ev.bind hq (Ev.bindc e2 (Ev.pos c0 (Ev.neg c1 (Ev.now _))))))) (Ev.now _), by dsimp only; omega, by dsimp only; omega⟩
  · by_cases c1 : v = 1
    · refine ⟨(o ++ [(o.length : Int)], f), ?_, by simp; omega, by dsimp only; omega⟩
      exact Ev.bind (a := (o ++ [(o.length : Int)], f, a2, s2)) (Ev.bindc e (Ev.bind hr (Ev.bind hq (Ev.bindc e2 (Ev.neg c0 (Ev.pos c1 (Ev.pos (by dsimp only; omega) (Ev.now _)))))))) (Ev.now _)
    · exact ⟨(o, f), Ev.bind (a := (o, f, a2, s2)) (Ev.bindc e (Ev.bind hr (Ev.bind hq (Ev.bindc e2 (Ev.neg c0 (Ev.neg c1 (Ev.now _))))))) (Ev.now _), by dsimp only; omega, by dsimp only; omega⟩
end Go.Proofs.YtgfcnfbbiaeboaaGreat.Plain
