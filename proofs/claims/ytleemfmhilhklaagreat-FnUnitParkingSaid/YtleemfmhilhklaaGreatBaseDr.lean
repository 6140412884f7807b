/- What the reference's draws come to: each tells something, within bounds. Condition: the bytes are bytes, and few of them are read. -/
import Derived.Test.YtleemfmhilhklaaGreatPAllx1
import Derived.Test.YtleemfmhilhklaaGreatBaseA
import Derived.OpenShut
import Derived.Laws.Bits64b
namespace Go.Proofs.YtleemfmhilhklaaGreat.Plain
open Go.RowKit Go.Proofs.YtleemfmhilhklaaGreatW.PrintWords Go.Proofs.YtleemfmhilhklaaGreatW.PrintLast Go.Proofs.YtleemfmhilhklaaGreat.Hand Go.Proofs.YtleemfmhilhklaaGreat.PAll
set_option linter.unusedVariables false
def Bytes (l : List Int) : Prop := ∀ x ∈ l, 0 ≤ x ∧ x ≤ 255
theorem bytes_of {l : List Int} (h : ∀ x ∈ l, (Lit.int .u8 x).wf = true) : Bytes l := fun x hx => bounds_u8 (h x hx)
theorem rd_bytes {l : List Int} (h : Bytes l) (i : Int) : 0 ≤ rd l i ∧ rd l i ≤ 255 := by
  unfold rd
  by_cases hi : i.toNat < l.length
  · rw [List.getD_eq_getElem?_getD, List.getElem?_eq_getElem hi]
    exact h _ (List.getElem_mem hi)
  · rw [List.getD_eq_getElem?_getD, List.getElem?_eq_none (by omega)]
    exact ⟨Int.le_refl _, by decide⟩
theorem low_byte (n : Int) : 0 ≤ Go.bits .and .u64 (IntKind.u64.wrap n / 1099511627776) 255 ∧ Go.bits .and .u64 (IntKind.u64.wrap n / 1099511627776) 255 ≤ 255 := by
  have hw : IntKind.u64.wrap n = n % 18446744073709551616 := by simp [IntKind.wrap, IntKind.bits, IntKind.signed]
  obtain ⟨m, hm⟩ : ∃ m : Nat, IntKind.u64.wrap n / 1099511627776 = (m : Int) := ⟨(IntKind.u64.wrap n / 1099511627776).toNat, by rw [hw]; omega⟩
  have hb : m < 18446744073709551616 := by rw [hw] at hm; omega
  rw [hm]
  have e := bits_and_u64_nat m 255 hb (by decide)
  have e2 : Go.bits .and .u64 (m : Int) 255 = ((m &&& 255 : Nat) : Int) := e
  rw [e2]
  have := Nat.and_le_right (n := m) (m := 255)
  omega
/-- Where the reading stands. -/
abbrev At (at_ : Int) (n : Int) : Prop := 0 ≤ at_ ∧ at_ ≤ n
theorem next_ok {code : List Int} (hc : Bytes code) (at_ seed : Int) (ha : 0 ≤ at_ ∧ at_ ≤ 1000000) : ∃ b s, spec_l1Cur_next.f code at_ seed = some (b, at_ + 1, s) ∧ 0 ≤ b ∧ b ≤ 255 := by
  unfold spec_l1Cur_next.f
  rw [wrap64_in (at_ + 1) (by omega) (by omega)]
  have h1 := rd_bytes hc at_
  have h2 := wrap64_in (rd code at_) (by omega) (by omega)
  by_cases h : at_ < (code.length : Int)
  · rw [if_pos h, if_pos ha.1, if_pos (by omega)]
    exact ⟨_, _, rfl, by omega, by omega⟩
  · rw [if_neg h, if_neg (by omega)]
    have h3 := low_byte ((IntKind.u64.wrap (IntKind.u64.wrap (seed * 6364136223846793005))) + 1442695040888963407)
    have h4 := wrap64_in (Go.bits .and .u64 (IntKind.u64.wrap ((IntKind.u64.wrap (IntKind.u64.wrap (seed * 6364136223846793005))) + 1442695040888963407) / 1099511627776) 255) (by omega) (by omega)
    refine ⟨_, _, rfl, ?_, ?_⟩
    · rw [h4]; exact h3.1
    · rw [h4]; exact h3.2
theorem pick_ok {code : List Int} (hc : Bytes code) (at_ seed n : Int) (ha : 0 ≤ at_ ∧ at_ ≤ 900000) (hn : n ≤ 1000000) : ∃ x a s, spec_l1Cur_pick.f code at_ seed n = some (x, a, s) ∧ 0 ≤ x ∧ (1 ≤ n → x < n) ∧ at_ ≤ a ∧ a ≤ at_ + 2 := by
  unfold spec_l1Cur_pick.f
  by_cases h1 : n ≤ 1
  · rw [if_pos h1]
    exact ⟨0, at_, seed, rfl, Int.le_refl _, fun h => by omega, by omega, by omega⟩
  · rw [if_neg h1]
    obtain ⟨b, s, e, hb0, hb1⟩ := next_ok hc at_ seed (by omega)
    rw [e, Option.bind_some]
    dsimp only
    by_cases h2 : n > 200
    · obtain ⟨b2, s2, e2, hc0, hc1⟩ := next_ok hc (at_ + 1) s (by omega)
      rw [if_pos h2, e2, Option.bind_some]
      dsimp only
      rw [if_neg (by omega), wrap64_in (b * 256) (by omega) (by omega), wrap64_in (b * 256 + b2) (by omega) (by omega), Int.tmod_eq_emod_of_nonneg (by omega)]
      exact ⟨_, _, _, rfl, Int.emod_nonneg _ (by omega), fun _ => Int.emod_lt_of_pos _ (by omega), by omega, by omega⟩
    · rw [if_neg h2, if_neg (by omega), Int.tmod_eq_emod_of_nonneg (by omega)]
      exact ⟨_, _, _, rfl, Int.emod_nonneg _ (by omega), fun _ => Int.emod_lt_of_pos _ (by omega), by omega, by omega⟩
theorem among_ok {code : List Int} (hc : Bytes code) (at_ seed : Int) (l : List Int) (h0 : 0 < l.length) (hl : l.length ≤ 1000000) (ha : 0 ≤ at_ ∧ at_ ≤ 900000) : ∃ x a s, spec_l1Cur_among.f code at_ seed l = some (x, a, s) ∧ x ∈ l ∧ at_ ≤ a ∧ a ≤ at_ + 2 := by
  unfold spec_l1Cur_among.f
  obtain ⟨x, a, s, e, hx0, hx1, ha0, ha1⟩ := pick_ok hc at_ seed (l.length : Int) ha (by omega)
  have hx := hx1 (by omega)
  rw [e, Option.bind_some]
  dsimp only
  rw [if_pos hx0, if_pos hx]
  refine ⟨_, _, _, rfl, ?_, ha0, ha1⟩
  have hlt : x.toNat < l.length := by omega
  unfold rd
  rw [List.getD_eq_getElem?_getD, List.getElem?_eq_getElem hlt]
  exact List.getElem_mem hlt
theorem one_ok {code : List Int} (hc : Bytes code) (at_ seed n : Int) (ha : 0 ≤ at_ ∧ at_ ≤ 900000) (hn : n ≤ 1000000) : ∃ b a s, spec_l1Cur_one.f code at_ seed n = some (b, a, s) ∧ at_ ≤ a ∧ a ≤ at_ + 2 := by
  unfold spec_l1Cur_one.f
  obtain ⟨x, a, s, e, hx0, hx1, ha0, ha1⟩ := pick_ok hc at_ seed n ha hn
  rw [e, Option.bind_some]
  exact ⟨_, _, _, rfl, ha0, ha1⟩
theorem own_ok (l : List Int) (hs : l.length ≤ 1099511627776) : spec_l1Own.f l = some l := by
  unfold spec_l1Own.f
  rw [Option.bind_some, if_pos (by simp; omega), List.nil_append]
theorem park_l1 {code : List Int} (at_ seed : Int) : ∀ (d : Nat) (x : List Int), d = 9 - x.length → ∃ r, Ev (fun k => spec_l1Cur_park.l1 k x code at_ seed) (r, at_, seed) ∧ r.length ≤ x.length + d := by
  intro d
  induction d with
  | zero =>
    intro x hd
    refine ⟨x, Ev.step (f := fun _ => some (x, at_, seed)) (fun k => ?_) (Ev.now _), by omega⟩
    rw [spec_l1Cur_park.l1, if_neg (by omega)]
  | succ d ih =>
    intro x hd
    obtain ⟨r, h, hr⟩ := ih (x ++ [0]) (by simp; omega)
    rw [List.length_append, List.length_singleton] at hr
    refine ⟨r, Ev.step (fun k => ?_) h, by omega⟩
    rw [spec_l1Cur_park.l1, if_pos (by omega), if_pos (by omega)]
/-- The list of a draw: not long. -/
theorem park_l0 {code : List Int} (hc : Bytes code) : ∀ (d : Nat) (x : List Int) (at_ seed : Int), d ≤ 100 → x.length + d ≤ 500 → 0 ≤ at_ ∧ at_ ≤ 100000 + (100 - d) * 4 → ∃ r, Ev (fun k => spec_l1Cur_park.l0 k x (d : Int) code at_ seed) r ∧ r.1.length ≤ x.length + d + 9 ∧ 0 ≤ r.2.1 ∧ r.2.1 ≤ 200000 := by
  intro d
  induction d with
  | zero =>
    intro x at_ seed hd hx ha
    obtain ⟨p, a, s, e, hp0, hp1, ha0, ha1⟩ := pick_ok hc at_ seed 20 (by omega) (by decide)
    have hstep : ∀ k, spec_l1Cur_park.l0 (k + 1) x ((0 : Nat) : Int) code at_ seed = _ := fun k => by rw [spec_l1Cur_park.l0, if_neg (by decide), e, Option.bind_some]
    dsimp only at hstep
    by_cases h0 : p = 0
    · obtain ⟨y, a2, s2, e2, hy, hb0, hb1⟩ := among_ok hc a s [(-1), 0, (x.length : Int), wrap64 ((x.length : Int) + 1), 99, 100] (by simp) (by simp) (by omega)
      refine ⟨(x ++ [y], a2, s2), Ev.step (f := fun _ => some (x ++ [y], a2, s2)) (fun k => ?_) (Ev.now _), by dsimp only; simp, by dsimp only; omega, by dsimp only; omega⟩
      rw [hstep, if_pos h0, e2, Option.bind_some]
      dsimp only
      rw [if_pos (by omega)]
    · by_cases h1 : p = 1
      · by_cases h2 : (x.length : Int) > 0
        · obtain ⟨y, a2, s2, e2, hy0, hy1, hb0, hb1⟩ := pick_ok hc a s (x.length : Int) (by omega) (by omega)
          obtain ⟨z, a3, s3, e3, hz0, hz1, hc0, hc1⟩ := pick_ok hc a2 s2 (x.length : Int) (by omega) (by omega)
          have := hy1 (by omega)
          refine ⟨(x.set y.toNat z, a3, s3), Ev.step (f := fun _ => some (x.set y.toNat z, a3, s3)) (fun k => ?_) (Ev.now _), by dsimp only; simp, by dsimp only; omega, by dsimp only; omega⟩
          rw [hstep, if_neg h0, if_pos h1, if_pos h2, e2, Option.bind_some]
          dsimp only
          rw [e3, Option.bind_some, if_pos hy0, if_pos this]
        · refine ⟨(x, a, s), Ev.step (f := fun _ => some (x, a, s)) (fun k => ?_) (Ev.now _), by dsimp only; omega, by dsimp only; omega, by dsimp only; omega⟩
          rw [hstep, if_neg h0, if_pos h1, if_neg h2]
      · by_cases h2 : p = 2
        · obtain ⟨r, hr, hl⟩ := park_l1 (code := code) a s (9 - x.length) x rfl
          refine ⟨(r, a, s), Ev.step (fun k => ?_) hr, by dsimp only; omega, by dsimp only; omega, by dsimp only; omega⟩
          rw [hstep, if_neg h0, if_neg h1, if_pos h2]
        · refine ⟨(x, a, s), Ev.step (f := fun _ => some (x, a, s)) (fun k => ?_) (Ev.now _), by dsimp only; omega, by dsimp only; omega, by dsimp only; omega⟩
          rw [hstep, if_neg h0, if_neg h1, if_neg h2]
  | succ d ih =>
    intro x at_ seed hd hx ha
    obtain ⟨y, a, s, e, hy0, hy1, ha0, ha1⟩ := pick_ok hc at_ seed ((x.length : Int) + 1) (by omega) (by omega)
    obtain ⟨z, a2, s2, e2, hz0, hz1, hb0, hb1⟩ := pick_ok hc a s ((x.length : Int) + 1) (by omega) (by omega)
    have hz := hz1 (by omega)
    have hlen : (x.take z.toNat ++ [y] ++ x.drop z.toNat).length = x.length + 1 := by simp; omega
    obtain ⟨r, hr, hl, hr0, hr1⟩ := ih (x.take z.toNat ++ [y] ++ x.drop z.toNat) a2 s2 (by omega) (by omega) (by omega)
    rw [hlen] at hl
    refine ⟨r, Ev.step (fun k => ?_) hr, by omega, hr0, hr1⟩
    rw [spec_l1Cur_park.l0, if_pos (by omega), wrap64_in ((x.length : Int) + 1) (by omega) (by omega), e, Option.bind_some]
    dsimp only
    rw [e2, Option.bind_some]
    dsimp only
    rw [if_pos hz0, if_pos (by omega), own_ok _ (by simp; omega), Option.bind_some, if_pos (by simp; omega), Option.bind_some, Option.bind_some, if_pos (by simp; omega), wrap64_in _ (by omega) (by omega)]
    congr 1
    omega
theorem park_ok {code : List Int} (hc : Bytes code) (most : Nat) (hm : most ≤ 90) : ∃ r, Ev (fun k => spec_l1Cur_park.f k code 0 0 (most : Int)) r ∧ r.1.length ≤ most + 9 ∧ 0 ≤ r.2.1 ∧ r.2.1 ≤ 200000 := by
  obtain ⟨x, a, s, e, hx0, hx1, ha0, ha1⟩ := pick_ok hc 0 0 ((most : Int) + 1) (by decide) (by omega)
  have hx := hx1 (by omega)
  obtain ⟨r, hr, hl, h0, h1⟩ := park_l0 hc x.toNat [] a s (by omega) (by simp; omega) (by omega)
  refine ⟨r, ?_, by simp at hl; omega, h0, h1⟩
  unfold spec_l1Cur_park.f
  rw [wrap64_in ((most : Int) + 1) (by omega) (by omega), e]
  rw [show ((x.toNat : Nat) : Int) = x by omega] at hr
  exact hr
theorem park_at {code : List Int} (hc : Bytes code) (at_ seed : Int) (ha : 0 ≤ at_ ∧ at_ ≤ 50000) (most : Nat) (hm : most ≤ 90) : ∃ r, Ev (fun k => spec_l1Cur_park.f k code at_ seed (most : Int)) r ∧ r.1.length ≤ most + 9 ∧ 0 ≤ r.2.1 ∧ r.2.1 ≤ 200000 := by
  obtain ⟨x, a, s, e, hx0, hx1, ha0, ha1⟩ := pick_ok hc at_ seed ((most : Int) + 1) (by omega) (by omega)
  have hx := hx1 (by omega)
  obtain ⟨r, hr, hl, h0, h1⟩ := park_l0 hc x.toNat [] a s (by omega) (by simp; omega) (by omega)
  refine ⟨r, ?_, by simp at hl; omega, h0, h1⟩
  unfold spec_l1Cur_park.f
  rw [wrap64_in ((most : Int) + 1) (by omega) (by omega), e]
  rw [show ((x.toNat : Nat) : Int) = x by omega] at hr
  exact hr
end Go.Proofs.YtleemfmhilhklaaGreat.Plain
/- The reference's draw of an outcome: a list of a told length. Condition: the bytes are bytes, and few of them are read. -/
namespace Go.Proofs.YtleemfmhilhklaaGreat.Plain
open Go.RowKit Go.Proofs.YtleemfmhilhklaaGreatW.PrintWords Go.Proofs.YtleemfmhilhklaaGreatW.PrintLast Go.Proofs.YtleemfmhilhklaaGreat.Hand Go.Proofs.YtleemfmhilhklaaGreat.PAll
set_option linter.unusedVariables false
theorem out_j1 {code : List Int} (hc : Bytes code) (n : Int) (x : List Int) (hx : x.length ≤ 1000) (at_ seed : Int) (ha : 0 ≤ at_ ∧ at_ ≤ 800000) (b : Bool) (hb : b = true → 0 < x.length) : ∃ r, Ev (fun k => spec_l1Cur_outcome.j1 k n x b code at_ seed) r ∧ r.1.length = x.length ∧ at_ ≤ r.2.1 ∧ r.2.1 ≤ at_ + 4 := by
  cases b with
  | false =>
    refine ⟨(x, at_, seed), Ev.step (f := fun _ => some (x, at_, seed)) (fun k => ?_) (Ev.now _), rfl, by dsimp only; omega, by dsimp only; omega⟩
    rw [spec_l1Cur_outcome.j1, if_neg (by decide)]
  | true =>
    have h0 := hb rfl
    obtain ⟨y, a, s, e, hy0, hy1, ha0, ha1⟩ := pick_ok hc at_ seed (x.length : Int) (by omega) (by omega)
    have hy := hy1 (by omega)
    obtain ⟨z, a2, s2, e2, _, ha20, ha21⟩ := among_ok hc a s [(-1), 0, n] (by simp) (by simp) (by omega)
    refine ⟨(x.set y.toNat z, a2, s2), Ev.step (f := fun _ => some (x.set y.toNat z, a2, s2)) (fun k => ?_) (Ev.now _), by dsimp only; rw [List.length_set], by dsimp only; omega, by dsimp only; omega⟩
    rw [spec_l1Cur_outcome.j1, if_pos rfl, e, Option.bind_some]
    dsimp only
    rw [e2, Option.bind_some]
    dsimp only
    rw [if_pos hy0, if_pos hy]
theorem out_l0 {code : List Int} (hc : Bytes code) (n : Nat) (hn : n ≤ 200) : ∀ (d : Nat) (x : List Int) (at_ seed : Int), x.length + d = n → 0 ≤ at_ ∧ at_ ≤ 790000 - 2 * (d : Int) → ∃ r, Ev (fun k => spec_l1Cur_outcome.l0 k (n : Int) x (x.length : Int) code at_ seed) r ∧ r.1.length = n ∧ 0 ≤ r.2.1 ∧ r.2.1 ≤ at_ + 2 * (d : Int) + 6 := by
  intro d
  induction d with
  | zero =>
    intro x at_ seed hx ha
    by_cases h0 : (x.length : Int) > 0
    · obtain ⟨b, a, s, e, ha0, ha1⟩ := one_ok hc at_ seed 20 (by omega) (by decide)
      obtain ⟨r, hr, hl, hr0, hr1⟩ := out_j1 hc (n : Int) x (by omega) a s (by omega) b (fun _ => by omega)
      refine ⟨r, Ev.step (f := fun k => spec_l1Cur_outcome.j1 k (n : Int) x b code a s) (fun k => ?_) hr, by omega, by omega, by omega⟩
      rw [spec_l1Cur_outcome.l0, if_neg (by omega), if_pos h0, e, Option.bind_some]
    · obtain ⟨r, hr, hl, hr0, hr1⟩ := out_j1 hc (n : Int) x (by omega) at_ seed (by omega) false (by simp)
      refine ⟨r, Ev.step (f := fun k => spec_l1Cur_outcome.j1 k (n : Int) x false code at_ seed) (fun k => ?_) hr, by omega, by omega, by omega⟩
      rw [spec_l1Cur_outcome.l0, if_neg (by omega), if_neg h0]
  | succ d ih =>
    intro x at_ seed hx ha
    obtain ⟨z, a, s, e, hz0, hz1, ha0, ha1⟩ := pick_ok hc at_ seed ((x.length : Int) + 1) (by omega) (by omega)
    have hz := hz1 (by omega)
    have hlen : (x.take z.toNat ++ [(x.length : Int)] ++ x.drop z.toNat).length = x.length + 1 := by simp; omega
    obtain ⟨r, hr, hl, hr0, hr1⟩ := ih (x.take z.toNat ++ [(x.length : Int)] ++ x.drop z.toNat) a s (by omega) (by omega)
    rw [hlen] at hr
    refine ⟨r, Ev.step (fun k => ?_) hr, hl, hr0, by omega⟩
    rw [spec_l1Cur_outcome.l0, if_pos (by omega), wrap64_in ((x.length : Int) + 1) (by omega) (by omega), e, Option.bind_some]
    dsimp only
    rw [if_pos hz0, if_pos (by omega), own_ok _ (by simp; omega), Option.bind_some, if_pos (by simp; omega), Option.bind_some, Option.bind_some, if_pos (by simp; omega)]
    congr 1
theorem out_ok {code : List Int} (hc : Bytes code) (at_ seed : Int) (n : Nat) (hn : n ≤ 200) (ha : 0 ≤ at_ ∧ at_ ≤ 700000) : ∃ r, Ev (fun k => spec_l1Cur_outcome.f k code at_ seed (n : Int)) r ∧ r.1.length = n ∧ 0 ≤ r.2.1 ∧ r.2.1 ≤ at_ + 2 * (n : Int) + 6 := out_l0 hc n hn n [] at_ seed (by simp) (by omega)
end Go.Proofs.YtleemfmhilhklaaGreat.Plain
