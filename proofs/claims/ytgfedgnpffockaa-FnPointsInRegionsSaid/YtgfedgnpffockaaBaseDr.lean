/- What the reference's draws come to: each tells something, within bounds. Condition: the bytes are bytes, and few of them are read. -/
import Derived.Test.YtgfedgnpffockaaPAllx1
import Derived.Test.YtgfedgnpffockaaPAllx4
import Derived.Test.YtgfedgnpffockaaBaseA
import Derived.OpenShut
import Derived.Laws.Bits64b
namespace Go.Proofs.Ytgfedgnpffockaa.Plain
open Go.RowKit Go.Proofs.YtgfedgnpffockaaW.PrintWords Go.Proofs.YtgfedgnpffockaaW.PrintLast Go.Proofs.Ytgfedgnpffockaa.Hand Go.Proofs.Ytgfedgnpffockaa.PAll
set_option linter.unusedVariables false
def Bytes (l : List Int) : Prop := ∀ x ∈ l, 0 ≤ x ∧ x ≤ 255
theorem bytes_of {l : List Int} (h : ∀ x ∈ l, (Lit.int .u8 x).wf = true) : Bytes l := fun x hx => bounds_u8 (h x hx)
theorem rd_bytes {l : List Int} (h : Bytes l) (i : Int) : 0 ≤ rd l i ∧ rd l i ≤ 255 := by
  unfold rd
  by_cases hi : i.toNat < l.length
  · rw [List.getD_eq_getElem?_getD, List.getElem?_eq_getElem hi]
    exact h _ (List.getElem_mem hi)
  · rw [List.getD_eq_getElem?_getD, List.getElem?_eq_none (by omega)]
    exact ⟨Int.le_refl _, by decide⟩
theorem low_byte (n : Int) : 0 ≤ Go.bits .and .u64 (IntKind.u64.wrap n / 1099511627776) 255 ∧ Go.bits .and .u64 (IntKind.u64.wrap n / 1099511627776) 255 ≤ 255 := by
  have hw : IntKind.u64.wrap n = n % 18446744073709551616 := by simp [IntKind.wrap, IntKind.bits, IntKind.signed]
  obtain ⟨m, hm⟩ : ∃ m : Nat, IntKind.u64.wrap n / 1099511627776 = (m : Int) := ⟨(IntKind.u64.wrap n / 1099511627776).toNat, by rw [hw]; omega⟩
  have hb : m < 18446744073709551616 := by rw [hw] at hm; omega
  rw [hm]
  have e := bits_and_u64_nat m 255 hb (by decide)
  have e2 : Go.bits .and .u64 (m : Int) 255 = ((m &&& 255 : Nat) : Int) := e
  rw [e2]
  have := Nat.and_le_right (n := m) (m := 255)
  omega
/-- Where the reading stands. -/
abbrev At (at_ : Int) (n : Int) : Prop := 0 ≤ at_ ∧ at_ ≤ n
theorem next_ok {code : List Int} (hc : Bytes code) (at_ seed : Int) (ha : 0 ≤ at_ ∧ at_ ≤ 1000000) : ∃ b s, spec_l1Cur_next.f code at_ seed = some (b, at_ + 1, s) ∧ 0 ≤ b ∧ b ≤ 255 := by
  unfold spec_l1Cur_next.f
  rw [wrap64_in (at_ + 1) (by omega) (by omega)]
  have h1 := rd_bytes hc at_
  have h2 := wrap64_in (rd code at_) (by omega) (by omega)
  by_cases h : at_ < (code.length : Int)
  · rw [if_pos h, if_pos ha.1, if_pos (by omega)]
    exact ⟨_, _, rfl, by omega, by omega⟩
  · rw [if_neg h, if_neg (by omega)]
    have h3 := low_byte ((IntKind.u64.wrap (IntKind.u64.wrap (seed * 6364136223846793005))) + 1442695040888963407)
    have h4 := wrap64_in (Go.bits .and .u64 (IntKind.u64.wrap ((IntKind.u64.wrap (IntKind.u64.wrap (seed * 6364136223846793005))) + 1442695040888963407) / 1099511627776) 255) (by omega) (by omega)
    refine ⟨_, _, rfl, ?_, ?_⟩
    · rw [h4]; exact h3.1
    · rw [h4]; exact h3.2
theorem pick_ok {code : List Int} (hc : Bytes code) (at_ seed n : Int) (ha : 0 ≤ at_ ∧ at_ ≤ 900000) (hn : n ≤ 1000000) : ∃ x a s, spec_l1Cur_pick.f code at_ seed n = some (x, a, s) ∧ 0 ≤ x ∧ (1 ≤ n → x < n) ∧ at_ ≤ a ∧ a ≤ at_ + 2 := by
  unfold spec_l1Cur_pick.f
  by_cases h1 : n ≤ 1
  · rw [if_pos h1]
    exact ⟨0, at_, seed, rfl, Int.le_refl _, fun h => by omega, by omega, by omega⟩
  · rw [if_neg h1]
    obtain ⟨b, s, e, hb0, hb1⟩ := next_ok hc at_ seed (by omega)
    rw [e, Option.bind_some]
    dsimp only
    by_cases h2 : n > 200
    · obtain ⟨b2, s2, e2, hc0, hc1⟩ := next_ok hc (at_ + 1) s (by omega)
      rw [if_pos h2, e2, Option.bind_some]
      dsimp only
      rw [if_neg (by omega), wrap64_in (b * 256) (by omega) (by omega), wrap64_in (b * 256 + b2) (by omega) (by omega), Int.tmod_eq_emod_of_nonneg (by omega)]
      exact ⟨_, _, _, rfl, Int.emod_nonneg _ (by omega), fun _ => Int.emod_lt_of_pos _ (by omega), by omega, by omega⟩
    · rw [if_neg h2, if_neg (by omega), Int.tmod_eq_emod_of_nonneg (by omega)]
      exact ⟨_, _, _, rfl, Int.emod_nonneg _ (by omega), fun _ => Int.emod_lt_of_pos _ (by omega), by omega, by omega⟩
theorem among_ok {code : List Int} (hc : Bytes code) (at_ seed : Int) (l : List Int) (h0 : 0 < l.length) (hl : l.length ≤ 1000000) (ha : 0 ≤ at_ ∧ at_ ≤ 900000) : ∃ x a s, spec_l1Cur_among.f code at_ seed l = some (x, a, s) ∧ x ∈ l ∧ at_ ≤ a ∧ a ≤ at_ + 2 := by
  unfold spec_l1Cur_among.f
  obtain ⟨x, a, s, e, hx0, hx1, ha0, ha1⟩ := pick_ok hc at_ seed (l.length : Int) ha (by omega)
  have hx := hx1 (by omega)
  rw [e, Option.bind_some]
  dsimp only
  rw [if_pos hx0, if_pos hx]
  refine ⟨_, _, _, rfl, ?_, ha0, ha1⟩
  have hlt : x.toNat < l.length := by omega
  unfold rd
  rw [List.getD_eq_getElem?_getD, List.getElem?_eq_getElem hlt]
  exact List.getElem_mem hlt
theorem one_ok {code : List Int} (hc : Bytes code) (at_ seed n : Int) (ha : 0 ≤ at_ ∧ at_ ≤ 900000) (hn : n ≤ 1000000) : ∃ b a s, spec_l1Cur_one.f code at_ seed n = some (b, a, s) ∧ at_ ≤ a ∧ a ≤ at_ + 2 := by
  unfold spec_l1Cur_one.f
  obtain ⟨x, a, s, e, hx0, hx1, ha0, ha1⟩ := pick_ok hc at_ seed n ha hn
  rw [e, Option.bind_some]
  exact ⟨_, _, _, rfl, ha0, ha1⟩
end Go.Proofs.Ytgfedgnpffockaa.Plain
/- The draws of points: they end, with at most 20 numbers. Condition: bytes. -/
namespace Go.Proofs.Ytgfedgnpffockaa.Plain
open Go.RowKit Go.Proofs.YtgfedgnpffockaaW.PrintWords Go.Proofs.YtgfedgnpffockaaW.PrintLast Go.Proofs.Ytgfedgnpffockaa.Hand Go.Proofs.Ytgfedgnpffockaa.PAll
set_option linter.unusedVariables false
theorem point_l1 {code : List Int} (hc : Bytes code) (B : Int) (hB : 0 ≤ B ∧ B ≤ 500000) : ∀ (d : Nat) (x : List Int) (at_ seed : Int), x.length + d = 12 → 0 ≤ at_ ∧ at_ ≤ B + (12 - (d : Int)) * 2 →
    ∃ r, Ev (fun k => spec_l1Cur_point.l1 k x code at_ seed) r ∧ r.1.length ≤ 20 ∧ 0 ≤ r.2.1 ∧ r.2.1 ≤ B + 100 := by
  intro d
  induction d with
  | zero =>
    intro x at_ seed hx ha
    obtain ⟨v, a2, s2, e, h0, h1, h2, h3⟩ := pick_ok hc at_ seed 2 (by omega) (by omega)
    have h4 := h1 (by omega)
    refine ⟨(x, a2, s2), ?_, by simp; omega, by dsimp only; omega, by dsimp only; omega⟩
    refine Ev.step (f := fun _ => some (x, a2, s2)) (fun k => ?_) (Ev.now _)
    rw [spec_l1Cur_point.l1, e, Option.bind_some]
    dsimp only
    rw [wrap64_in _ (by omega) (by omega), if_neg (by omega)]
  | succ d ih =>
    intro x at_ seed hx ha
    obtain ⟨v, a2, s2, e, h0, h1, h2, h3⟩ := pick_ok hc at_ seed 2 (by omega) (by omega)
    have h4 := h1 (by omega)
    by_cases c : (x.length : Int) < 8 + v
    · obtain ⟨r, hr, hl⟩ := ih (x ++ [wrap64 ((-37) * (x.length : Int))]) a2 s2 (by simp; omega) (by omega)
      refine ⟨r, ?_, hl⟩
      refine Ev.step (f := ?f1) (fun k => ?h1) ?g1
      case g1 => exact hr
      case h1 =>
        rw [spec_l1Cur_point.l1, e, Option.bind_some]
        dsimp only
        rw [wrap64_in (8 + v) (by omega) (by omega), if_pos c, if_pos (by omega)]
    · refine ⟨(x, a2, s2), ?_, by simp; omega, by dsimp only; omega, by dsimp only; omega⟩
      refine Ev.step (f := fun _ => some (x, a2, s2)) (fun k => ?_) (Ev.now _)
      rw [spec_l1Cur_point.l1, e, Option.bind_some]
      dsimp only
      rw [wrap64_in (8 + v) (by omega) (by omega), if_neg c]
theorem point_l0 {code : List Int} (hc : Bytes code) (B : Int) (hB : 0 ≤ B ∧ B ≤ 400000) (n : Nat) (hn : n ≤ 10) : ∀ (d : Nat) (x : List Int) (at_ seed : Int), x.length + d = n → 0 ≤ at_ ∧ at_ ≤ B + (10 - (d : Int)) * 10 →
    ∃ r, Ev (fun k => spec_l1Cur_point.l0 k (n : Int) x code at_ seed) r ∧ r.1.length ≤ 20 ∧ 0 ≤ r.2.1 ∧ r.2.1 ≤ B + 300 := by
  intro d
  induction d with
  | zero =>
    intro x at_ seed hx ha
    obtain ⟨v, a2, s2, e, h0, h1, h2, h3⟩ := pick_ok hc at_ seed 14 (by omega) (by omega)
    by_cases c0 : v = 0
    · obtain ⟨w, a3, s3, e3, hw, h6, h7⟩ := among_ok hc a2 s2 [(-100001), (-100000), 100000, 100001] (by decide) (by decide) (by omega)
      refine ⟨(x ++ [w], a3, s3), ?_, by simp; omega, by dsimp only; omega, by dsimp only; omega⟩
      refine Ev.step (f := fun _ => some (x ++ [w], a3, s3)) (fun k => ?_) (Ev.now _)
      rw [spec_l1Cur_point.l0, if_neg (by omega), e, Option.bind_some]
      dsimp only
      rw [if_pos c0, e3, Option.bind_some]
      dsimp only
      rw [if_pos (by omega)]
    · by_cases c1 : v = 1
      · by_cases c2 : (x.length : Int) > 1
        · obtain ⟨w, a3, s3, e3, hw, h6, h7⟩ := among_ok hc a2 s2 [0, 100, (-100)] (by decide) (by decide) (by omega)
          refine ⟨(x.set (0 : Int).toNat (wrap64 ((rd x 1) + w)), a3, s3), ?_, by simp; omega, by dsimp only; omega, by dsimp only; omega⟩
          refine Ev.step (f := fun _ => some (x.set (0 : Int).toNat (wrap64 ((rd x 1) + w)), a3, s3)) (fun k => ?_) (Ev.now _)
          rw [spec_l1Cur_point.l0, if_neg (by omega), e, Option.bind_some]
          dsimp only
          rw [if_neg c0, if_pos c1, if_pos c2, if_pos (by omega), e3, Option.bind_some]
          dsimp only
          rw [if_pos (by omega)]
        · refine ⟨(x, a2, s2), ?_, by simp; omega, by dsimp only; omega, by dsimp only; omega⟩
          refine Ev.step (f := fun _ => some (x, a2, s2)) (fun k => ?_) (Ev.now _)
          rw [spec_l1Cur_point.l0, if_neg (by omega), e, Option.bind_some]
          dsimp only
          rw [if_neg c0, if_pos c1, if_neg c2]
      · by_cases c2 : v = 2
        · obtain ⟨r, hr, hl, hr2⟩ := point_l1 hc (B + 110) (by omega) 12 [] a2 s2 (by simp) (by omega)
          refine ⟨r, ?_, hl, by omega, by omega⟩
          refine Ev.step (f := ?f1) (fun k => ?h1) ?g1
          case g1 => exact hr
          case h1 =>
            rw [spec_l1Cur_point.l0, if_neg (by omega), e, Option.bind_some]
            dsimp only
            rw [if_neg c0, if_neg c1, if_pos c2]
        · refine ⟨(x, a2, s2), ?_, by simp; omega, by dsimp only; omega, by dsimp only; omega⟩
          refine Ev.step (f := fun _ => some (x, a2, s2)) (fun k => ?_) (Ev.now _)
          rw [spec_l1Cur_point.l0, if_neg (by omega), e, Option.bind_some]
          dsimp only
          rw [if_neg c0, if_neg c1, if_neg c2]
  | succ d ih =>
    intro x at_ seed hx ha
    obtain ⟨v, a2, s2, e, h0, h1, h2, h3⟩ := pick_ok hc at_ seed 330 (by omega) (by omega)
    obtain ⟨b, a3, s3, e3, h4, h5⟩ := one_ok hc a2 s2 5 (by omega) (by omega)
    have plain : ∃ r, Ev (fun k => spec_l1Cur_point.j1 k (n : Int) x (wrap64 (v - 100)) false code a3 s3) r ∧ r.1.length ≤ 20 ∧ 0 ≤ r.2.1 ∧ r.2.1 ≤ B + 300 := by
      obtain ⟨r, hr, hl⟩ := ih (x ++ [wrap64 (v - 100)]) a3 s3 (by simp; omega) (by omega)
      refine ⟨r, ?_, hl⟩
      refine Ev.step (f := ?f2) (fun k => ?h2) ?g2
      case g2 => exact hr
      case h2 => rw [spec_l1Cur_point.j1, if_neg (by decide), if_pos (by omega)]
    have both : ∀ c : Bool, (c = true → 0 < x.length) → ∃ r, Ev (fun k => spec_l1Cur_point.j1 k (n : Int) x (wrap64 (v - 100)) c code a3 s3) r ∧ r.1.length ≤ 20 ∧ 0 ≤ r.2.1 ∧ r.2.1 ≤ B + 300 := by
      intro c hc0
      cases c with
      | false => exact plain
      | true =>
        have hp := hc0 rfl
        obtain ⟨i, a4, s4, e4, i0, i1, i2, i3⟩ := pick_ok hc a3 s3 (x.length : Int) (by omega) (by omega)
        have i4 := i1 (by omega)
        obtain ⟨w, a5, s5, e5, hw, h6, h7⟩ := among_ok hc a4 s4 [(-101), (-99), (-1), 1, 99, 101] (by decide) (by decide) (by omega)
        obtain ⟨r, hr, hl⟩ := ih (x ++ [wrap64 ((rd x i) + w)]) a5 s5 (by simp; omega) (by omega)
        refine ⟨r, ?_, hl⟩
        refine Ev.step (f := ?f3) (fun k => ?h3) ?g3
        case g3 => exact hr
        case h3 =>
          rw [spec_l1Cur_point.j1, if_pos rfl, e4, Option.bind_some]
          dsimp only
          rw [if_pos i0, if_pos i4, e5, Option.bind_some]
          dsimp only
          rw [if_pos (by omega)]
    cases b with
    | false =>
      obtain ⟨r, hr, hl⟩ := plain
      refine ⟨r, ?_, hl⟩
      refine Ev.step (f := ?f4) (fun k => ?h4) ?g4
      case g4 => exact hr
      case h4 =>
        rw [spec_l1Cur_point.l0, if_pos (by omega), e, Option.bind_some]
        dsimp only
        rw [e3, Option.bind_some]
        rfl
    | true =>
      obtain ⟨r, hr, hl⟩ := both (decide ((x.length : Int) > 0)) (fun h => by have := of_decide_eq_true h; omega)
      refine ⟨r, ?_, hl⟩
      refine Ev.step (f := ?f5) (fun k => ?h5) ?g5
      case g5 => exact hr
      case h5 =>
        rw [spec_l1Cur_point.l0, if_pos (by omega), e, Option.bind_some]
        dsimp only
        rw [e3, Option.bind_some]
        rfl
theorem point_ok {code : List Int} (hc : Bytes code) (at_ seed : Int) (ha : 0 ≤ at_ ∧ at_ ≤ 400000) (n : Int) (hn : 0 ≤ n ∧ n ≤ 10) : ∃ r, Ev (fun k => spec_l1Cur_point.f k code at_ seed n) r ∧ r.1.length ≤ 20 ∧ 0 ≤ r.2.1 ∧ r.2.1 ≤ at_ + 300 := by
  obtain ⟨m, rfl⟩ : ∃ m : Nat, n = (m : Int) := ⟨n.toNat, by omega⟩
  exact point_l0 hc at_ ha m (by omega) m [] at_ seed (by simp) (by omega)
end Go.Proofs.Ytgfedgnpffockaa.Plain
