/- What the reference's draws come to: each tells something, within bounds. Condition: the bytes are bytes, and few of them are read. -/
import Derived.Test.YthanbhbibjnmjaaPAllx1
import Derived.Test.YthanbhbibjnmjaaPAllx3
import Derived.Test.YthanbhbibjnmjaaBaseA
import Derived.OpenShut
import Derived.Laws.Bits64b
namespace Go.Proofs.Ythanbhbibjnmjaa.Plain
open Go.RowKit Go.Proofs.YthanbhbibjnmjaaW.PrintWords Go.Proofs.YthanbhbibjnmjaaW.PrintLast Go.Proofs.Ythanbhbibjnmjaa.Hand Go.Proofs.Ythanbhbibjnmjaa.PAll
set_option linter.unusedVariables false
def Bytes (l : List Int) : Prop := ∀ x ∈ l, 0 ≤ x ∧ x ≤ 255
theorem bytes_of {l : List Int} (h : ∀ x ∈ l, (Lit.int .u8 x).wf = true) : Bytes l := fun x hx => bounds_u8 (h x hx)
theorem rd_bytes {l : List Int} (h : Bytes l) (i : Int) : 0 ≤ rd l i ∧ rd l i ≤ 255 := by
  unfold rd
  by_cases hi : i.toNat < l.length
  · rw [List.getD_eq_getElem?_getD, List.getElem?_eq_getElem hi]
    exact h _ (List.getElem_mem hi)
  · rw [List.getD_eq_getElem?_getD, List.getElem?_eq_none (by omega)]
    exact ⟨Int.le_refl _, by decide⟩
theorem low_byte (n : Int) : 0 ≤ Go.bits .and .u64 (IntKind.u64.wrap n / 1099511627776) 255 ∧ Go.bits .and .u64 (IntKind.u64.wrap n / 1099511627776) 255 ≤ 255 := by
  have hw : IntKind.u64.wrap n = n % 18446744073709551616 := by simp [IntKind.wrap, IntKind.bits, IntKind.signed]
  obtain ⟨m, hm⟩ : ∃ m : Nat, IntKind.u64.wrap n / 1099511627776 = (m : Int) := ⟨(IntKind.u64.wrap n / 1099511627776).toNat, by rw [hw]; omega⟩
  have hb : m < 18446744073709551616 := by rw [hw] at hm; omega
  rw [hm]
  have e := bits_and_u64_nat m 255 hb (by decide)
  have e2 : Go.bits .and .u64 (m : Int) 255 = ((m &&& 255 : Nat) : Int) := e
  rw [e2]
  have := Nat.and_le_right (n := m) (m := 255)
  omega
/-- Where the reading stands. -/
abbrev At (at_ : Int) (n : Int) : Prop := 0 ≤ at_ ∧ at_ ≤ n
theorem next_ok {code : List Int} (hc : Bytes code) (at_ seed : Int) (ha : 0 ≤ at_ ∧ at_ ≤ 1000000) : ∃ b s, spec_l1Cur_next.f code at_ seed = some (b, at_ + 1, s) ∧ 0 ≤ b ∧ b ≤ 255 := by
  unfold spec_l1Cur_next.f
  rw [wrap64_in (at_ + 1) (by omega) (by omega)]
  have h1 := rd_bytes hc at_
  have h2 := wrap64_in (rd code at_) (by omega) (by omega)
  by_cases h : at_ < (code.length : Int)
  · rw [if_pos h, if_pos ha.1, if_pos (by omega)]
    exact ⟨_, _, rfl, by omega, by omega⟩
  · rw [if_neg h, if_neg (by omega)]
    have h3 := low_byte ((IntKind.u64.wrap (IntKind.u64.wrap (seed * 6364136223846793005))) + 1442695040888963407)
    have h4 := wrap64_in (Go.bits .and .u64 (IntKind.u64.wrap ((IntKind.u64.wrap (IntKind.u64.wrap (seed * 6364136223846793005))) + 1442695040888963407) / 1099511627776) 255) (by omega) (by omega)
    refine ⟨_, _, rfl, ?_, ?_⟩
    · rw [h4]; exact h3.1
    · rw [h4]; exact h3.2
theorem pick_ok {code : List Int} (hc : Bytes code) (at_ seed n : Int) (ha : 0 ≤ at_ ∧ at_ ≤ 900000) (hn : n ≤ 1000000) : ∃ x a s, spec_l1Cur_pick.f code at_ seed n = some (x, a, s) ∧ 0 ≤ x ∧ (1 ≤ n → x < n) ∧ at_ ≤ a ∧ a ≤ at_ + 2 := by
  unfold spec_l1Cur_pick.f
  by_cases h1 : n ≤ 1
  · rw [if_pos h1]
    exact ⟨0, at_, seed, rfl, Int.le_refl _, fun h => by omega, by omega, by omega⟩
  · rw [if_neg h1]
    obtain ⟨b, s, e, hb0, hb1⟩ := next_ok hc at_ seed (by omega)
    rw [e, Option.bind_some]
    dsimp only
    by_cases h2 : n > 200
    · obtain ⟨b2, s2, e2, hc0, hc1⟩ := next_ok hc (at_ + 1) s (by omega)
      rw [if_pos h2, e2, Option.bind_some]
      dsimp only
      rw [if_neg (by omega), wrap64_in (b * 256) (by omega) (by omega), wrap64_in (b * 256 + b2) (by omega) (by omega), Int.tmod_eq_emod_of_nonneg (by omega)]
      exact ⟨_, _, _, rfl, Int.emod_nonneg _ (by omega), fun _ => Int.emod_lt_of_pos _ (by omega), by omega, by omega⟩
    · rw [if_neg h2, if_neg (by omega), Int.tmod_eq_emod_of_nonneg (by omega)]
      exact ⟨_, _, _, rfl, Int.emod_nonneg _ (by omega), fun _ => Int.emod_lt_of_pos _ (by omega), by omega, by omega⟩
theorem among_ok {code : List Int} (hc : Bytes code) (at_ seed : Int) (l : List Int) (h0 : 0 < l.length) (hl : l.length ≤ 1000000) (ha : 0 ≤ at_ ∧ at_ ≤ 900000) : ∃ x a s, spec_l1Cur_among.f code at_ seed l = some (x, a, s) ∧ x ∈ l ∧ at_ ≤ a ∧ a ≤ at_ + 2 := by
  unfold spec_l1Cur_among.f
  obtain ⟨x, a, s, e, hx0, hx1, ha0, ha1⟩ := pick_ok hc at_ seed (l.length : Int) ha (by omega)
  have hx := hx1 (by omega)
  rw [e, Option.bind_some]
  dsimp only
  rw [if_pos hx0, if_pos hx]
  refine ⟨_, _, _, rfl, ?_, ha0, ha1⟩
  have hlt : x.toNat < l.length := by omega
  unfold rd
  rw [List.getD_eq_getElem?_getD, List.getElem?_eq_getElem hlt]
  exact List.getElem_mem hlt
theorem one_ok {code : List Int} (hc : Bytes code) (at_ seed n : Int) (ha : 0 ≤ at_ ∧ at_ ≤ 900000) (hn : n ≤ 1000000) : ∃ b a s, spec_l1Cur_one.f code at_ seed n = some (b, a, s) ∧ at_ ≤ a ∧ a ≤ at_ + 2 := by
  unfold spec_l1Cur_one.f
  obtain ⟨x, a, s, e, hx0, hx1, ha0, ha1⟩ := pick_ok hc at_ seed n ha hn
  rw [e, Option.bind_some]
  exact ⟨_, _, _, rfl, ha0, ha1⟩
end Go.Proofs.Ythanbhbibjnmjaa.Plain
