/- What the reference's draws of a slope come to. Condition: the bytes are bytes. -/
import Derived.Test.YtibmphdbkhchdaaPAllx1
import Derived.Test.YtibmphdbkhchdaaBaseDr
import Derived.Test.YtibmphdbkhchdaaBaseR
namespace Go.Proofs.Ytibmphdbkhchdaa.Plain
open Go.RowKit Go.Proofs.YtibmphdbkhchdaaW.PrintWords Go.Proofs.YtibmphdbkhchdaaW.PrintLast Go.Proofs.Ytibmphdbkhchdaa.Hand Go.Proofs.Ytibmphdbkhchdaa.PAll
set_option linter.unusedVariables false
def seek (n : Int) : Nat → Int → Option Int
  | 0, _ => none
  | d + 1, a => if slope n a = true then some a else seek n d (Int.tmod a 13 + 1)
theorem seek_fin : ∀ n : Fin 5, ∀ a : Fin 13, (seek ((n.1 : Int) + 1) 14 ((a.1 : Int) + 1)).isSome = true := by decide +kernel
theorem slope_end {code : List Int} (hc : Bytes code) {n a : Int} (h : slope n a = true) (at_ seed : Int) (ha : 0 ≤ at_ ∧ at_ ≤ 100000) : ∃ r, Ev (fun k => spec_l1Cur_slope.l0 k n a code at_ seed) r ∧ 0 ≤ r.2.2.1 ∧ r.2.2.1 ≤ at_ + 4 ∧ r.1 ≤ 100 ∧ r.2.1 ≤ 100 := by
  have hs := slIs_ev n a
  rw [h] at hs
  obtain ⟨p, at2, s, e, hp0, hp1, hb0, hb1⟩ := pick_ok hc at_ seed 12 (by omega) (by decide)
  have hstep : ∀ {β : Int × Int × Int × Int} , (Ev (fun k => if p = 0 then ((spec_l1Cur_among.f code at2 s (([(-1), 0, 6, 7] : List Int))).bind fun bt127 => (some (bt127.1, a, bt127.2.1, bt127.2.2))) else (if p = 1 then ((spec_l1Cur_among.f code at2 s (([(-1), 0, 1, 13, 14, n] : List Int))).bind fun bt133 => (some (n, bt133.1, bt133.2.1, bt133.2.2))) else (some (n, a, at2, s)))) β) → Ev (fun k => spec_l1Cur_slope.l0 k n a code at_ seed) β := by
    intro β hβ
    refine Ev.step (f := ?f1) (fun k => ?h1) ?g1
    case h1 => rw [spec_l1Cur_slope.l0, e, Option.bind_some]
    exact Ev.bind hs (Ev.pos rfl hβ)
  have hin := slope_in h
  by_cases h0 : p = 0
  · obtain ⟨x, at3, s3, e3, hx, hc0, hc1⟩ := among_ok hc at2 s [(-1), 0, 6, 7] (by simp) (by simp) (by omega)
    simp only [List.mem_cons, List.not_mem_nil, or_false] at hx
    exact ⟨(x, a, at3, s3), hstep (Ev.pos h0 (Ev.bindc e3 (Ev.now _))), by dsimp only; omega, by dsimp only; omega⟩
  · by_cases h1 : p = 1
    · obtain ⟨x, at3, s3, e3, hx, hc0, hc1⟩ := among_ok hc at2 s [(-1), 0, 1, 13, 14, n] (by simp) (by simp) (by omega)
      simp only [List.mem_cons, List.not_mem_nil, or_false] at hx
      exact ⟨(n, x, at3, s3), hstep (Ev.neg h0 (Ev.pos h1 (Ev.bindc e3 (Ev.now _)))), by dsimp only; omega, by dsimp only; omega⟩
    · exact ⟨(n, a, at2, s), hstep (Ev.neg h0 (Ev.neg h1 (Ev.now _))), by dsimp only; omega, by dsimp only; omega⟩
theorem slope_seek {code : List Int} (hc : Bytes code) (n at_ seed : Int) (ha : 0 ≤ at_ ∧ at_ ≤ 100000) : ∀ (d : Nat) (a : Int), 0 ≤ a ∧ a ≤ 13 → (seek n d a).isSome = true → ∃ r, Ev (fun k => spec_l1Cur_slope.l0 k n a code at_ seed) r ∧ 0 ≤ r.2.2.1 ∧ r.2.2.1 ≤ at_ + 4 ∧ r.1 ≤ 100 ∧ r.2.1 ≤ 100 := by
  intro d
  induction d with
  | zero => intro a _ h; cases h
  | succ d ih =>
    intro a hin h
    rw [seek] at h
    cases hs : slope n a with
    | true => exact slope_end hc hs at_ seed ha
    | false =>
      rw [hs, if_neg (by decide)] at h
      have hm : 0 ≤ Int.tmod a 13 ∧ Int.tmod a 13 ≤ 12 := by rw [Int.tmod_eq_emod_of_nonneg hin.1]; omega
      obtain ⟨r, hr, h1, h2⟩ := ih (Int.tmod a 13 + 1) (by omega) h
      have hi := slIs_ev n a
      rw [hs] at hi
      refine ⟨r, Ev.step (f := ?f1) (fun k => ?h1) ?g1, h1, h2⟩
      case h1 => rw [spec_l1Cur_slope.l0, wrap64_in _ (by omega) (by omega)]
      exact Ev.bind hi (Ev.neg (by decide) hr)
theorem slope_draw {code : List Int} (hc : Bytes code) : ∃ r, Ev (fun k => spec_l1Cur_slope.f k code 0 0) r ∧ 0 ≤ r.2.2.1 ∧ r.2.2.1 ≤ 8 ∧ r.1 ≤ 100 ∧ r.2.1 ≤ 100 := by
  obtain ⟨x, at1, s1, e1, hx0, hx1, ha0, ha1⟩ := pick_ok hc 0 0 5 (by decide) (by decide)
  obtain ⟨y, at2, s2, e2, hy0, hy1, hb0, hb1⟩ := pick_ok hc at1 s1 13 (by omega) (by decide)
  have hx := hx1 (by decide)
  have hy := hy1 (by decide)
  have hf := seek_fin ⟨x.toNat, by omega⟩ ⟨y.toNat, by omega⟩
  dsimp only at hf
  rw [show ((x.toNat : Nat) : Int) + 1 = 1 + x by omega, show ((y.toNat : Nat) : Int) + 1 = 1 + y by omega] at hf
  obtain ⟨r, hr, h1, h2⟩ := slope_seek hc (1 + x) at2 s2 (by omega) 14 (1 + y) (by omega) hf
  refine ⟨r, ?_, h1, by omega⟩
  unfold spec_l1Cur_slope.f
  refine Ev.bindc e1 (Ev.bindc e2 ?_)
  dsimp only
  rw [wrap64_in (1 + x) (by omega) (by omega), wrap64_in (1 + y) (by omega) (by omega)]
  exact hr
end Go.Proofs.Ytibmphdbkhchdaa.Plain
