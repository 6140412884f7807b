/- The total distance of a parking function is told by its length and its sum. No condition beside what each theorem states. -/
import Derived.Test.YtflgalpfbjhdlaaGreatPAllx1
import Derived.Test.YtflgalpfbjhdlaaGreatPAllx2
import Derived.Test.YtflgalpfbjhdlaaGreatPAllx6
import Derived.Test.YtflgalpfbjhdlaaGreatBaseJd
import Derived.Test.YtflgalpfbjhdlaaGreatBaseY
namespace Go.Proofs.YtflgalpfbjhdlaaGreat.Plain
open Go.RowKit Go.Proofs.YtflgalpfbjhdlaaGreatW.PrintWords Go.Proofs.YtflgalpfbjhdlaaGreatW.PrintLast Go.Proofs.YtflgalpfbjhdlaaGreat.Hand Go.Proofs.YtflgalpfbjhdlaaGreat.PAll
set_option linter.unusedVariables false
theorem total_l0 (l : List Int) (h8 : l.length ≤ 100) (hb : ∀ x ∈ l, -1000 ≤ x ∧ x ≤ 1000) : ∀ (d n : Nat), n + d = l.length → Ev (fun k => impl_total.l0 k (sm (l.take n)) l (l.length : Int) (n : Int)) (sm l) := by
  intro d
  induction d with
  | zero =>
    intro n hn
    obtain rfl : n = l.length := by omega
    rw [List.take_length]
    refine Ev.step (f := fun _ => some (sm l)) (fun k => ?_) (Ev.now _)
    rw [impl_total.l0, if_neg (by omega)]
  | succ d ih =>
    intro n hn
    have h := ih (n + 1) (by omega)
    have hr := acc_in l h8 hb (n + 1)
    rw [take_next l n (by omega), sm_append] at h hr
    simp only [sm, Int.add_zero] at h hr
    refine Ev.step (fun k => ?_) h
    rw [impl_total.l0, if_pos (by omega), if_pos (by omega), if_pos (by omega), wrap_succ n (by omega), wrap64_in _ (by omega) (by omega)]
theorem total_ev (l : List Int) (h8 : l.length ≤ 100) (hb : ∀ x ∈ l, -1000 ≤ x ∧ x ≤ 1000) : Ev (fun k => impl_total.f k l) (sm l) := total_l0 l h8 hb l.length 0 (by omega)
theorem sm_dst (s l : List Int) (hl : s.length = l.length) (hs : ∀ x ∈ s, 0 ≤ x ∧ x ≤ 100) (hx : ∀ x ∈ l, 0 ≤ x ∧ x ≤ 100) : ∀ n : Nat, n ≤ l.length → sm (dst s l n) = sm (s.take n) - sm (l.take n) := by
  intro n
  induction n with
  | zero => intro _; simp [dst, sm]
  | succ n ih =>
    intro hn
    have h1 := hs s[n] (List.getElem_mem (by omega))
    have h2 := hx l[n] (List.getElem_mem (by omega))
    rw [dst_succ, sm_append, ih (by omega), take_next s n (by omega), take_next l n (by omega), sm_append, sm_append, rd_nat s n (by omega), rd_nat l n (by omega), wrap64_in _ (by omega) (by omega)]
    simp only [sm, Int.add_zero]
    omega
end Go.Proofs.YtflgalpfbjhdlaaGreat.Plain
