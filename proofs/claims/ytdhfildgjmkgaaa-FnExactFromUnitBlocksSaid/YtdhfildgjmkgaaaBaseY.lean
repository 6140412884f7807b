/- Distances, and the greatest of a list, as the program and the reference tell them. Conditions: those that each theorem states. -/
import Derived.Test.YtdhfildgjmkgaaaPAllx1
import Derived.Test.YtdhfildgjmkgaaaPAllx3
import Derived.Test.YtdhfildgjmkgaaaBaseA
namespace Go.Proofs.Ytdhfildgjmkgaaa.Plain
open Go.RowKit Go.Proofs.YtdhfildgjmkgaaaW.PrintWords Go.Proofs.YtdhfildgjmkgaaaW.PrintLast Go.Proofs.Ytdhfildgjmkgaaa.Hand Go.Proofs.Ytdhfildgjmkgaaa.PAll
set_option linter.unusedVariables false

/-- The distances of the first n cars. -/
def dst (s l : List Int) (n : Nat) : List Int := (List.range n).map fun i : Nat => wrap64 (rd s (i : Int) - rd l (i : Int))
theorem dst_succ (s l : List Int) (n : Nat) : dst s l (n + 1) = dst s l n ++ [wrap64 (rd s (n : Int) - rd l (n : Int))] := by simp [dst, List.range_succ]
theorem dst_length (s l : List Int) (n : Nat) : (dst s l n).length = n := by simp [dst]
theorem paDistances_l0 (s l : List Int) (hl : s.length = l.length) (hs : l.length ≤ 1000) : ∀ (d n : Nat), n + d = l.length →
    Ev (fun k => spec_paDistances.l0 k l (dst s l n) s (s.length : Int) (n : Int)) (dst s l l.length) := by
  intro d
  induction d with
  | zero =>
    intro n hn
    obtain rfl : n = l.length := by omega
    refine Ev.step (f := fun _ => some (dst s l l.length)) (fun k => ?_) (Ev.now _)
    rw [spec_paDistances.l0, if_neg (by omega)]
  | succ d ih =>
    intro n hn
    refine Ev.step (fun k => ?_) (ih (n + 1) (by omega))
    rw [spec_paDistances.l0, if_pos (by omega), if_pos (by omega), if_pos (by omega), if_pos (by omega), if_pos (by rw [dst_length]; omega), wrap_succ n (by omega), dst_succ]
theorem distancesOf_l0 (s l : List Int) (ok : Bool) (hl : s.length = l.length) (hs : l.length ≤ 1000) : ∀ (d n : Nat), n + d = l.length →
    Ev (fun k => impl_DistancesOf.l0 k l (dst s l n ++ s.drop n) ok (s.length : Int) (n : Int)) (dst s l l.length, ok) := by
  intro d
  induction d with
  | zero =>
    intro n hn
    obtain rfl : n = l.length := by omega
    refine Ev.step (f := fun _ => some (dst s l l.length, ok)) (fun k => ?_) (Ev.now _)
    rw [impl_DistancesOf.l0, if_neg (by omega), List.drop_eq_nil_of_le (by omega), List.append_nil]
  | succ d ih =>
    intro n hn
    have h1 : n < s.length := by omega
    have e1 : rd (dst s l n ++ s.drop n) (n : Int) = rd s (n : Int) := by
      rw [rd_nat _ n (by simp [dst_length]; omega), rd_nat s n h1, List.getElem_append_right (by rw [dst_length]; omega)]
      simp [dst_length]
    have e2 : (dst s l n ++ s.drop n).set n (wrap64 (rd s (n : Int) - rd l (n : Int))) = dst s l (n + 1) ++ s.drop (n + 1) := by
      rw [List.set_append_right _ _ (by rw [dst_length]; omega), dst_length, Nat.sub_self, List.drop_eq_getElem_cons h1, List.set_cons_zero, dst_succ, List.append_assoc]
      rfl
    refine Ev.step (fun k => ?_) (ih (n + 1) (by omega))
    rw [impl_DistancesOf.l0, if_pos (by omega), if_pos (by omega), if_pos (by simp [dst_length]; omega), if_pos (by omega), Int.toNat_natCast, e1, e2, wrap_succ n (by omega)]
theorem mx_le (x y a : Int) : mx x y ≤ a ↔ x ≤ a ∧ y ≤ a := by
  unfold mx
  split <;> omega
theorem max_l0 (xs : List Int) (hs : xs.length ≤ 1000) : ∀ (d n : Nat) (m : Int), n + d = xs.length →
    ∃ r, Ev (fun k => slices_Max_int_int.l0 k xs m (n : Int)) r ∧ ∀ a, r ≤ a ↔ m ≤ a ∧ ∀ x ∈ xs.drop n, x ≤ a := by
  intro d
  induction d with
  | zero =>
    intro n m hn
    refine ⟨m, Ev.step (f := fun _ => some m) (fun k => ?_) (Ev.now _), fun a => ?_⟩
    · rw [slices_Max_int_int.l0, if_neg (by omega)]
    · rw [List.drop_eq_nil_of_le (by omega)]
      simp
  | succ d ih =>
    intro n m hn
    have h1 : n < xs.length := by omega
    obtain ⟨r, hr, ha⟩ := ih (n + 1) (mx m xs[n]) (by omega)
    refine ⟨r, Ev.step (fun k => ?_) hr, fun a => ?_⟩
    · rw [slices_Max_int_int.l0, if_pos (by omega), if_pos (by omega), rd_nat xs n h1, wrap_succ n (by omega)]
    · rw [ha a, mx_le, List.drop_eq_getElem_cons h1]
      constructor
      · rintro ⟨⟨h2, h3⟩, h4⟩
        refine ⟨h2, fun x hx => ?_⟩
        rcases List.mem_cons.1 hx with rfl | hx
        · exact h3
        · exact h4 x hx
      · rintro ⟨h2, h3⟩
        exact ⟨⟨h2, h3 _ List.mem_cons_self⟩, fun x hx => h3 x (List.mem_cons_of_mem _ hx)⟩
theorem max_ev (xs : List Int) (h0 : 0 < xs.length) (hs : xs.length ≤ 1000) : ∃ r, Ev (fun k => slices_Max_int_int.f k xs) r ∧ ∀ a, r ≤ a ↔ ∀ x ∈ xs, x ≤ a := by
  obtain ⟨r, hr, ha⟩ := max_l0 xs hs (xs.length - 1) 1 (rd xs ((0 : Nat) : Int)) (by omega)
  refine ⟨r, ?_, fun a => ?_⟩
  · unfold slices_Max_int_int.f
    exact Ev.neg (by omega) (Ev.pos (by omega) hr)
  · rw [ha a, rd_nat xs 0 h0]
    have e : xs = xs[0] :: xs.drop 1 := by
      have := List.drop_eq_getElem_cons h0
      rwa [List.drop_zero] at this
    constructor
    · rintro ⟨h2, h3⟩ x hx
      rw [e] at hx
      rcases List.mem_cons.1 hx with rfl | hx
      · exact h2
      · exact h3 x hx
    · intro h2
      exact ⟨h2 _ (List.getElem_mem h0), fun x hx => h2 x (List.mem_of_mem_drop hx)⟩
end Go.Proofs.Ytdhfildgjmkgaaa.Plain
