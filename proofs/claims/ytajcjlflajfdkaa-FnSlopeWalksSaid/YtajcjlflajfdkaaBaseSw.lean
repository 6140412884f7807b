/- Slope walks: each is among the listed ones; and, by the kernel, what is listed turns back, keeps its area and has different levels. Condition: a slope. -/
import Derived.Test.YtajcjlflajfdkaaPAllx1
import Derived.Test.YtajcjlflajfdkaaPureFnExactAllSlopeWalks
import Derived.Test.YtajcjlflajfdkaaPureFnExactTurnSlopeWalk
import Derived.Test.YtajcjlflajfdkaaPureFnExactLevelsOfWalk
import Derived.Test.YtajcjlflajfdkaaPureFnExactSlopeArea
namespace Go.Proofs.Ytajcjlflajfdkaa.Pure
open Go.RowKit Go.Proofs.YtajcjlflajfdkaaW.PrintWords Go.Proofs.YtajcjlflajfdkaaW.PrintLast Go.Proofs.Ytajcjlflajfdkaa.Hand Go.Proofs.Ytajcjlflajfdkaa.PAll Go.Proofs.Ytajcjlflajfdkaa.Plain
set_option linter.unusedVariables false
namespace AllSlopeWalks
theorem catF_in {α : Type} {f : Nat → List α} {a : α} : ∀ (e x k : Nat), x ≤ k → k < x + e → a ∈ f k → a ∈ catF f x e := by
  intro e
  induction e with
  | zero => intro x k h1 h2; omega
  | succ e ih =>
    intro x k h1 h2 h
    rw [catF, List.mem_append]
    by_cases he : k = x
    · subst he; exact .inl h
    · exact .inr (ih (x + 1) k (by omega) (by omega) h)
theorem V_mem (bs : List Int) : ∀ (d : Nat) (p t : List Int), t.length = d → (p ++ t).Pairwise (· ≤ ·) → (∀ x ∈ p ++ t, 0 ≤ x) → (∀ (j : Nat) (h : j < (p ++ t).length), (p ++ t)[j] ≤ rd bs (j : Int)) → p ++ t ∈ V bs d p := by
  intro d
  induction d with
  | zero =>
    intro p t ht _ _ _
    have e : t = [] := List.eq_nil_of_length_eq_zero ht
    subst e
    rw [List.append_nil, V]
    exact List.mem_singleton.2 rfl
  | succ d ih =>
    intro p t ht hs h0 hb
    match t, ht with
    | x :: t, ht =>
      have hx0 := h0 x (by simp)
      obtain ⟨k, rfl⟩ := Int.eq_ofNat_of_zero_le hx0
      have hbx := hb p.length (by simp)
      rw [List.getElem_append_right (by omega)] at hbx
      simp only [Nat.sub_self, List.getElem_cons_zero] at hbx
      have hlo : lo p ≤ k := by
        by_cases hp : 0 < p.length
        · have h1 := lo_at p hp (fun y hy => h0 y (List.mem_append_left _ hy))
          have h2 := (List.pairwise_append.1 hs).2.2 _ (List.getElem_mem (show p.length - 1 < p.length by omega)) (k : Int) (by simp)
          omega
        · have e : p = [] := List.eq_nil_of_length_eq_zero (by omega)
          subst e
          simp [lo]
      have e : p ++ (k : Int) :: t = (p ++ [(k : Int)]) ++ t := by simp
      rw [V]
      refine catF_in _ _ k hlo (by omega) ?_
      rw [e] at hs h0 hb ⊢
      exact ih (p ++ [(k : Int)]) t (by simpa using ht) hs h0 hb
theorem bd_of {n A : Nat} (h : slope (n : Int) (A : Int) = true) : Bd n A (bnds (n : Int) (A : Int)) := by
  have hin := slope_in h
  have hb2 := bnds_fin2 ⟨n - 1, by omega⟩ ⟨A - 1, by omega⟩
  have e1 : ((n - 1 : Nat) : Int) + 1 = (n : Int) := by omega
  have e2 : ((A - 1 : Nat) : Int) + 1 = (A : Int) := by omega
  simp only [e1, e2] at hb2
  exact ⟨h, rfl, hb2.1⟩
theorem slw_V {l : List Int} {A : Nat} (h : slw l (A : Int) = true) : l ∈ V (bnds (l.length : Int) (A : Int)) l.length [] := by
  have hp := slw_slp h
  have hsl := slp_slope hp
  have hin := slp_in hp
  have hs : srt l = l := by
    unfold slw at h
    rw [Bool.and_eq_true, decide_eq_true_eq] at h
    exact h.2
  have hw : l.Pairwise (· ≤ ·) := by
    have := srt_sorted l
    rw [hs] at this
    exact this
  have hB := bd_of hsl
  have hl : leR l (bnds (l.length : Int) (A : Int)) = true := by
    rw [← slp_asc hB rfl (List.Perm.refl l) hw (fun x hx => (hin x hx).1)]
    exact hp
  have h1 := V_mem (bnds (l.length : Int) (A : Int)) l.length [] l rfl hw (fun x hx => (hin x hx).1) (fun j hj => by
    have h2 := (leR_true _ _).1 hl j hj (by rw [hB.len]; exact hj)
    rw [rd_nat _ j (by rw [hB.len]; exact hj)]
    exact h2)
  exact h1
theorem slw_of {n A : Nat} (h : slope (n : Int) (A : Int) = true) (t : List Int) (ht : t.length = n) (hw : t.Pairwise (· ≤ ·)) (h0 : ∀ x ∈ t, 0 ≤ x) (hl : leR t (bnds (n : Int) (A : Int)) = true) : slw t (A : Int) = true := by
  unfold slw
  rw [slp_asc (bd_of h) ht (List.Perm.refl t) hw h0, hl, srt_same hw]
  simp
def okL (l : List Int) (a : Int) : Bool := ((LevelsOfWalk.lev l a l.length).all fun x => decide (0 ≤ x)) && decide (LevelsOfWalk.lev l a l.length).Nodup
def okT (l : List Int) (n a : Nat) : Bool :=
  decide ((TurnSlopeWalk.tsw l (a : Int) a).Pairwise (· ≤ ·)) && ((TurnSlopeWalk.tsw l (a : Int) a).all fun x => decide (0 ≤ x)) && leR (TurnSlopeWalk.tsw l (a : Int) a) (bnds (a : Int) (n : Int)) && decide (TurnSlopeWalk.tsw (TurnSlopeWalk.tsw l (a : Int) a) (n : Int) n = l) &&
    decide (wrap64 (SlopeArea.sumW 0 (bnds (n : Int) (a : Int)) - SlopeArea.sumW 0 l) = wrap64 (SlopeArea.sumW 0 (bnds (a : Int) (n : Int)) - SlopeArea.sumW 0 (TurnSlopeWalk.tsw l (a : Int) a)))
set_option maxRecDepth 100000 in
theorem walks_fin : ∀ n : Fin 6, ∀ m : Fin 13, (!slope ((n.1 + 1 : Nat) : Int) ((m.1 + 1 : Nat) : Int) || (V (bnds ((n.1 + 1 : Nat) : Int) ((m.1 + 1 : Nat) : Int)) (n.1 + 1) []).all fun l => okL l ((m.1 + 1 : Nat) : Int) && (!slope ((m.1 + 1 : Nat) : Int) ((n.1 + 1 : Nat) : Int) || okT l (n.1 + 1) (m.1 + 1))) = true := by decide +kernel
theorem walks_ok {l : List Int} {A : Nat} (h : slw l (A : Int) = true) : okL l (A : Int) = true ∧ (slope (A : Int) (l.length : Int) = true → okT l l.length A = true) := by
  have hsl := slp_slope (slw_slp h)
  have hin := slope_in hsl
  have hf := walks_fin ⟨l.length - 1, by omega⟩ ⟨A - 1, by omega⟩
  simp only [show l.length - 1 + 1 = l.length by omega, show A - 1 + 1 = A by omega] at hf
  rw [hsl, Bool.not_true, Bool.false_or, List.all_eq_true] at hf
  have h1 := hf l (slw_V h)
  rw [Bool.and_eq_true] at h1
  refine ⟨h1.1, fun h2 => ?_⟩
  have h3 := h1.2
  rw [h2, Bool.not_true, Bool.false_or] at h3
  exact h3
set_option maxRecDepth 100000 in
theorem many_eq : ∀ n : Fin 6, ∀ m : Fin 13, slope ((n.1 : Int) + 1) ((m.1 : Int) + 1) = true → impl_CountSlopeWalks.f 60 ((n.1 : Int) + 1) ((m.1 : Int) + 1) = some (((V (bnds ((n.1 : Int) + 1) ((m.1 : Int) + 1)) (n.1 + 1) []).length : Int), true) := by decide +kernel
theorem many_same : ∀ n : Fin 6, ∀ m : Fin 6, slope ((n.1 : Int) + 1) ((m.1 : Int) + 1) = true → slope ((m.1 : Int) + 1) ((n.1 : Int) + 1) = true → impl_CountSlopeWalks.f 60 ((n.1 : Int) + 1) ((m.1 : Int) + 1) = impl_CountSlopeWalks.f 60 ((m.1 : Int) + 1) ((n.1 : Int) + 1) := by decide +kernel
end AllSlopeWalks
end Go.Proofs.Ytajcjlflajfdkaa.Pure
