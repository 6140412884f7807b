/- Sums; what driving comes to: the places are all places, and enough cars wish small ones. No condition beside what each theorem states. -/
import Derived.Test.YtleemfmhilhklaaGreatBaseP
import Derived.Test.YtleemfmhilhklaaGreatBaseK
import Derived.Test.YtleemfmhilhklaaGreatBaseX
namespace Go.Proofs.YtleemfmhilhklaaGreat.Plain
open Go.RowKit Go.Proofs.YtleemfmhilhklaaGreatW.PrintWords Go.Proofs.YtleemfmhilhklaaGreatW.PrintLast Go.Proofs.YtleemfmhilhklaaGreat.Hand
set_option linter.unusedVariables false
/-! ### Sums and counts -/
def sm : List Int → Int
  | [] => 0
  | x :: xs => x + sm xs
/-- How many are less than j. -/
def lt (l : List Int) (j : Int) : Int := cnt (fun x => decide (x < j)) l
/-! ### What driving comes to -/
theorem sdrive_good (p : Int) : ∀ (xs out : List Int), (∀ x ∈ xs, 0 ≤ x) → out.Nodup → (∀ y ∈ out, 0 ≤ y ∧ y < p) → (-1 : Int) ∉ sdrive p out xs → (sdrive p out xs).Nodup ∧ ∀ y ∈ sdrive p out xs, 0 ≤ y ∧ y < p := by
  intro xs
  induction xs with
  | nil => intro out _ h1 h2 _; exact ⟨h1, h2⟩
  | cons x xs ih =>
    intro out hx hn hr hm
    rw [sdrive] at hm ⊢
    have h0 := nf_ge p out (p - x).toNat x
    have hx0 := hx x List.mem_cons_self
    by_cases hy : p ≤ nf p out (p - x).toNat x
    · obtain ⟨t, ht⟩ := sdrive_pre p xs (out ++ [told p (nf p out (p - x).toNat x)])
      refine absurd ?_ hm
      rw [ht]
      unfold told
      rw [if_pos hy]
      simp
    · have ht : told p (nf p out (p - x).toNat x) = nf p out (p - x).toNat x := by unfold told; rw [if_neg hy]
      rw [ht] at hm ⊢
      have hf := nf_free p out (p - x).toNat x rfl (by omega)
      refine ih _ (fun y hy => hx y (List.mem_cons_of_mem _ hy)) ?_ ?_ hm
      · rw [List.nodup_append]
        refine ⟨hn, by simp, fun a ha b hb => ?_⟩
        rw [List.mem_singleton] at hb
        subst hb
        exact fun e => hf (e ▸ ha)
      · intro y hy2
        rcases List.mem_append.1 hy2 with h | h
        · exact hr y h
        · rw [List.mem_singleton] at h
          omega
theorem s_perm {l : List Int} (h : parking l = true) : (sdrive (l.length : Int) [] l).Perm (iota 0 l.length) := by
  have hg := sdrive_good (l.length : Int) l [] (fun x hx => (parking_in h x hx).1) List.nodup_nil (by simp) (parking_all h)
  refine nodup_perm _ _ hg.1 (fun x hx => (iota_mem _ _).2 (hg.2 x hx)) ?_
  rw [iota_length, sdrive_length]
  simp
end Go.Proofs.YtleemfmhilhklaaGreat.Plain
