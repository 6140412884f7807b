/- Of all turns of a list just one is a slope parking function; and a circle's free place tells it. Condition: a slope; numbers from 0 on and below the number across. -/
import Derived.Test.YtibmphdbkhchdaaBaseT
import Derived.Test.YtibmphdbkhchdaaBaseJd
namespace Go.Proofs.Ytibmphdbkhchdaa.Plain
open Go.RowKit Go.Proofs.YtibmphdbkhchdaaW.PrintWords Go.Proofs.YtibmphdbkhchdaaW.PrintLast Go.Proofs.Ytibmphdbkhchdaa.Hand
set_option linter.unusedVariables false
theorem underR_nle : ∀ (xs bs : List Int) (v : Int), xs.length = bs.length → underR xs bs = true → nle bs v ≤ nle xs v
  | [], [], v, _, _ => Int.le_refl _
  | [], _ :: _, v, h, _ => by simp at h
  | _ :: _, [], v, h, _ => by simp at h
  | x :: xs, b :: bs, v, h, hu => by
    rw [underR, Bool.and_eq_true, decide_eq_true_eq] at hu
    have := underR_nle xs bs v (by simpa using h) hu.2
    rw [nle_cons, nle_cons]
    split <;> split <;> omega
theorem bnds_nle : ∀ n : Fin 6, ∀ m : Fin 13, slope ((n.1 : Int) + 1) ((m.1 : Int) + 1) = true → ∀ v : Fin 13, v.1 < m.1 + 1 → ((n.1 : Int) + 1) * ((v.1 : Int) + 1) ≤ ((m.1 : Int) + 1) * nle (bnds ((n.1 : Int) + 1) ((m.1 : Int) + 1)) (v.1 : Int) := by decide +kernel
theorem under_nle {l : List Int} {a : Int} (hs : slope (l.length : Int) a = true) (hu : under l a = true) (v : Int) (h0 : 0 ≤ v) (hv : v < a) : (l.length : Int) * (v + 1) ≤ a * nle l v := by
  have hin := slope_in hs
  have e := bnds_nle ⟨l.length - 1, by omega⟩ ⟨(a - 1).toNat, by omega⟩
  simp only at e
  rw [show ((l.length - 1 : Nat) : Int) + 1 = (l.length : Int) by omega, show (((a - 1).toNat : Nat) : Int) + 1 = a by omega] at e
  have e := e hs ⟨v.toNat, by omega⟩ (by show v.toNat < (a - 1).toNat + 1; omega)
  simp only at e
  rw [show ((v.toNat : Nat) : Int) = v by omega] at e
  unfold under at hu
  have h1 := underR_nle (srt l) (bnds (l.length : Int) a) v (by rw [srt_length, bnds_length]; omega) hu
  rw [nle_perm (srt_perm l)] at h1
  exact Int.le_trans e (Int.mul_le_mul_of_nonneg_left h1 (by omega))
theorem no_two : ∀ n : Fin 6, ∀ m : Fin 13, slope ((n.1 : Int) + 1) ((m.1 : Int) + 1) = true → ∀ t : Fin 13, ∀ k : Fin 7, 0 < t.1 → t.1 < m.1 + 1 → ((n.1 : Int) + 1) * (t.1 : Int) ≤ ((m.1 : Int) + 1) * ((n.1 : Int) + 1 - (k.1 : Int)) → ((n.1 : Int) + 1) * ((m.1 : Int) + 1 - (t.1 : Int)) ≤ ((m.1 : Int) + 1) * (k.1 : Int) → False := by decide +kernel
theorem turned_two (l : List Int) (a b t : Int) (hl : ∀ x ∈ l, 0 ≤ x ∧ x < a) (hb : 0 ≤ b ∧ b < a) (ht : 0 ≤ t ∧ t < a) (h : b + t < a) : turned (turned l a b) a t = turned l a (b + t) := by
  unfold turned
  rw [List.map_map]
  refine List.map_congr_left (fun x hx => ?_)
  have h1 := hl x hx
  simp only [Function.comp]
  rw [turn_one h1 hb, turn_one h1 (by omega)]
  split
  · rw [turn_one (by omega) ht]
    split <;> split <;> omega
  · rw [turn_one (by omega) ht]
    split <;> split <;> omega
theorem turn_apart {m : List Int} {a t : Int} (hs : slope (m.length : Int) a = true) (hl : ∀ x ∈ m, 0 ≤ x ∧ x < a) (hm : under m a = true) (h0 : 0 < t) (ht : t < a) (h2 : under (turned m a t) a = true) : False := by
  have hin := slope_in hs
  have h3 := nle_turn m a (a - 1 - t) (t - 1) hl (by omega) (by omega)
  rw [show a - 1 - (a - 1 - t) = t by omega, if_pos (by omega), nle_all m (t - 1 + (a - 1 - t) + 1) (fun x hx => by have := hl x hx; omega)] at h3
  have h4 := under_nle hs hm (a - 1 - t) (by omega) (by omega)
  have h5 := under_nle (l := turned m a t) (by rw [turned_length]; exact hs) h2 (t - 1) (by omega) (by omega)
  rw [turned_length, show t - 1 + 1 = t by omega] at h5
  rw [show a - 1 - t + 1 = a - t by omega] at h4
  have hk0 : 0 ≤ nle m (a - 1 - t) := cnt_nonneg _ _
  have hk1 : nle m (a - 1 - t) ≤ (m.length : Int) := cnt_le _ _
  have e := no_two ⟨m.length - 1, by omega⟩ ⟨(a - 1).toNat, by omega⟩
  simp only at e
  rw [show ((m.length - 1 : Nat) : Int) + 1 = (m.length : Int) by omega, show (((a - 1).toNat : Nat) : Int) + 1 = a by omega] at e
  have e := e hs ⟨t.toNat, by omega⟩ ⟨(nle m (a - 1 - t)).toNat, by omega⟩ (by show 0 < t.toNat; omega) (by show t.toNat < (a - 1).toNat + 1; omega)
  simp only at e
  rw [show ((t.toNat : Nat) : Int) = t by omega, show (((nle m (a - 1 - t)).toNat : Nat) : Int) = nle m (a - 1 - t) by omega] at e
  refine e ?_ h4
  rw [show (m.length : Int) - nle m (a - 1 - t) = nle (turned m a t) (t - 1) by omega]
  exact h5
theorem turn_one_only {l : List Int} {a b c : Int} (hs : slope (l.length : Int) a = true) (hl : ∀ x ∈ l, 0 ≤ x ∧ x < a) (hb : 0 ≤ b ∧ b < a) (hc : 0 ≤ c ∧ c < a) (h1 : under (turned l a b) a = true) (h2 : under (turned l a c) a = true) : b = c := by
  have key : ∀ b c : Int, 0 ≤ b → b < c → c < a → under (turned l a b) a = true → under (turned l a c) a = true → False := by
    intro b c h0 hbc hca h1 h2
    have e := turned_two l a b (c - b) hl (by omega) (by omega) (by omega)
    rw [show b + (c - b) = c by omega] at e
    rw [← e] at h2
    exact turn_apart (m := turned l a b) (by rw [turned_length]; exact hs) (turned_in hl (by omega)) h1 (by omega) (by omega) h2
  rcases Int.lt_trichotomy b c with h | h | h
  · exact (key b c hb.1 h hc.2 h1 h2).elim
  · exact h
  · exact (key c b hc.1 h hb.2 h2 h1).elim
/-! ### A circle -/
def nfC (p : Int) (out : List Int) : Nat → Int → Int
  | 0, x => x
  | d + 1, x => if x ∈ out then nfC p out d (Int.tmod (x + 1) p) else x
def cdrive (p : Int) : List Int → List Int → List Int
  | out, [] => out
  | out, x :: xs => cdrive p (out ++ [nfC p out p.toNat x]) xs
theorem cdrive_length (p : Int) : ∀ (xs out : List Int), (cdrive p out xs).length = out.length + xs.length := by
  intro xs
  induction xs with
  | nil => intro out; rfl
  | cons x xs ih => intro out; rw [cdrive, ih, List.length_append, List.length_singleton, List.length_cons]; omega
theorem cdrive_pre (p : Int) : ∀ (xs out : List Int) (y : Int), y ∈ out → y ∈ cdrive p out xs := by
  intro xs
  induction xs with
  | nil => intro out y h; exact h
  | cons x xs ih => intro out y h; rw [cdrive]; exact ih _ y (List.mem_append_left _ h)
/-- The place behind f is told as 0, f as the last one. -/
def rot (p f x : Int) : Int := Int.tmod (x + (p - 1 - f)) p
theorem rot_eq {p f x : Int} (hf : 0 ≤ f ∧ f < p) (hx : 0 ≤ x ∧ x < p) : rot p f x = if x ≤ f then x + (p - 1 - f) else x - f - 1 := by
  unfold rot
  rw [turn_one hx (by omega)]
  split <;> split <;> omega
theorem nfC_path {p f : Int} (hf : 0 ≤ f ∧ f < p) (out : List Int) (ho : f ∉ out) : ∀ (d : Nat) (x : Int), 0 ≤ x ∧ x < p → p - 1 - rot p f x ≤ (d : Int) →
    nfC p out d x ∉ out ∧ (0 ≤ nfC p out d x ∧ nfC p out d x < p) ∧ rot p f x ≤ rot p f (nfC p out d x) := by
  intro d
  induction d with
  | zero =>
    intro x hx hd
    rw [nfC]
    refine ⟨?_, hx, Int.le_refl _⟩
    rw [rot_eq hf hx] at hd
    have e : x = f := by split at hd <;> omega
    rw [e]
    exact ho
  | succ d ih =>
    intro x hx hd
    rw [nfC]
    by_cases hm : x ∈ out
    · rw [if_pos hm]
      have hne : x ≠ f := fun e => ho (e ▸ hm)
      have h1 : Int.tmod (x + 1) p = if x + 1 < p then x + 1 else x + 1 - p := turn_one hx (by omega)
      have hx' : 0 ≤ Int.tmod (x + 1) p ∧ Int.tmod (x + 1) p < p := by rw [h1]; split <;> omega
      have h2 : rot p f (Int.tmod (x + 1) p) = rot p f x + 1 := by
        rw [rot_eq hf hx', rot_eq hf hx, h1]
        split <;> split <;> split <;> omega
      obtain ⟨a, b, c⟩ := ih (Int.tmod (x + 1) p) hx' (by omega)
      exact ⟨a, b, by omega⟩
    · rw [if_neg hm]
      exact ⟨hm, hx, Int.le_refl _⟩
theorem nle_app (l : List Int) (y v : Int) : nle (l ++ [y]) v = nle l v + (if y ≤ v then 1 else 0) := by
  unfold nle
  rw [cntK_append]
  congr 1
  by_cases h : y ≤ v
  · rw [if_pos h]; simp [cnt, h]
  · rw [if_neg h]; simp [cnt, h]
theorem cdrive_good {p f : Int} (hf : 0 ≤ f ∧ f < p) : ∀ (xs out : List Int), (∀ x ∈ xs, 0 ≤ x ∧ x < p) → out.Nodup → (∀ y ∈ out, 0 ≤ y ∧ y < p) → f ∉ cdrive p out xs →
    (cdrive p out xs).Nodup ∧ (∀ y ∈ cdrive p out xs, 0 ≤ y ∧ y < p) ∧ ∀ v, nle ((cdrive p out xs).map (rot p f)) v ≤ nle (out.map (rot p f)) v + nle (xs.map (rot p f)) v := by
  intro xs
  induction xs with
  | nil => intro out _ h1 h2 _; exact ⟨h1, h2, fun v => by rw [cdrive]; simp [nle, cnt]⟩
  | cons x xs ih =>
    intro out hx hn hr hm
    rw [cdrive] at hm ⊢
    have hfo : f ∉ out := fun h => hm (cdrive_pre p xs _ f (List.mem_append_left _ h))
    have hx0 := hx x List.mem_cons_self
    have hrx : 0 ≤ rot p f x := by rw [rot_eq hf hx0]; split <;> omega
    obtain ⟨a, b, c⟩ := nfC_path hf out hfo p.toNat x hx0 (by omega)
    obtain ⟨g1, g2, g3⟩ := ih (out ++ [nfC p out p.toNat x]) (fun y hy => hx y (List.mem_cons_of_mem _ hy)) (by
      rw [List.nodup_append]
      refine ⟨hn, by simp, fun u hu w hw => ?_⟩
      rw [List.mem_singleton] at hw
      subst hw
      exact fun e => a (e ▸ hu)) (fun y hy => by
      rcases List.mem_append.1 hy with h | h
      · exact hr y h
      · rw [List.mem_singleton] at h; rw [h]; exact b) hm
    refine ⟨g1, g2, fun v => ?_⟩
    have h1 := g3 v
    rw [List.map_append, List.map_cons, List.map_nil, nle_app] at h1
    rw [List.map_cons, nle_cons]
    split at h1 <;> split <;> omega
/-- The turn that a circle's free place tells is a slope parking function. -/
theorem circle_under {l : List Int} (hs : slope (l.length : Int) ((l.length : Int) + 1) = true) (hl : ∀ x ∈ l, 0 ≤ x ∧ x < (l.length : Int) + 1) {f : Int} (hf : 0 ≤ f ∧ f < (l.length : Int) + 1) (hm : f ∉ cdrive ((l.length : Int) + 1) [] l) :
    under (turned l ((l.length : Int) + 1) ((l.length : Int) - f)) ((l.length : Int) + 1) = true := by
  obtain ⟨g1, g2, g3⟩ := cdrive_good hf l [] hl List.nodup_nil (by simp) hm
  have hlen : (cdrive ((l.length : Int) + 1) [] l).length = l.length := by rw [cdrive_length]; simp
  have hmap : l.map (rot ((l.length : Int) + 1) f) = turned l ((l.length : Int) + 1) ((l.length : Int) - f) := by
    unfold turned
    refine List.map_congr_left (fun x hx => ?_)
    unfold rot
    congr 1
    omega
  have hperm : ((cdrive ((l.length : Int) + 1) [] l).map (rot ((l.length : Int) + 1) f)).Perm (iota 0 l.length) := by
    refine nodup_perm _ _ ?_ ?_ ?_
    · refine List.pairwise_map.2 ((List.Pairwise.and_mem.1 g1).imp ?_)
      intro x y hxy e
      have h1 := g2 x hxy.1
      have h2 := g2 y hxy.2.1
      rw [rot_eq hf h1, rot_eq hf h2] at e
      refine hxy.2.2 ?_
      split at e <;> split at e <;> omega
    · intro z hz
      obtain ⟨y, hy, rfl⟩ := List.mem_map.1 hz
      have h1 := g2 y hy
      have hne : y ≠ f := fun e => hm (e ▸ hy)
      rw [iota_mem, rot_eq hf h1]
      split <;> omega
    · rw [iota_length, List.length_map, hlen]
      exact Nat.le_refl _
  refine under_of (by rw [turned_length]; exact hs) (turned_in hl (by omega)) (fun v h0 hv => ?_)
  rw [turned_length]
  have h1 := g3 v
  rw [hmap, nle_perm hperm] at h1
  have h2 : nle (iota 0 l.length) v = lt (iota 0 l.length) (v + 1) := le_lt _ _
  rw [h2, lt_iota (v + 1) (by omega)] at h1
  have h3 : nle (([] : List Int).map (rot ((l.length : Int) + 1) f)) v = 0 := by simp [nle, cnt]
  rw [h3, Int.zero_add] at h1
  by_cases e : v + 1 ≤ (l.length : Int)
  · rw [if_pos e] at h1
    have h4 : ((l.length : Int) + 1) * (v + 1) ≤ ((l.length : Int) + 1) * nle (turned l ((l.length : Int) + 1) ((l.length : Int) - f)) v := Int.mul_le_mul_of_nonneg_left h1 (by omega)
    rw [Int.add_mul, Int.one_mul] at h4
    omega
  · rw [if_neg e] at h1
    have h4 : ((l.length : Int) + 1) * (l.length : Int) ≤ ((l.length : Int) + 1) * nle (turned l ((l.length : Int) + 1) ((l.length : Int) - f)) v := Int.mul_le_mul_of_nonneg_left h1 (by omega)
    rw [show v + 1 = (l.length : Int) + 1 by omega, Int.mul_comm]
    exact h4
end Go.Proofs.Ytibmphdbkhchdaa.Plain
