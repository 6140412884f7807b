/- Plain facts on lists and numbers, with no program in sight: counting up, what eventually comes, cars that drive. No condition beside what each theorem states. -/
import Derived.Test.YtgfcnfbbiaeboaaGreatHandB
namespace Go.Proofs.YtgfcnfbbiaeboaaGreat.Plain
open Go.RowKit Go.Proofs.YtgfcnfbbiaeboaaGreatW.PrintWords Go.Proofs.YtgfcnfbbiaeboaaGreatW.PrintLast Go.Proofs.YtgfcnfbbiaeboaaGreat.Hand

theorem rd_nat (l : List Int) (n : Nat) (h : n < l.length) : rd l (n : Int) = l[n] := by
  unfold rd
  rw [Int.toNat_natCast, List.getD_eq_getElem?_getD, List.getElem?_eq_getElem h]
  rfl

theorem wrap_succ (n : Nat) (h : n < 9223372036854775807) : wrap64 ((n : Int) + 1) = ((n + 1 : Nat) : Int) := by
  rw [wrap64_in _ (by omega) (by omega)]
  omega

/-- The numbers from s on. -/
def iota (s : Int) (n : Nat) : List Int := (List.range n).map fun i : Nat => s + (i : Int)
theorem iota_length (s : Int) (n : Nat) : (iota s n).length = n := by simp [iota]
theorem iota_succ (s : Int) (n : Nat) : iota s (n + 1) = iota s n ++ [s + (n : Int)] := by simp [iota, List.range_succ]
theorem iota_get (s : Int) (n i : Nat) (h : i < (iota s n).length) : (iota s n)[i] = s + (i : Int) := by simp [iota]

theorem Ev.pos {α : Type} {c : Prop} [Decidable c] {g f : Nat → Option α} {r : α} (hc : c) (h : Ev g r) : Ev (fun k => if c then g k else f k) r :=
  Ev.congr (fun _ => if_pos hc) h
theorem Ev.neg {α : Type} {c : Prop} [Decidable c] {g f : Nat → Option α} {r : α} (hc : ¬ c) (h : Ev f r) : Ev (fun k => if c then g k else f k) r :=
  Ev.congr (fun _ => if_neg hc) h
theorem Ev.const {α : Type} {g : Option α} {r : α} (h : g = some r) : Ev (fun _ => g) r := ⟨0, fun _ _ => h⟩
theorem Ev.bindc {α β : Type} {g : Option α} {f : Nat → α → Option β} {a : α} {r : β} (h : g = some a) (k : Ev (fun n => f n a) r) : Ev (fun n => g.bind (f n)) r := by
  subst h
  exact k

theorem cons_eq (x y : Int) (xs ys : List Int) : decide (x :: xs = y :: ys) = (decide (x = y) && decide (xs = ys)) := by
  simp [Bool.decide_and]
theorem mem_skip {x y : Int} (l : List Int) (h : ¬ y = x) : decide (x ∈ y :: l) = decide (x ∈ l) := by
  have h2 : ¬ x = y := fun e => h e.symm
  simp [h2]

/-! ### cars that drive -/
/-- The first place from x on that is free, or the end. -/
def nf (p : Int) (out : List Int) : Nat → Int → Int
  | 0, x => x
  | d + 1, x => if x < p ∧ x ∈ out then nf p out d (x + 1) else x
/-- What a car's place is told as. -/
def told (p y : Int) : Int := if p ≤ y then -1 else y
def sdrive (p : Int) : List Int → List Int → List Int
  | out, [] => out
  | out, x :: xs => sdrive p (out ++ [told p (nf p out (p - x).toNat x)]) xs
def idrive (p : Int) : List Int → List Int → Option (List Int)
  | out, [] => some out
  | out, x :: xs => if p ≤ nf p out (p - x).toNat x then none else idrive p (out ++ [nf p out (p - x).toNat x]) xs

theorem nf_ge (p : Int) (out : List Int) : ∀ (d : Nat) (x : Int), x ≤ nf p out d x := by
  intro d
  induction d with
  | zero => intro x; exact Int.le_refl _
  | succ d ih =>
    intro x
    unfold nf
    split
    · have := ih (x + 1); omega
    · exact Int.le_refl _
theorem sdrive_pre (p : Int) : ∀ (l out : List Int), ∃ t, sdrive p out l = out ++ t := by
  intro l
  induction l with
  | nil => intro out; exact ⟨[], by simp [sdrive]⟩
  | cons x xs ih =>
    intro out
    obtain ⟨t, ht⟩ := ih (out ++ [told p (nf p out (p - x).toNat x)])
    exact ⟨[told p (nf p out (p - x).toNat x)] ++ t, by rw [sdrive, ht, List.append_assoc]⟩
theorem sdrive_length (p : Int) : ∀ (l out : List Int), (sdrive p out l).length = out.length + l.length := by
  intro l
  induction l with
  | nil => intro out; simp [sdrive]
  | cons x xs ih =>
    intro out
    rw [sdrive, ih]
    simp
    omega
/-- Both ways of driving, where places are told as they are. -/
theorem drives (p : Int) : ∀ (l out : List Int), (∀ x ∈ l, 0 ≤ x) → (-1 : Int) ∉ out →
    idrive p out l = if (-1 : Int) ∈ sdrive p out l then none else some (sdrive p out l) := by
  intro l
  induction l with
  | nil => intro out hl ho; simp [sdrive, idrive, ho]
  | cons x xs ih =>
    intro out hl ho
    rw [sdrive, idrive]
    by_cases hy : p ≤ nf p out (p - x).toNat x
    · rw [if_pos hy]
      obtain ⟨t, ht⟩ := sdrive_pre p xs (out ++ [told p (nf p out (p - x).toNat x)])
      rw [ht, if_pos]
      unfold told
      rw [if_pos hy]
      simp
    · rw [if_neg hy]
      have h0 := nf_ge p out (p - x).toNat x
      have hx := hl x List.mem_cons_self
      have ht : told p (nf p out (p - x).toNat x) = nf p out (p - x).toNat x := by unfold told; rw [if_neg hy]
      rw [ht, ih _ (fun y hy => hl y (List.mem_cons_of_mem _ hy))]
      rw [List.mem_append, List.mem_singleton]
      rintro (h | h)
      · exact ho h
      · omega
end Go.Proofs.YtgfcnfbbiaeboaaGreat.Plain
