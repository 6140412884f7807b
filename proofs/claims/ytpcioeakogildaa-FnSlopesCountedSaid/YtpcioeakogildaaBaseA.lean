/- Plain facts on lists and numbers, with no program in sight: counting up, what eventually comes, cars that drive. No condition beside what each theorem states. -/
import Derived.Test.YtpcioeakogildaaHandB
namespace Go.Proofs.Ytpcioeakogildaa.Plain
open Go.RowKit Go.Proofs.YtpcioeakogildaaW.PrintWords Go.Proofs.YtpcioeakogildaaW.PrintLast Go.Proofs.Ytpcioeakogildaa.Hand

theorem rd_nat (l : List Int) (n : Nat) (h : n < l.length) : rd l (n : Int) = l[n] := by
  unfold rd
  rw [Int.toNat_natCast, List.getD_eq_getElem?_getD, List.getElem?_eq_getElem h]
  rfl

theorem wrap_succ (n : Nat) (h : n < 9223372036854775807) : wrap64 ((n : Int) + 1) = ((n + 1 : Nat) : Int) := by
  rw [wrap64_in _ (by omega) (by omega)]
  omega

/-- The numbers from s on. -/
def iota (s : Int) (n : Nat) : List Int := (List.range n).map fun i : Nat => s + (i : Int)
theorem Ev.pos {α : Type} {c : Prop} [Decidable c] {g f : Nat → Option α} {r : α} (hc : c) (h : Ev g r) : Ev (fun k => if c then g k else f k) r :=
  Ev.congr (fun _ => if_pos hc) h
theorem Ev.neg {α : Type} {c : Prop} [Decidable c] {g f : Nat → Option α} {r : α} (hc : ¬ c) (h : Ev f r) : Ev (fun k => if c then g k else f k) r :=
  Ev.congr (fun _ => if_neg hc) h
theorem Ev.const {α : Type} {g : Option α} {r : α} (h : g = some r) : Ev (fun _ => g) r := ⟨0, fun _ _ => h⟩
theorem Ev.bindc {α β : Type} {g : Option α} {f : Nat → α → Option β} {a : α} {r : β} (h : g = some a) (k : Ev (fun n => f n a) r) : Ev (fun n => g.bind (f n)) r := by
  subst h
  exact k

/-! ### cars that drive -/
/-- The first place from x on that is free, or the end. -/
def nf (p : Int) (out : List Int) : Nat → Int → Int
  | 0, x => x
  | d + 1, x => if x < p ∧ x ∈ out then nf p out d (x + 1) else x
/-- What a car's place is told as. -/
def told (p y : Int) : Int := if p ≤ y then -1 else y
def sdrive (p : Int) : List Int → List Int → List Int
  | out, [] => out
  | out, x :: xs => sdrive p (out ++ [told p (nf p out (p - x).toNat x)]) xs
def idrive (p : Int) : List Int → List Int → Option (List Int)
  | out, [] => some out
  | out, x :: xs => if p ≤ nf p out (p - x).toNat x then none else idrive p (out ++ [nf p out (p - x).toNat x]) xs

end Go.Proofs.Ytpcioeakogildaa.Plain
