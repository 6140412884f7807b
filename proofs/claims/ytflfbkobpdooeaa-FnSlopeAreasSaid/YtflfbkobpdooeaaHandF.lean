/- The contract of impl.fair: the cars' numbers by their favourites, stable. Condition: at most 8 cars. -/
import Derived.Test.YtflfbkobpdooeaaHandE
import Derived.Test.YtflfbkobpdooeaaHandT
namespace Go.Proofs.Ytflfbkobpdooeaa.Hand
open Go.RowKit Go.Shelf Go.Maps Go.Sort
open Go.Proofs.YtflfbkobpdooeaaW.PrintWords Go.Proofs.YtflfbkobpdooeaaW.PrintLast
set_option linter.unusedVariables false
set_option linter.unusedSimpArgs false

def encF {n : Nat} (x : Fin n) : Value := .int .i64 (x.1 : Int)
def cfF (l : List Int) (x y : Fin l.length) : Int := wrap64 (l[x.1]'x.2 - l[y.1]'y.2)
/-- The numbers of the cars, sorted by their favourites. -/
def fairA (l : List Int) : Array Int :=
  if h : 0 < l.length then
    haveI : Inhabited (Fin l.length) := ⟨⟨0, h⟩⟩
    (Go.Sort.insertionSort (ltOf (cfF l)) (Array.ofFn fun i : Fin l.length => i) 0 l.length).map fun x => (x.1 : Int)
  else #[]
theorem insInner_size {α : Type} [Inhabited α] (lt : α → α → Bool) (a : Nat) : ∀ (j : Nat) (d : Array α), (Go.Sort.insInner lt a j d).size = d.size
  | 0, d => rfl
  | j + 1, d => by
    rw [Go.Sort.insInner]
    split
    · rw [insInner_size lt a j]
      simp [Go.Sort.swp]
    · rfl
theorem insOuter_size {α : Type} [Inhabited α] (lt : α → α → Bool) (a b : Nat) : ∀ (m i : Nat) (d : Array α), m = b - i → (Go.Sort.insOuter lt a b i d).size = d.size := by
  intro m
  induction m with
  | zero =>
    intro i d h
    rw [Go.Sort.insOuter, if_neg (by omega)]
  | succ m ih =>
    intro i d h
    rw [Go.Sort.insOuter, if_pos (by omega), ih (i + 1) _ (by omega), insInner_size]
theorem fairA_size (l : List Int) : (fairA l).size = l.length := by
  unfold fairA
  split
  · rename_i h
    letI : Inhabited (Fin l.length) := ⟨⟨0, h⟩⟩
    rw [Array.size_map]
    unfold Go.Sort.insertionSort
    rw [insOuter_size _ _ _ _ _ _ rfl, Array.size_ofFn]
  · rename_i h
    simp
    omega
theorem putCells_conv {n : Nat} [Inhabited (Fin n)] (D : Array (Fin n)) (c : Array Value) : putCells encF 0 D c = putCells encZ 0 (D.map fun x => (x.1 : Int)) c := by
  unfold putCells
  congr 1
  funext k x
  by_cases h : 0 ≤ k ∧ k < 0 + D.size
  · have hk : k - 0 < D.size := by omega
    rw [if_pos h, if_pos (by simpa using h), getElem!_pos D (k - 0) hk, getElem!_pos (D.map fun x => (x.1 : Int)) (k - 0) (by simpa using hk)]
    simp [encF]
  · rw [if_neg h, if_neg (by simpa using h)]
theorem sortWorld_conv {n : Nat} [Inhabited (Fin n)] (D : Array (Fin n)) (W : World) (blk m : Nat) (os : Array Obj) : sortWorld encF W blk 0 m D os = grow (putRow encZ (Go.Sort.ahead W m) blk 0 (D.map fun x => (x.1 : Int))) os := by
  unfold sortWorld putRow
  congr 2
  funext c
  exact putCells_conv D c

set_option maxRecDepth 100000 in
set_option maxHeartbeats 2000000 in
theorem insertion_none (sv cl : Value) (W : World) :
    Calls Try.prog 58 #[sv, .int .i64 0, .int .i64 0, cl] W fun e w' => e = .returned (.tuple #[]) ∧ w' = W := by
  go_enter Try.func58, Try.ntmps58
  go_wp2
  refine wp_loop_rounds 1 ?_
  rw [rounds_succ]
  go_wp2
  go_end0
  exact ⟨rfl, rfl⟩

set_option maxRecDepth 100000 in
set_option maxHeartbeats 2000000 in
theorem stable_any (sv cl : Value) (n : Nat) (h8 : n ≤ 8) (W : World) (R : World → Prop)
    (h : Calls Try.prog 58 #[sv, .int .i64 0, .int .i64 (n : Int), cl] W fun e w' => e = .returned (.tuple #[]) ∧ R w') :
    Calls Try.prog 52 #[sv, .int .i64 (n : Int), cl] W fun e w' => e = .returned (.tuple #[]) ∧ R w' := by
  have q1 : decide ((20 : Int) ≤ (n : Int)) = false := decide_eq_false (by omega)
  have q2 : decide ((20 : Int) < (n : Int)) = false := decide_eq_false (by omega)
  have HC := Aside0.mk h
  clear h
  go_enter Try.func52, Try.ntmps52
  go_wp2
  refine wp_loop_rounds 1 ?_
  rw [rounds_succ]
  go_wp2_with (go_at_call 58; refine HC.out.mono ?_; rintro e w' ⟨rfl, hR⟩)
  refine wp_loop_rounds 1 ?_
  rw [rounds_succ]
  go_wp2
  go_end0
  exact ⟨rfl, hR⟩

set_option maxRecDepth 100000 in
set_option maxHeartbeats 2000000 in
theorem sortStable_any (A : Option Addr) (cap : Nat) (cl : Value) (n : Nat) (h8 : n ≤ 8) (W : World) (R : World → Prop)
    (h : Calls Try.prog 58 #[.slice A n cap, .int .i64 0, .int .i64 (n : Int), cl] W fun e w' => e = .returned (.tuple #[]) ∧ R w') :
    Calls Try.prog 36 #[.slice A n cap, cl] W fun e w' => e = .returned (.tuple #[]) ∧ R w' := by
  have HC := Aside0.mk (stable_any (.slice A n cap) cl n h8 W R h)
  clear h
  go_enter Try.func36, Try.ntmps36
  go_wp2_with (go_at_call 52; refine HC.out.mono ?_; rintro e w' ⟨rfl, hR⟩)
  go_end0
  exact ⟨rfl, hR⟩

/-- The numbers of the cars, sorted by their favourites, as a list. -/
def fairL (l : List Int) : List Int := (fairA l).toList
def upN (n : Nat) : List Int := (List.range n).map fun i : Nat => (i : Int)
theorem upN_succ (n : Nat) : upN (n + 1) = upN n ++ [(n : Int)] := by simp [upN, List.range_succ]
theorem upN_length (n : Nat) : (upN n).length = n := by simp [upN]
end Go.Proofs.Ytflfbkobpdooeaa.Hand
