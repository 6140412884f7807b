/- Contracts by hand of slices.Concat over rows of whole numbers, and of slices.EqualFunc over such rows at any comparison that only draws. Conditions: at most 2^40 numbers in all; the comparison tells what p tells. -/
import Derived.Test.YtdhfildgjmkgaaaHandB
import Derived.Shelf.Spec.SlicesGrow
import Derived.OwnWalk
import Derived.Deep.AppendLies
import Derived.Maps.AppendAt
import Derived.Deep.OwnRows
import Derived.Laws.MakeOwn
import Derived.Laws.OwnMore
import Derived.WalkKit
import Derived.RowKit3
namespace Go.Proofs.Ytdhfildgjmkgaaa.Hand
open Go.RowKit Go.Proofs.YtdhfildgjmkgaaaW.PrintWords Go.Proofs.YtdhfildgjmkgaaaW.PrintLast Go.Proofs.YtdhfildgjmkgaaaW.PrintMore
set_option linter.unusedVariables false
set_option linter.unusedSimpArgs false
theorem atRow {w : World} {A : Option Addr} {n : Nat} {xs : List (List Int)} (h : Kd.C (Kd.slice 3 (Kd.int .i64)) w A n xs) (i : Int) (h0 : 0 ≤ i) (h1 : i < n) : ∃ ad A0 c0, A = some ad ∧ w.cell? (ad.add i.toNat) = some (.slice A0 (xs.getD i.toNat []).length c0) ∧ (xs.getD i.toNat []).length ≤ c0 ∧ Kd.C (Kd.int .i64) w A0 (xs.getD i.toNat []).length (xs.getD i.toNat []) := by
  obtain ⟨ad, c, e, _, hK, hc0⟩ := Kd.C_get h ([] : List Int) i h0 h1
  have hc : ∀ j u, c[j]? = some u → w.cell? (ad.add (i.toNat * 1 + j)) = some u := hc0
  obtain ⟨A0, c0, rfl, l0, g0⟩ := hK
  exact ⟨ad, A0, c0, e, by have hq := hc 0 _ rfl; rwa [Nat.mul_one, Nat.add_zero] at hq, l0, g0⟩
/-! ### slices.EqualFunc -/
/-- Row by row, by p. -/
def eqRows (p : List Int → List Int → Option Bool) : List (List Int) → List (List Int) → Option Bool
  | x :: xs, y :: ys => (p x y).bind fun t => if t = true then eqRows p xs ys else some false
  | _, _ => some true
theorem eqRows_mono (p q : List Int → List Int → Option Bool) (h : ∀ x y, LeO (p x y) (q x y)) : ∀ l0 l1, LeO (eqRows p l0 l1) (eqRows q l0 l1)
  | [], _ => by simp only [eqRows]; exact LeO.refl _
  | _ :: _, [] => by simp only [eqRows]; exact LeO.refl _
  | x :: xs, y :: ys => by
    rw [eqRows, eqRows]
    exact LeO.bind (h x y) (fun t => LeO.ite (eqRows_mono p q h xs ys) (LeO.refl _))
/-- What a comparison is asked, in every world. -/
def TellsRows (g : Nat) (lb : Array Value) (p : List Int → List Int → Option Bool) : Prop :=
  ∀ (A0 : Option Addr) (c0 : Nat) (l0 : List Int) (A1 : Option Addr) (c1 : Nat) (l1 : List Int) (r : Bool) (V : World), Kd.C (Kd.int .i64) V A0 l0.length l0 → l0.length ≤ c0 → Kd.C (Kd.int .i64) V A1 l1.length l1 → l1.length ≤ c1 → p l0 l1 = some r →
    Calls Try.prog g (#[.slice A0 l0.length c0, .slice A1 l1.length c1] ++ lb) V fun e w' => e = .returned (.bool r) ∧ Drawn0 V w'
set_option maxRecDepth 100000 in
set_option maxHeartbeats 4000000 in
theorem equalFunc_any (p : List Int → List Int → Option Bool) (g : Nat) (lb : Array Value) (eg : ∀ args w, (callFunc g args).run Try.prog w = .ok (.enter g args) w)
    (A0 : Option Addr) (c0 : Nat) (l0 : List (List Int)) (A1 : Option Addr) (c1 : Nat) (l1 : List (List Int)) (r : Bool) (w : World) (hr0 : Kd.C (Kd.slice 3 (Kd.int .i64)) w A0 l0.length l0) (hr1 : Kd.C (Kd.slice 3 (Kd.int .i64)) w A1 l1.length l1)
    (hl : l0.length = l1.length) (hs : l0.length ≤ 1099511627776) (hp : TellsRows g lb p) (h : eqRows p l0 l1 = some r) :
    Calls Try.prog 23 #[.slice A0 l0.length c0, .slice A1 l1.length c1, .func (.func g) #[] lb] w fun e w' => e = .returned (.bool r) ∧ Drawn0 w w' := by
  have HR0 := Aside0.mk hr0
  have HR1 := Aside0.mk hr1
  have HP := Aside0.mk hp
  have HS := Aside0.mk hs
  have HL := Aside0.mk hl
  have HA := Aside0.mk (show eqRows p (l0.drop 0) (l1.drop 0) = some r from h)
  have n1 : ((l0.length : Int) != (l1.length : Int)) = false := by rw [hl]; simp
  have n2 : (l0.length != l1.length) = false := by rw [hl]; simp
  clear hr0 hr1 hp hs h hl
  go_enter Try.func23, Try.ntmps23
  go_wp2
  go_loopg [17] l0.length (fun kq v17 w' => ∃ (i : Nat) (iz : Int), v17 = .int .i64 iz ∧ Aside0 (iz = (i : Int)) ∧ Aside0 (i + kq = l0.length) ∧ Aside0 (eqRows p (l0.drop i) (l1.drop i) = some r) ∧ Drawn0 w w')
  case atStart => exact ⟨0, 0, rfl, ⟨rfl⟩, ⟨by omega⟩, HA, Drawn0.refl _⟩
  case round =>
    clear HA
    obtain ⟨i, iz, rfl, NI, NK, HA, ⟨m, rfl⟩⟩ := hrel
    cases gk with
    | zero =>
      have hi : i = l0.length := by have := NK.out; omega
      subst hi
      have q1 : decide (iz < (l0.length : Int)) = false := decide_eq_false (by have := NI.out; omega)
      have e := HA.out
      rw [List.drop_eq_nil_of_le (Nat.le_refl _)] at e
      have hr : true = r := by simpa [eqRows] using e
      clear e
      subst hr
      go_wp2
      go_ret
      exact ⟨rfl, by repeat (first | exact Drawn0.refl _ | apply Drawn0.step)⟩
    | succ d =>
      have hi0 : 0 ≤ iz := by have := NI.out; omega
      have hin : iz < (l0.length : Int) := by have := NI.out; have := NK.out; omega
      have hin1 : iz < (l1.length : Int) := by have := HL.out; omega
      have hiz : iz.toNat = i := by have := NI.out; omega
      have hlt0 : i < l0.length := by have := NK.out; omega
      have hlt1 : i < l1.length := by have := HL.out; omega
      have g0 : l0.getD iz.toNat [] = l0[i] := by rw [hiz, List.getD_eq_getElem?_getD, List.getElem?_eq_getElem hlt0]; rfl
      have g1 : l1.getD iz.toNat [] = l1[i] := by rw [hiz, List.getD_eq_getElem?_getD, List.getElem?_eq_getElem hlt1]; rfl
      have q1 : decide (iz < (l0.length : Int)) = true := decide_eq_true hin
      obtain ⟨ad0, B0, b0, e0, hx0, hl0, hi0c⟩ := atRow HR0.out iz hi0 hin
      obtain ⟨ad1, B1, b1, e1, hx1, hl1, hi1c⟩ := atRow HR1.out iz hi0 hin1
      cases e0
      cases e1
      rw [g0] at hx0 hl0 hi0c
      rw [g1] at hx1 hl1 hi1c
      have eA := HA.out
      rw [List.drop_eq_getElem_cons hlt0, List.drop_eq_getElem_cons hlt1, eqRows] at eA
      obtain ⟨t, ht, e⟩ := Option.bind_eq_some_iff.mp eA
      clear eA
      have HE := Aside0.mk e
      clear HA e
      generalize l0[i] = x0 at hx0 hl0 hi0c ht
      generalize l1[i] = x1 at hx1 hl1 hi1c ht
      have hcall := HP.out B0 b0 x0 B1 b1 x1 t (w.drewN m) (Kd.C_drewN hi0c _) hl0 (Kd.C_drewN hi1c _) hl1 ht
      have HN := Aside0.mk hin
      clear hi0c hi1c hl0 hl1 ht g0 g1 hiz hlt0 hlt1
      have p0 := eq_true hi0
      have p1 := eq_true hin
      have p2 := eq_true hin1
      clear hi0 hin hin1
      cases t with
      | true =>
        have H2 := Aside0.mk (show eqRows p (l0.drop (i + 1)) (l1.drop (i + 1)) = some r by have := HE.out; rwa [if_pos rfl] at this)
        clear HE
        go_wp2_with (go_at_fn g; refine hcall.mono ?_; rintro e w' ⟨rfl, ⟨nd, rfl⟩⟩)
        go_roundg d
        case measure => omega
        case rel => exact ⟨i + 1, _, rfl, ⟨by have := NK.out; have := NI.out; have := HS.out; rw [wrap64_in _ (by omega) (by omega)]; omega⟩, ⟨by have := NK.out; omega⟩, H2, by repeat (first | exact Drawn0.refl _ | apply Drawn0.step)⟩
      | false =>
        have hr : false = r := by have := HE.out; rw [if_neg (by decide)] at this; exact Option.some.inj this
        clear HE
        subst hr
        go_wp2_with (go_at_fn g; refine hcall.mono ?_; rintro e w' ⟨rfl, ⟨nd, rfl⟩⟩)
        go_ret
        exact ⟨rfl, by repeat (first | exact Drawn0.refl _ | apply Drawn0.step)⟩
set_option maxRecDepth 100000 in
set_option maxHeartbeats 4000000 in
theorem equalFunc_ne (g : Nat) (lb : Array Value) (A0 : Option Addr) (c0 : Nat) (l0 : List (List Int)) (A1 : Option Addr) (c1 : Nat) (l1 : List (List Int)) (w : World) (hl : ¬ l0.length = l1.length) :
    Calls Try.prog 23 #[.slice A0 l0.length c0, .slice A1 l1.length c1, .func (.func g) #[] lb] w fun e w' => e = .returned (.bool false) ∧ Drawn0 w w' := by
  have n1 : ((l0.length : Int) != (l1.length : Int)) = true := by rw [bne_iff_ne]; omega
  have n2 : (l0.length != l1.length) = true := by rw [bne_iff_ne]; exact hl
  clear hl
  go_enter Try.func23, Try.ntmps23
  go_wp2
  go_ret
  exact ⟨rfl, Drawn0.refl _⟩
/-! ### slices.Grow at a nil slice, slices.Concat -/
def growRen : Go.Shelf.Ren := ⟨fun | 4 => 28 | n => n, fun | 22 => 24 | 25 => 3 | 3 => 3 | 4 => 4 | n => n, fun | n => n⟩
theorem growLay : Go.Proofs.Lays8.n4 Try.prog growRen := {
  mixed := by kernel_rfl
  f4 := ⟨Try.f28.name, by decide, Try.func28.trans (congrArg some (by kernel_rfl))⟩
  t0 := Try.underlying0
  a0 := Try.isAgg0
  z0 := Try.sizeOf0
  v0 := Try.zeroValue0
  t3 := Try.underlying3
  a3 := Try.isAgg3
  z3 := Try.sizeOf3
  v3 := Try.zeroValue3
  t4 := Try.underlying4
  a4 := Try.isAgg4
  z4 := Try.sizeOf4
  v4 := Try.zeroValue4
  t9 := Try.underlying9
  a9 := Try.isAgg9
  z9 := Try.sizeOf9
  v9 := Try.zeroValue9
  t20 := Try.underlying20
  a20 := Try.isAgg20
  z20 := Try.sizeOf20
  v20 := Try.zeroValue20
  t22 := Try.underlying24
  a22 := Try.isAgg24
  z22 := Try.sizeOf24
  v22 := Try.zeroValue24 }
theorem zeros_size (n : Nat) : (Builtin.zeroCells (Value.int .i64 0).cells n).size = n := by simp [Builtin.zeroCells, Value.cells]
theorem grow_nil (n : Nat) (hn : n ≤ 1099511627776) (w : World) : Calls Try.prog 28 #[.slice none 0 0, .int .i64 (n : Int)] w fun e w' => ∃ v : Value, e = .returned v ∧ Kd.R (Kd.int .i64) 3 w' w.heap.size (fun _ => True) v [] ∧ Below w.heap.size w w' := by
  by_cases h0 : n = 0
  · subst h0
    refine (Go.Proofs.Any8.slices_Grow_room growLay none 0 0 0 w (by decide) (by decide) (by decide) (by decide)).mono ?_
    rintro e w' ⟨rfl, rfl⟩
    exact ⟨_, rfl, Kd.R_nil _ _ _ _ _, Below.refl _ _⟩
  · obtain ⟨i0, hi0, hz0, hs0, hb0⟩ : ∃ i0 : TypeInfo, Try.prog.info? 3 = some i0 ∧ i0.zero = some (.int .i64 0) ∧ i0.size = 1 ∧ i0.bytes = 8 := by
      have := info_int
      rw [Option.map_eq_some_iff] at this
      obtain ⟨i0, h1, h2⟩ := this
      injection h2 with h2 h3
      injection h3 with h3 h4
      exact ⟨i0, h1, h2, h3, h4⟩
    refine (Go.Proofs.Any8.slices_Grow_grow growLay i0 (.int .i64 0) hi0 hz0 (by omega) none 0 0 n [] w (by decide) (by omega) (by rw [hb0]; omega) (by omega) (by simp) (fun _ => rfl) (fun a h => by cases h)).mono ?_
    rintro e w' ⟨rfl, rfl⟩
    refine ⟨_, rfl, ?_, below_alloc (Below.drew (Below.refl _ _)) _⟩
    have hge := grownCap_ge w (0 + n) 0 3
    have hle := grownCap_le_maxLen w (0 + n) 0 3 (by unfold maxLen; omega)
    refine Kd.R_of_own ⟨by simp [encs], .inr ⟨w.heap.size, grownCap w (0 + n) 0 3, _, rfl, Nat.le_refl _, blk_new w.drew _, Nat.zero_le _, hle, ?_, by simp [encs]⟩⟩ (fun _ _ => trivial)
    show ((#[] : Array Value) ++ Builtin.zeroCells (Value.int .i64 0).cells (0 + n - 0) ++ Builtin.zeroCells (Value.int .i64 0).cells (grownCap w (0 + n) 0 3 - (0 + n))).size = _
    rw [Array.size_append, Array.size_append, zeros_size, zeros_size, Nat.mul_one]
    show 0 + (0 + n - 0) + (grownCap w (0 + n) 0 3 - (0 + n)) = grownCap w (0 + n) 0 3
    generalize grownCap w (0 + n) 0 3 = g at hge hle
    omega
def slices_Concat_int_int.f (l0 : List (List Int)) : Option (List Int) := if l0.length ≤ 1099511627776 then (if l0.flatten.length ≤ 1099511627776 then some l0.flatten else none) else none
theorem flat_take (l : List (List Int)) (i : Nat) (h : i < l.length) : (l.take (i + 1)).flatten = (l.take i).flatten ++ l[i] := by
  rw [List.take_succ_eq_append_getElem h, List.flatten_append]
  simp
theorem flat_le (l : List (List Int)) (i : Nat) : (l.take i).flatten.length ≤ l.flatten.length := by
  have : l.flatten = (l.take i).flatten ++ (l.drop i).flatten := by rw [← List.flatten_append, List.take_append_drop]
  rw [this, List.length_append]
  omega
set_option maxRecDepth 100000 in
set_option maxHeartbeats 4000000 in
theorem slices_Concat_int_int.calls (A0 : Option Addr) (c0 : Nat) (l0 : List (List Int)) (r : List Int) (w : World) (hr0 : Kd.C (Kd.slice 3 (Kd.int .i64)) w A0 l0.length l0) (hc0 : l0.length ≤ c0) (h : slices_Concat_int_int.f l0 = some r) :
    Calls Try.prog 20 #[.slice A0 l0.length c0] w fun e w' => ∃ v : Value, e = .returned v ∧ Kd.R (Kd.int .i64) 3 w' w.heap.size (fun _ => True) v r ∧ Below w.heap.size w w' := by
  have HR0 := Aside0.mk hr0
  unfold slices_Concat_int_int.f at h
  split at h
  case isFalse => cases h
  case isTrue hs1 =>
  split at h
  case isFalse => cases h
  case isTrue hs2 =>
  obtain rfl := Option.some.inj h
  have HS1 := Aside0.mk hs1
  have HS2 := Aside0.mk hs2
  clear hr0 hc0 h hs1 hs2
  go_enter Try.func20, Try.ntmps20
  go_wp2
  go_loopg [3, 11] l0.length (fun kq v3 v11 w' => ∃ (i : Nat) (iz sz : Int), v3 = .int .i64 sz ∧ v11 = .int .i64 iz ∧ Aside0 (iz = (i : Int)) ∧ Aside0 (i + kq = l0.length) ∧ Aside0 (sz = ((l0.take i).flatten.length : Int)) ∧ Drawn0 w w')
  case atStart => exact ⟨0, 0, 0, rfl, rfl, ⟨rfl⟩, ⟨by omega⟩, ⟨by simp⟩, Drawn0.refl _⟩
  case round =>
    obtain ⟨i, iz, sz, rfl, rfl, NI, NK, NS, ⟨m, rfl⟩⟩ := hrel
    cases gk with
    | zero =>
      have hi : i = l0.length := by have := NK.out; omega
      subst hi
      have q1 : decide (iz < (l0.length : Int)) = false := decide_eq_false (by have := NI.out; omega)
      have hsz := NS.out
      rw [List.take_length] at hsz
      obtain ⟨n, hn⟩ : ∃ n : Nat, n = l0.flatten.length := ⟨_, rfl⟩
      rw [← hn] at hsz
      have HN := Aside0.mk (show n ≤ 1099511627776 by rw [hn]; exact HS2.out)
      subst hsz
      clear NS hn
      have HB0 := Aside0.mk (pw_below_drewN (Below.refl w.heap.size w) m)
      go_wp2_with (go_at_call 28; (with_reducible refine (grow_nil n HN.out _).mono ?_); rintro e w2 ⟨v2, rfl, ho2, hb2⟩; have HO := Aside0.mk (Kd.R_lower ho2 HB0.out.size); have HB := Aside0.mk (below_step HB0.out hb2); clear ho2 hb2)
      go_loopg [6, 27] l0.length (fun kq v6 v27 w' => ∃ (i : Nat) (iz : Int), v27 = .int .i64 iz ∧ Aside0 (iz = (i : Int)) ∧ Aside0 (i + kq = l0.length) ∧ Aside0 (Kd.R (Kd.int .i64) 3 w' w.heap.size (fun _ => True) v6 (l0.take i).flatten) ∧ Aside0 (Below w.heap.size w w'))
      case atStart => exact ⟨0, 0, rfl, ⟨rfl⟩, ⟨by omega⟩, ⟨by rw [List.take_zero, List.flatten_nil]; exact HO.out⟩, HB⟩
      case round =>
        clear HO HB HB0 q1 NI NK
        obtain ⟨i, iz, rfl, NI, NK, HO, HB⟩ := hrel
        cases gk with
        | zero =>
          have hi : i = l0.length := by have := NK.out; omega
          subst hi
          have q1 : decide (iz < (l0.length : Int)) = false := decide_eq_false (by have := NI.out; omega)
          have HO2 := HO.out
          rw [List.take_length] at HO2
          have HO := Aside0.mk HO2
          clear HO2
          go_wp2
          go_ret
          exact ⟨_, rfl, HO.out, HB.out⟩
        | succ d =>
          have hi0 : 0 ≤ iz := by have := NI.out; omega
          have hin : iz < (l0.length : Int) := by have := NI.out; have := NK.out; omega
          have hiz : iz.toNat = i := by have := NI.out; omega
          have hlt0 : i < l0.length := by have := NK.out; omega
          have g0 : l0.getD iz.toNat [] = l0[i] := by rw [hiz, List.getD_eq_getElem?_getD, List.getElem?_eq_getElem hlt0]; rfl
          have q1 : decide (iz < (l0.length : Int)) = true := decide_eq_true hin
          obtain ⟨ad0, B0, b0, e0, hx0, hl0, hi0c⟩ := atRow (Kd.C_below HR0.out HB.out) iz hi0 hin
          cases e0
          have hft := flat_take l0 i hlt0
          have hfl := flat_le l0 (i + 1)
          rw [hft, List.length_append] at hfl
          rw [g0] at hx0 hl0 hi0c
          generalize l0[i] = x0 at hx0 hl0 hi0c hft hfl
          have HX := Aside0.mk hi0c
          have HF := Aside0.mk hft
          have HM := Aside0.mk hfl
          clear hi0c hl0 hft hfl g0 hiz hlt0
          have p0 := eq_true hi0
          have p1 := eq_true hin
          clear hi0 hin
          go_wp2_with ((with_reducible refine gate_builtin (b := .append) (xs := #[.tmp 31, .tmp 32]) rfl ?_); at_builtin; refine Kd.R_append_rows (Kd.int .i64) (w0 := w) w.heap.size rfl (.tmp 31) (.tmp 32) 24 3 (.int .i64 0) 8 rfl Try.underlying24 info_int rfl (by decide) (by omega) u6 (l0.take i).flatten x0 _ _ _ (fun _ => True) (fun _ => False) rfl rfl ?aO ?aR (fun _ _ h => h) (fun _ h => h.elim) ?aF ?aB ?aS ?aL ?_; (case aR => exact HX.out); (case aB => exact HB.out); (case aF => exact (fun _ _ => trivial)); (case aO => exact HO.out); (case aS => exact below_size HB.out); (case aL => have := HM.out; have := HS2.out; omega); intro v179 w8 ho hb hg hat; have n0_ := Aside0.mk hb; have n1_ := Aside0.mk ho; clear HB HO; have HB := n0_; have HO := n1_; clear n0_ n1_; clear ho hb hg hat)
          go_roundg d
          case measure => omega
          case rel => exact ⟨i + 1, _, rfl, ⟨by have := NK.out; have := NI.out; have := HS1.out; rw [wrap64_in _ (by omega) (by omega)]; omega⟩, ⟨by have := NK.out; omega⟩, ⟨by rw [HF.out]; exact HO.out⟩, HB⟩
    | succ d =>
      have hi0 : 0 ≤ iz := by have := NI.out; omega
      have hin : iz < (l0.length : Int) := by have := NI.out; have := NK.out; omega
      have hiz : iz.toNat = i := by have := NI.out; omega
      have hlt0 : i < l0.length := by have := NK.out; omega
      have g0 : l0.getD iz.toNat [] = l0[i] := by rw [hiz, List.getD_eq_getElem?_getD, List.getElem?_eq_getElem hlt0]; rfl
      have q1 : decide (iz < (l0.length : Int)) = true := decide_eq_true hin
      obtain ⟨ad0, B0, b0, e0, hx0, hl0, hi0c⟩ := atRow HR0.out iz hi0 hin
      cases e0
      have hft := flat_take l0 i hlt0
      have hfl := flat_le l0 (i + 1)
      rw [hft, List.length_append] at hfl
      rw [g0] at hx0 hl0 hi0c
      generalize l0[i] = x0 at hx0 hl0 hi0c hft hfl
      have hw : wrap64 (sz + (x0.length : Int)) = sz + (x0.length : Int) := wrap64_in _ (by have := NS.out; omega) (by have := NS.out; have := HS2.out; omega)
      have q2 : decide (sz + (x0.length : Int) < 0) = false := decide_eq_false (by have := NS.out; omega)
      have HF := Aside0.mk hft
      clear hi0c hl0 hft hfl g0 hiz hlt0
      have p0 := eq_true hi0
      have p1 := eq_true hin
      clear hi0 hin
      go_wp2
      go_roundg d
      case measure => omega
      case rel => exact ⟨i + 1, _, _, rfl, rfl, ⟨by have := NK.out; have := NI.out; have := HS1.out; rw [wrap64_in _ (by omega) (by omega)]; omega⟩, ⟨by have := NK.out; omega⟩, ⟨by rw [HF.out, List.length_append]; have := NS.out; omega⟩, by repeat (first | exact Drawn0.refl _ | apply Drawn0.step)⟩
end Go.Proofs.Ytdhfildgjmkgaaa.Hand
