/- The reference's texts of lists and tables, walked. Conditions: lists of at most 10000 numbers from 0 on; tables. -/
import Derived.Test.YtjdlhefjgceabaaGreatDoorPm
import Derived.Test.YtjdlhefjgceabaaGreatDoorPl
import Derived.Test.YtjdlhefjgceabaaGreatDoorPAllA
import Derived.Test.YtjdlhefjgceabaaGreatDoorDa
import Derived.Test.YtjdlhefjgceabaaGreatDoorHm
import Derived.BigRegion
import Derived.Test.YtjdlhefjgceabaaGreatDoorPAllC
import Derived.Test.YtjdlhefjgceabaaGreatDoorPAllE
import Derived.Test.YtjdlhefjgceabaaGreatDoorCc
import Derived.Test.YtjdlhefjgceabaaGreatDoorPAllD
import Derived.Test.YtjdlhefjgceabaaGreatDoorPAllB
import Derived.Test.YtjdlhefjgceabaaGreatDoorBs
namespace Go.Proofs.YtjdlhefjgceabaaGreatDoor.Hand
open Go.RowKit Go.Proofs.YtjdlhefjgceabaaGreatDoorW.PrintWords Go.Proofs.YtjdlhefjgceabaaGreatDoorW.PrintLast Go.Proofs.YtjdlhefjgceabaaGreatDoorW.PrintMore Go.Proofs.YtjdlhefjgceabaaGreatDoor.PAll
set_option linter.unusedVariables false
set_option linter.unusedSimpArgs false
set_option maxRecDepth 100000
set_option maxHeartbeats 4000000
theorem num_any (n : Int) (w : World) (h0 : 0 <= n) (h : I64 n) : Calls Tryz.prog 86 #[.int .i64 n] w (GotS (itoaB n) w) := by
 obtain ⟨k, hk⟩ := Plain.numI_ev n h0 h;exact spec_l1Num.calls k n _ w (hk k (Nat.le_refl _))
theorem bapp (a b : List UInt8) : (⟨(a ++ b).toArray⟩ : ByteArray) = ⟨a.toArray⟩ ++ ⟨b.toArray⟩ := by
 apply ByteArray.ext;simp
theorem joinB_nil (sep : ByteArray) : joinB [] sep = ⟨#[]⟩ := rfl
theorem joinB_one (p sep : ByteArray) : joinB [p] sep = ⟨#[]⟩ ++ p := by
 unfold joinB;rw [List.map_singleton, Lib.join_one, Array.toArray_toList];apply ByteArray.ext;simp
theorem joinB_snoc (xs : List ByteArray) (p sep : ByteArray) (h : xs ≠ []) : joinB (xs ++ [p]) sep = joinB xs sep ++ sep ++ p := by
 cases xs with
 | nil => exact absurd rfl h
 | cons x r =>
  unfold joinB;rw [List.cons_append, List.map_cons, List.map_cons, Lib.join_cons, Lib.join_cons, List.map_append, List.map_singleton]
  have e : Lib.joinTail sep.data.toList (r.map (·.data.toList) ++ [p.data.toList]) = Lib.joinTail sep.data.toList (r.map (·.data.toList)) ++ (sep.data.toList ++ p.data.toList) := by
   unfold Lib.joinTail;rw [List.map_append, List.map_singleton, List.flatten_append];simp
  rw [e, <- List.append_assoc, <- List.append_assoc, bapp, bapp, Array.toArray_toList, Array.toArray_toList]
theorem joinB_le (m : Nat) (sep : ByteArray) (hs : sep.size <= 1) (xs : List ByteArray) (h : ∀ x ∈ xs, x.size <= m) : (joinB xs sep).size <= xs.length * (m + 1) := by
 have e : ∀ y : ByteArray, y.data.toList.length = y.size := fun y => Array.length_toList
 have := join_le sep.data.toList m (by rw [e]; exact hs) (xs.map (·.data.toList)) (fun x hx => by
  obtain ⟨y, hy, rfl⟩ := List.mem_map.1 hx;have := h y hy;rw [e]
  exact this)
 rw [List.length_map] at this;show (Lib.join (xs.map (·.data.toList)) sep.data.toList).toArray.size <= _;rw [List.size_toArray];exact this
theorem itoa_size {n : Int} (h : I64 n) : (itoaB n).size <= 20 := by
 have := itoa_length n h;simpa [itoaB, ByteArray.size] using this
theorem itoa_pos (n : Int) : 0 < (itoaB n).size := by
 have := itoa_ne n;have h := List.length_pos_iff.2 this;simpa [itoaB, ByteArray.size] using h
def soFar (f : Int -> ByteArray) (sep : ByteArray) (l : List Int) (i : Nat) : ByteArray := joinB ((l.take i).map f) sep
theorem soFar_first (f : Int -> ByteArray) (sep : ByteArray) (l : List Int) (h : 0 < l.length) : soFar f sep l 1 = soFar f sep l 0 ++ f (rd l 0) := by
 unfold soFar;rw [show (1 : Nat) = 0 + 1 from rfl, List.take_succ_eq_append_getElem h, List.take_zero, List.nil_append, List.map_singleton, joinB_one, List.map_nil, joinB_nil, <- rd_at l 0 h];rfl
theorem soFar_next (f : Int -> ByteArray) (sep : ByteArray) (l : List Int) (i : Nat) (h0 : 0 < i) (h : i < l.length) : soFar f sep l (i + 1) = soFar f sep l i ++ sep ++ f (rd l (i : Int)) := by
 unfold soFar;rw [List.take_succ_eq_append_getElem h, List.map_append, List.map_singleton, joinB_snoc _ _ _ (fun e => by have := congrArg List.length e; rw [List.length_map, List.length_take, List.length_nil] at this; omega), rd_at l i h]
theorem soFar_le (f : Int -> ByteArray) (sep : ByteArray) (l : List Int) (i : Nat) (hs : sep.size <= 1) (hl : l.length <= 10000) (h : ∀ x ∈ l, (f x).size <= 20) : (soFar f sep l i).size <= 210000 := by
 have h1 := joinB_le 20 sep hs ((l.take i).map f) (fun y hy => by
  obtain ⟨x, hx, rfl⟩ := List.mem_map.1 hy
  exact h x (List.mem_of_mem_take hx))
 rw [List.length_map, List.length_take] at h1;unfold soFar;omega
theorem dash_eq (l : List Int) : dashB l = if (soFar itoaB ⟨#[44]⟩ l l.length).toList = [] then ⟨#[45]⟩ else soFar itoaB ⟨#[44]⟩ l l.length := by
 by_cases h0 : l = []
 ·
  subst h0;rw [if_pos (ba_nil rfl)];rfl
 ·
  have e : soFar itoaB ⟨#[44]⟩ l l.length = numsB l ⟨#[44]⟩ := by
   unfold soFar numsB;rw [List.take_length]
  unfold dashB;rw [if_neg h0, e, if_neg];intro h;have e2 := ba_nil' h
  cases l with
  | nil => exact h0 rfl
  | cons x r =>
   have h3 : (numsB (x :: r) ⟨#[44]⟩).size = ((itoaB x).data.toList ++ Lib.joinTail [44] ((r.map itoaB).map (·.data.toList))).length := by
    unfold numsB joinB;rw [List.map_cons, List.map_cons, Lib.join_cons];rfl
   rw [h3, List.length_append] at e2;have h4 := itoa_pos x;have h5 : (itoaB x).data.toList.length = (itoaB x).size := Array.length_toList;omega
theorem text_spec (A0 : Option Addr) (c0 : Nat) (l : List Int) (w : World) (hL : Lst w A0 c0 l) (hf : Few l) (hp : ∀ x ∈ l, 0 <= x) :
  Calls Tryz.prog 89 #[.slice A0 l.length c0] w (GotS (dashB l) w) := by
 have HL : Aside0 (l.length <= 10000) := ⟨hf.1⟩
 have HN := am_ fun x hx => (⟨hp x hx, hf.2 x hx⟩ : 0 <= x /\ I64 x)
 have HR0 := am_ hL;have HS := am_ fun i => soFar_le itoaB ⟨#[44]⟩ l i (by decide) hf.1 (fun x hx => itoa_size (hf.2 x hx));have HB := am_ (Below.refl w.heap.size w);clear hL hf hp;go_enter Tryz.func89, Tryz.ntmps89;go_wp2
 go_loopg [3, 8] l.length (fun kq v3 v8 w' => ∃ (i : Nat) (iz : Int) (J : ByteArray), v8 = .int .i64 iz /\ v3 = .string J /\ Aside0 (iz = (i : Int)) /\ Aside0 (i + kq = l.length) /\ Aside0 (J = soFar itoaB ⟨#[44]⟩ l i) /\ Aside0 (Below w.heap.size w w'))
 case atStart => exact ⟨0, 0, _, rfl, rfl, ⟨rfl⟩, ⟨by omega⟩, ⟨rfl⟩, HB⟩
 case round =>
  clear HB;obtain ⟨i, iz, J, rfl, rfl, NI, NK, HJ, HB⟩ := hrel
  cases gk with
  | zero =>
   have hi : i = l.length := by have := NK.out; omega
   subst hi;have q1 : decide (iz < (l.length : Int)) = false := decide_eq_false (by have := NI.out; omega);have hd := dash_eq l;rw [<- HJ.out] at hd
   by_cases hz : J.toList = []
   ·
    have q2 : J.toList.isEmpty = true := by rw [hz]; rfl
    rw [if_pos hz] at hd;have HD := am_ hd;clear hz hd;go_wp2;go_ret;exact ⟨by rw [HD.out]; rfl, HB.out⟩
   ·
    have q2 : J.toList.isEmpty = false := by cases hq : J.toList with
     | nil => exact absurd hq hz
     | cons a r => rfl
    rw [if_neg hz] at hd;have HD := am_ hd;clear hz hd;go_wp2;go_ret;exact ⟨by rw [HD.out]; rfl, HB.out⟩
  | succ d =>
   have hi0 : 0 <= iz := by have := NI.out; omega
   have hin : iz < (l.length : Int) := by have := NI.out; have := NK.out; omega
   have q1 : decide (iz < (l.length : Int)) = true := decide_eq_true hin;obtain ⟨ad0, e0, hx⟩ := Kd.at_int (Kd.C_below HR0.out.1 HB.out) iz hi0 hin;cases e0
   have hi1 : i < l.length := by have := NK.out; omega
   have HX := am_ (HN.out (rd l iz) (by rw [NI.out, rd_at l i hi1]; exact List.getElem_mem _));have HI := am_ (show wrap64 (iz + 1) = ((i + 1 : Nat) : Int) by rw [NI.out]; have := NK.out; have := HL.out; rw [wrap64_in _ (by omega) (by omega)]; omega)
   obtain ⟨x, hxx⟩ : ∃ x, x = rd l iz := ⟨_, rfl⟩
   have HC := am_ fun W => num_any x W (by rw [hxx]; exact HX.out.1) (by rw [hxx]; exact HX.out.2)
   obtain ⟨p, hpp⟩ : ∃ p, p = itoaB x := ⟨_, rfl⟩
   have hps : p.size <= 20 := by rw [hpp, hxx]; exact itoa_size HX.out.2
   have hJs : J.size <= 210000 := by rw [HJ.out]; exact HS.out i
   rw [<- hpp] at HC
   have HE := am_ (show soFar itoaB ⟨#[44]⟩ l (i + 1) = if i = 0 then J ++ p else J ++ ⟨#[44]⟩ ++ p by
    rw [HJ.out, hpp, hxx, NI.out]
    split
    · rename_i h; subst h; exact soFar_first _ _ _ hi1
    · exact soFar_next _ _ _ _ (by omega) hi1)
   rw [<- hxx] at hx;clear hxx hpp;replace hi0 := eq_true hi0;replace hin := eq_true hin
   by_cases hz : i = 0
   ·
    have q3 : decide (iz > 0) = false := decide_eq_false (by have := NI.out; omega);have q5 : (9223372036854775807 < J.size + p.size) = False := eq_false (by omega);have q6 : (J.size + p.size <= 9223372036854775807) = True := eq_true (by omega);rw [if_pos hz] at HE;clear hps hJs hi1 hz
    go_wp2_with (go_at_call 86; go_loud (refine (HC.out _).mono ?_; rintro e w1 ⟨rfl, hb⟩; have HB1 := am_ (below_step (show Below w.heap.size w _ from bw_) hb); clear HB hb; have HB := HB1; clear HB1))
    go_roundg d
    case measure => omega
    case rel => exact ⟨i + 1, _, _, rfl, rfl, HI, ⟨by have := NK.out; omega⟩, ⟨HE.out.symm⟩, ⟨bw_⟩⟩
   ·
    have q3 : decide (iz > 0) = true := decide_eq_true (by have := NI.out; omega);have q5 : (9223372036854775807 < J.size + 1) = False := eq_false (by omega);have q6 : (9223372036854775807 < J.size + 1 + p.size) = False := eq_false (by omega);have q7 : (J.size + 1 <= 9223372036854775807) = True := eq_true (by omega);have q8 : (J.size + 1 + p.size <= 9223372036854775807) = True := eq_true (by omega);rw [if_neg hz] at HE;clear hps hJs hi1 hz
    go_wp2_with (go_at_call 86; go_loud (refine (HC.out _).mono ?_; rintro e w1 ⟨rfl, hb⟩; have HB1 := am_ (below_step (show Below w.heap.size w _ from bw_) hb); clear HB hb; have HB := HB1; clear HB1))
    go_roundg d
    case measure => omega
    case rel => exact ⟨i + 1, _, _, rfl, rfl, HI, ⟨by have := NK.out; omega⟩, ⟨HE.out.symm⟩, ⟨bw_⟩⟩
theorem cell_size {k : Int} (h : I64 k) : (cellB k).size <= 20 := by
 unfold cellB
 split
 · decide
 · exact itoa_size h
theorem table_spec (A0 : Option Addr) (c0 : Nat) (l : List Int) (w : World) (hL : Lst w A0 c0 l) (hl : l.length <= 10000) (hp : ∀ x ∈ l, -1 <= x /\ x <= 999) :
  Calls Tryz.prog 135 #[.agg #[.slice A0 l.length c0]] w (GotS (textB l) w) := by
 have hu := Tryz.underlying34
 have hI : ∀ x ∈ l, I64 x := fun x hx => by have := hp x hx; unfold I64; omega
 have HL : Aside0 (l.length <= 10000) := ⟨hl⟩
 have HN := am_ fun x hx => (⟨hp x hx, hI x hx⟩ : (-1 <= x /\ x <= 999) /\ I64 x)
 have HR0 := am_ hL;have HS := am_ fun i => soFar_le cellB ⟨#[32]⟩ l i (by decide) hl (fun x hx => cell_size (hI x hx));have HB := am_ (below_alloc (Below.refl w.heap.size w) (.cells #[.slice A0 l.length c0] 34));clear hL hl hp hI;go_enter Tryz.func135, Tryz.ntmps135;go_wp2
 go_loopg [3, 9] l.length (fun kq v3 v9 w' => ∃ (i : Nat) (iz : Int) (J : ByteArray), v9 = .int .i64 iz /\ v3 = .string J /\ Aside0 (iz = (i : Int)) /\ Aside0 (i + kq = l.length) /\ Aside0 (J = soFar cellB ⟨#[32]⟩ l i) /\ Aside0 (Below w.heap.size w w'))
 case atStart => exact ⟨0, 0, _, rfl, rfl, ⟨rfl⟩, ⟨by omega⟩, ⟨rfl⟩, HB⟩
 case round =>
  clear HB;obtain ⟨i, iz, J, rfl, rfl, NI, NK, HJ, HB⟩ := hrel
  cases gk with
  | zero =>
   have hi : i = l.length := by have := NK.out; omega
   subst hi;have q1 : decide (iz < (l.length : Int)) = false := decide_eq_false (by have := NI.out; omega);have HD := am_ (show textB l = J by rw [HJ.out]; unfold soFar textB; rw [List.take_length]);go_wp2;go_ret;exact ⟨by rw [HD.out]; rfl, HB.out⟩
  | succ d =>
   have hi0 : 0 <= iz := by have := NI.out; omega
   have hin : iz < (l.length : Int) := by have := NI.out; have := NK.out; omega
   have q1 : decide (iz < (l.length : Int)) = true := decide_eq_true hin;obtain ⟨ad0, e0, hx⟩ := Kd.at_int (Kd.C_below HR0.out.1 HB.out) iz hi0 hin;cases e0
   have hi1 : i < l.length := by have := NK.out; omega
   have HX := am_ (HN.out (rd l iz) (by rw [NI.out, rd_at l i hi1]; exact List.getElem_mem _));have HI := am_ (show wrap64 (iz + 1) = ((i + 1 : Nat) : Int) by rw [NI.out]; have := NK.out; have := HL.out; rw [wrap64_in _ (by omega) (by omega)]; omega)
   obtain ⟨x, hxx⟩ : ∃ x, x = rd l iz := ⟨_, rfl⟩
   have hJs : J.size <= 210000 := by rw [HJ.out]; exact HS.out i
   have hps : (cellB x).size <= 20 := by rw [hxx]; exact cell_size HX.out.2
   have HE := am_ (show soFar cellB ⟨#[32]⟩ l (i + 1) = if i = 0 then J ++ cellB x else J ++ ⟨#[32]⟩ ++ cellB x by
    rw [HJ.out, hxx, NI.out]
    split
    · rename_i h; subst h; exact soFar_first _ _ _ hi1
    · exact soFar_next _ _ _ _ (by omega) hi1)
   rw [<- hxx] at hx HX;clear hxx;replace hi0 := eq_true hi0;replace hin := eq_true hin;have q5 : (9223372036854775807 < J.size + 1) = False := eq_false (by omega);have q7 : (J.size + 1 <= 9223372036854775807) = True := eq_true (by omega)
   by_cases hk : x = -1
   ·
    subst hk;have e46 : cellB (-1) = ⟨#[46]⟩ := rfl;rw [e46] at HE;have q6 : (9223372036854775807 < J.size + 1 + 1) = False := eq_false (by omega);have q8 : (J.size + 1 + 1 <= 9223372036854775807) = True := eq_true (by omega);have q6' : (9223372036854775807 < J.size + 2) = False := eq_false (by omega);have q8' : (J.size + 2 <= 9223372036854775807) = True := eq_true (by omega)
    by_cases hz : i = 0
    ·
     have q3 : decide (iz > 0) = false := decide_eq_false (by have := NI.out; omega);rw [if_pos hz] at HE;clear hps hJs hi1 hz e46;go_wp2
     go_roundg d
     case measure => omega
     case rel => exact ⟨i + 1, _, _, rfl, rfl, HI, ⟨by have := NK.out; omega⟩, ⟨HE.out.symm⟩, ⟨bw_⟩⟩
    ·
     have q3 : decide (iz > 0) = true := decide_eq_true (by have := NI.out; omega);rw [if_neg hz] at HE;clear hps hJs hi1 hz e46;go_wp2
     go_roundg d
     case measure => omega
     case rel => exact ⟨i + 1, _, _, rfl, rfl, HI, ⟨by have := NK.out; omega⟩, ⟨HE.out.symm⟩, ⟨bw_⟩⟩
   ·
    have q2 : (x == (-1 : Int)) = false := beq_eq_false_iff_ne.2 hk
    have h0 : 0 <= x := by have := HX.out.1; omega
    have HC := am_ fun W => num_any x W h0 HX.out.2
    have e46 : cellB x = itoaB x := by unfold cellB; rw [if_neg (by omega)]
    rw [e46] at HE hps
    obtain ⟨p, hpp⟩ : ∃ p, p = itoaB x := ⟨_, rfl⟩
    rw [<- hpp] at HC HE hps;have q6 : (9223372036854775807 < J.size + 1 + p.size) = False := eq_false (by omega);have q8 : (J.size + 1 + p.size <= 9223372036854775807) = True := eq_true (by omega);have q9 : (9223372036854775807 < J.size + p.size) = False := eq_false (by omega);have q10 : (J.size + p.size <= 9223372036854775807) = True := eq_true (by omega)
    by_cases hz : i = 0
    ·
     have q3 : decide (iz > 0) = false := decide_eq_false (by have := NI.out; omega);rw [if_pos hz] at HE;clear hps hJs hi1 hz e46 hpp h0 hk
     go_wp2_with (go_at_call 86; go_loud (refine (HC.out _).mono ?_; rintro e w1 ⟨rfl, hb⟩; have HB1 := am_ (below_step (show Below w.heap.size w _ from bw_) hb); clear HB hb; have HB := HB1; clear HB1))
     go_roundg d
     case measure => omega
     case rel => exact ⟨i + 1, _, _, rfl, rfl, HI, ⟨by have := NK.out; omega⟩, ⟨HE.out.symm⟩, ⟨bw_⟩⟩
    ·
     have q3 : decide (iz > 0) = true := decide_eq_true (by have := NI.out; omega);rw [if_neg hz] at HE;clear hps hJs hi1 hz e46 hpp h0 hk
     go_wp2_with (go_at_call 86; go_loud (refine (HC.out _).mono ?_; rintro e w1 ⟨rfl, hb⟩; have HB1 := am_ (below_step (show Below w.heap.size w _ from bw_) hb); clear HB hb; have HB := HB1; clear HB1))
     go_roundg d
     case measure => omega
     case rel => exact ⟨i + 1, _, _, rfl, rfl, HI, ⟨by have := NK.out; omega⟩, ⟨HE.out.symm⟩, ⟨bw_⟩⟩
open Go.Shelf Go.Maps
set_option maxHeartbeats 2000000
def dbk (back : Int) (l : List Int) : Bool := ((impl_driveBack.f 60 l 3 back).getD ([], false)).2
def trip (j : Nat) : List Int := [((j / 9 : Nat) : Int), ((j / 3 % 3 : Nat) : Int), ((j % 3 : Nat) : Int)]
def cntB (back : Int) : Nat -> Int
 | 0 => 0
 | j + 1 => cntB back j + if dbk back (trip j) = true then 1 else 0
theorem dbk_fin : ∀ (k : Fin 9) (j : Fin 27), (impl_driveBack.f 60 (trip j.1) 3 (k.1 : Int)).isSome = true := by decide +kernel
theorem cntB_fin : ∀ k : Fin 9, cntB (k.1 : Int) 27 = rd Plain.backT (k.1 : Int) := by decide +kernel
theorem cntB_in (back : Int) (j : Nat) : 0 <= cntB back j /\ cntB back j <= (j : Int) := by
 induction j with
 | zero => simp [cntB]
 | succ j ih => rw [cntB]; split <;> omega
theorem drive_i {back : Int} (h0 : 0 <= back) (h8 : back <= 8) {j : Nat} (hj : j < 27) (A : Option Addr) (c : Nat) (w : World) (hr : Kd.C (Kd.int .i64) w A 3 (trip j)) (hc : 3 <= c) :
  Calls Tryz.prog 215 #[.slice A 3 c, .int .i64 3, .int .i64 back] w fun e w' => (∃ v, e = .returned (.tuple #[v, .bool (dbk back (trip j))])) /\ Below w.heap.size w w' := by
 have h := dbk_fin ⟨back.toNat, by omega⟩ ⟨j, hj⟩
 have e : ((back.toNat : Nat) : Int) = back := by omega
 simp only [e] at h;obtain ⟨r, hr2⟩ := Option.isSome_iff_exists.1 h
 have hd : dbk back (trip j) = r.2 := by unfold dbk; rw [hr2]; rfl
 rw [hd]
 refine (impl_driveBack.calls 60 A c (trip j) 3 back r.1 r.2 w hr hc hr2).mono ?_
 rintro e w' ⟨v, rfl, _, hb⟩;exact ⟨⟨v, rfl⟩, hb⟩
def Row3 (w : World) (g : Nat) (x y z : Int) : Prop := ∃ cs : Array Value, w.heap[g]? = some (.cells cs 3 (0, 0)) /\ cs[0]? = some (.int .i64 x) /\ cs[1]? = some (.int .i64 y) /\ cs[2]? = some (.int .i64 z)
section
variable {w w1 : World} {g : Nat} {x y z : Int}
theorem Row3.after (h : Row3 w g x y z) (hb : Below w.heap.size w w1) : Row3 w1 g x y z := by
 obtain ⟨cs, h1, h2⟩ := h;exact ⟨cs, blk_below h1 hb, h2⟩
theorem Row3.alloc (h : Row3 w g x y z) (o : Obj) : Row3 (w.alloc o) g x y z := by
 obtain ⟨cs, h1, h2⟩ := h;exact ⟨cs, blk_alloc h1 o, h2⟩
theorem Row3.lt (h : Row3 w g x y z) : g < w.heap.size := by
 obtain ⟨cs, h1, h2⟩ := h;exact blk_lt h1
theorem Row3.far (h : Row3 w g x y z) {p : Addr} (hp : g ≠ p.block) (u : Value) : Row3 (w.setCell p u) g x y z := by
 obtain ⟨cs, h1, h2⟩ := h;exact ⟨cs, blk_far h1 hp u, h2⟩
theorem Row3.c0 (h : Row3 w g x y z) : w.cell? ⟨g, 0, none⟩ = some (.int .i64 x) /\ w.frozen? ⟨g, 0, none⟩ = false := by
 obtain ⟨cs, h1, h2⟩ := h;exact ⟨(blk_cell h1 0).trans h2.1, blk_frozen h1 0⟩
theorem Row3.c1 (h : Row3 w g x y z) : w.cell? ⟨g, 1, none⟩ = some (.int .i64 y) /\ w.frozen? ⟨g, 1, none⟩ = false := by
 obtain ⟨cs, h1, h2⟩ := h;exact ⟨(blk_cell h1 1).trans h2.2.1, blk_frozen h1 1⟩
theorem Row3.c2 (h : Row3 w g x y z) : w.cell? ⟨g, 2, none⟩ = some (.int .i64 z) /\ w.frozen? ⟨g, 2, none⟩ = false := by
 obtain ⟨cs, h1, h2⟩ := h;exact ⟨(blk_cell h1 2).trans h2.2.2, blk_frozen h1 2⟩
theorem cs_lt {cs : Array Value} {i : Nat} {v : Value} (h : cs[i]? = some v) : i < cs.size := (Array.getElem?_eq_some_iff.1 h).1
theorem Row3.s0 (h : Row3 w g x y z) (u : Int) : Row3 (w.setCell ⟨g, 0, none⟩ (.int .i64 u)) g u y z := by
 obtain ⟨cs, h1, h2, h3, h4⟩ := h;exact ⟨_, blk_set h1 0 _, by rw [Array.getElem?_setIfInBounds_self_of_lt (cs_lt h2)], by rw [Array.getElem?_setIfInBounds_ne (by decide), h3], by rw [Array.getElem?_setIfInBounds_ne (by decide), h4]⟩
theorem Row3.s1 (h : Row3 w g x y z) (u : Int) : Row3 (w.setCell ⟨g, 1, none⟩ (.int .i64 u)) g x u z := by
 obtain ⟨cs, h1, h2, h3, h4⟩ := h;exact ⟨_, blk_set h1 1 _, by rw [Array.getElem?_setIfInBounds_ne (by decide), h2], by rw [Array.getElem?_setIfInBounds_self_of_lt (cs_lt h3)], by rw [Array.getElem?_setIfInBounds_ne (by decide), h4]⟩
theorem Row3.s2 (h : Row3 w g x y z) (u : Int) : Row3 (w.setCell ⟨g, 2, none⟩ (.int .i64 u)) g x y u := by
 obtain ⟨cs, h1, h2, h3, h4⟩ := h;exact ⟨_, blk_set h1 2 _, by rw [Array.getElem?_setIfInBounds_ne (by decide), h2], by rw [Array.getElem?_setIfInBounds_ne (by decide), h3], by rw [Array.getElem?_setIfInBounds_self_of_lt (cs_lt h4)]⟩
theorem Row3.reads (h : Row3 w g x y z) : Kd.C (Kd.int .i64) w (some ⟨g, 0, none⟩) 3 [x, y, z] := by
 refine ⟨rfl, by decide, fun _ => ⟨_, rfl, fun j p hj => ⟨[.int .i64 p], rfl, rfl, fun i u hi => ?_⟩⟩⟩
 cases i with
 | succ i => simp at hi
 | zero =>
  obtain rfl : Value.int .i64 p = u := by simpa using hi
  match j, hj with
  | 0, hj => exact (show x = p by simpa using hj) ▸ h.c0.1
  | 1, hj => exact (show y = p by simpa using hj) ▸ h.c1.1
  | 2, hj => exact (show z = p by simpa using hj) ▸ h.c2.1
  | j + 3, hj => simp at hj
theorem Row3.of {b : Nat} {ok : Nat -> Prop} {v : Value} (h : Kd.R (Kd.int .i64) 3 w b ok v [x, y, z]) : ∃ g cap, v = .slice (some ⟨g, 0, none⟩) 3 cap /\ b <= g /\ 3 <= cap /\ Row3 w g x y z := by
 obtain ⟨_, h2⟩ := Kd.own_of_R h
 rcases h2 with ⟨_, h3⟩ | ⟨g, cap, cur, rfl, hg, hh, hc, hm, hs, ht⟩
 · simp at h3
 ·
  have hc3 : 3 <= cap := hc
  have hcur : ∀ i, i < 3 -> cur[i]? = (encs (Value.int .i64) [x, y, z])[i]? := fun i hi => by
   rw [<- ht, List.getElem?_take_of_lt (by simpa using hi), Array.getElem?_toList]
  exact ⟨g, cap, rfl, hg, hc3, cur, hh, (hcur 0 (by decide)).trans rfl, (hcur 1 (by decide)).trans rfl, (hcur 2 (by decide)).trans rfl⟩
end
structure Vars (w0 : World) (gN gK gM : Nat) (back many : Int) (w : World) : Prop where
 below : Below w0.heap.size w0 w
 bN : w.heap[gN]? = some (.cells #[.int .i64 3] 3 (0, 0))
 bK : w.heap[gK]? = some (.cells #[.int .i64 back] 3 (0, 0))
 bM : w.heap[gM]? = some (.cells #[.int .i64 many] 3 (0, 0))
 far : w0.heap.size <= gM /\ gN ≠ gM /\ gK ≠ gM
section
variable {w0 w w1 : World} {gN gK gM : Nat} {back many : Int}
theorem Vars.after (h : Vars w0 gN gK gM back many w) (hb : Below w.heap.size w w1) : Vars w0 gN gK gM back many w1 := ⟨below_step h.below hb, blk_below h.bN hb, blk_below h.bK hb, blk_below h.bM hb, h.far⟩
theorem Vars.drewN (h : Vars w0 gN gK gM back many w) (n : Nat) : Vars w0 gN gK gM back many (w.drewN n) := ⟨pw_below_drewN h.below n, blk_drewN h.bN n, blk_drewN h.bK n, blk_drewN h.bM n, h.far⟩
theorem Vars.drew (h : Vars w0 gN gK gM back many w) : Vars w0 gN gK gM back many w.drew := ⟨below_drew1 h.below, blk_drew h.bN, blk_drew h.bK, blk_drew h.bM, h.far⟩
theorem Vars.alloc (h : Vars w0 gN gK gM back many w) (o : Obj) : Vars w0 gN gK gM back many (w.alloc o) := ⟨below_alloc h.below o, blk_alloc h.bN o, blk_alloc h.bK o, blk_alloc h.bM o, h.far⟩
theorem Vars.away (h : Vars w0 gN gK gM back many w) {p : Addr} (h0 : w0.heap.size <= p.block) (hN : gN ≠ p.block) (hK : gK ≠ p.block) (hM : gM ≠ p.block) (u : Value) : Vars w0 gN gK gM back many (w.setCell p u) := ⟨h.below.setCell h0 _, blk_far h.bN hN u, blk_far h.bK hK u, blk_far h.bM hM u, h.far⟩
theorem Vars.put (h : Vars w0 gN gK gM back many w) (u : Int) : Vars w0 gN gK gM back u (w.setCell ⟨gM, 0, none⟩ (.int .i64 u)) := ⟨h.below.setCell h.far.1 _, blk_far h.bN (p := ⟨gM, 0, none⟩) h.far.2.1 _, blk_far h.bK (p := ⟨gM, 0, none⟩) h.far.2.2 _, blk_put h.bM 0 _ rfl, h.far⟩
theorem Vars.cN (h : Vars w0 gN gK gM back many w) : w.cell? ⟨gN, 0, none⟩ = some (.int .i64 3) := (blk_cell h.bN 0).trans rfl
theorem Vars.cK (h : Vars w0 gN gK gM back many w) : w.cell? ⟨gK, 0, none⟩ = some (.int .i64 back) := (blk_cell h.bK 0).trans rfl
theorem Vars.cM (h : Vars w0 gN gK gM back many w) : w.cell? ⟨gM, 0, none⟩ = some (.int .i64 many) /\ w.frozen? ⟨gM, 0, none⟩ = false := ⟨(blk_cell h.bM 0).trans rfl, blk_frozen h.bM 0⟩
end
structure Ring (w0 : World) (g0 g1 gL gN gK gM : Nat) (x y z back many : Int) (w : World) : Prop where
 vars : Vars w0 gN gK gM back many w
 low : Row3 w g0 0 0 0
 high : Row3 w g1 2 2 2
 row : Row3 w gL x y z
 farL : w0.heap.size <= gL /\ g0 ≠ gL /\ g1 ≠ gL /\ gN ≠ gL /\ gK ≠ gL /\ gM ≠ gL
 farM : g0 ≠ gM /\ g1 ≠ gM
section
variable {w0 w w1 : World} {g0 g1 gL gN gK gM : Nat} {x y z back many : Int}
theorem Ring.after (h : Ring w0 g0 g1 gL gN gK gM x y z back many w) (hb : Below w.heap.size w w1) : Ring w0 g0 g1 gL gN gK gM x y z back many w1 := ⟨h.vars.after hb, h.low.after hb, h.high.after hb, h.row.after hb, h.farL, h.farM⟩
theorem Ring.drewN (h : Ring w0 g0 g1 gL gN gK gM x y z back many w) (n : Nat) : Ring w0 g0 g1 gL gN gK gM x y z back many (w.drewN n) := ⟨h.vars.drewN n, h.low, h.high, h.row, h.farL, h.farM⟩
theorem Ring.drew (h : Ring w0 g0 g1 gL gN gK gM x y z back many w) : Ring w0 g0 g1 gL gN gK gM x y z back many w.drew := ⟨h.vars.drew, h.low, h.high, h.row, h.farL, h.farM⟩
theorem Ring.put (h : Ring w0 g0 g1 gL gN gK gM x y z back many w) (u : Int) : Ring w0 g0 g1 gL gN gK gM x y z back u (w.setCell ⟨gM, 0, none⟩ (.int .i64 u)) := ⟨h.vars.put u, h.low.far h.farM.1 _, h.high.far h.farM.2 _, h.row.far (p := ⟨gM, 0, none⟩) (fun e => h.farL.2.2.2.2.2 e.symm) _, h.farL, h.farM⟩
theorem Ring.s (h : Ring w0 g0 g1 gL gN gK gM x y z back many w) {i : Nat} {u : Value} {x' y' z' : Int} (hr : Row3 (w.setCell ⟨gL, i, none⟩ u) gL x' y' z') : Ring w0 g0 g1 gL gN gK gM x' y' z' back many (w.setCell ⟨gL, i, none⟩ u) :=
 ⟨h.vars.away (p := ⟨gL, i, none⟩) h.farL.1 h.farL.2.2.2.1 h.farL.2.2.2.2.1 h.farL.2.2.2.2.2 _, h.low.far (p := ⟨gL, i, none⟩) h.farL.2.1 _, h.high.far (p := ⟨gL, i, none⟩) h.farL.2.2.1 _, hr, h.farL, h.farM⟩
theorem rg_ {P : Prop} (h : P := by repeat (first | (with_reducible first | exact HG.out | apply Ring.drewN | apply Ring.drew | apply Ring.put) | exact HG.out)) : P := h
theorem back1_any (h0 : 0 <= back) (h8 : back <= 8) {j : Nat} (hj : j < 27) {cL : Nat} (hc : 3 <= cL) {a b c : Int} (he : trip j = [a, b, c]) (hm : 0 <= many /\ many <= 26) (hG : Ring w0 g0 g1 gL gN gK gM a b c back many w) :
  Calls Tryz.prog 214 #[.slice (some ⟨gL, 0, none⟩) 3 cL, .pointer (some ⟨gN, 0, none⟩), .pointer (some ⟨gK, 0, none⟩), .pointer (some ⟨gM, 0, none⟩)] w fun e w' => e = .returned (.tuple #[]) /\ Ring w0 g0 g1 gL gN gK gM a b c back (many + if dbk back (trip j) = true then 1 else 0) w' := by
 have HD := am_ fun W (h : Kd.C (Kd.int .i64) W (some ⟨gL, 0, none⟩) 3 (trip j)) => drive_i h0 h8 hj (some ⟨gL, 0, none⟩) cL W h hc;rw [he] at HD ⊢;have HG := am_ hG;have hcN := hG.vars.cN;have hcK := hG.vars.cK
 have hw : IntKind.i64.wrap (many + 1) = many + 1 := by rw [i64_w, wrap64_in _ (by omega) (by omega)]
 have HW := am_ hw;clear h0 h8 hj hc he hG hm;cases hq : dbk back [a, b, c]
 all_goals
  rw [hq] at HD;clear hq;go_enter Tryz.func214, Tryz.ntmps214
  go_wp2_with (go_at_call 215; go_loud (refine (HD.out _ (Ring.row (show Ring w0 g0 g1 gL gN gK gM a b c back many _ from rg_)).reads).mono ?_; rintro e w1 ⟨⟨v, rfl⟩, hb⟩; have HG1 := am_ (Ring.after (show Ring w0 g0 g1 gL gN gK gM a b c back many _ from rg_) hb); clear HG hb hcN hcK; have HG := HG1; clear HG1; obtain ⟨hcM, hfM⟩ := HG.out.vars.cM))
  go_end0
  all_goals first
   | (refine ⟨rfl, ?_⟩; first | exact HG.out.put _ | exact HG.out | (rw [Int.add_zero]; exact HG.out))
   | exact absurd h (by decide)
end
def Turn (a b c i x y z : Int) : Prop := (i = 2 /\ x = a /\ y = b /\ z = c) \/ (i = 1 /\ c = 2 /\ x = a /\ y = b /\ z = 0) \/ (i = 0 /\ c = 2 /\ b = 2 /\ x = a /\ y = 0 /\ z = 0) \/ (i = -1 /\ c = 2 /\ b = 2 /\ a = 2 /\ x = 0 /\ y = 0 /\ z = 0)
theorem cnt27 {back : Int} (h0 : 0 <= back) (h8 : back <= 8) : cntB back 27 = rd Plain.backT back := by
 have h := cntB_fin ⟨back.toNat, by omega⟩;simp only [show ((back.toNat : Nat) : Int) = back by omega] at h;exact h
theorem all_any {w0 w : World} {gN gK gM g0 g1 c0 c1 : Nat} {back : Int} (h0 : 0 <= back) (h8 : back <= 8) (hV : Vars w0 gN gK gM back 0 w) (hl : Row3 w g0 0 0 0) (hh : Row3 w g1 2 2 2) (hf : g0 ≠ gM /\ g1 ≠ gM) (hc0 : 3 <= c0) (hc1 : 3 <= c1) :
  Calls Tryz.prog 240 #[.slice (some ⟨g0, 0, none⟩) 3 c0, .slice (some ⟨g1, 0, none⟩) 3 c1, .func (.func 214) #[] #[.pointer (some ⟨gN, 0, none⟩), .pointer (some ⟨gK, 0, none⟩), .pointer (some ⟨gM, 0, none⟩)]] w fun e w' => e = .returned (.tuple #[]) /\ Vars w0 gN gK gM back (rd Plain.backT back) w' := by
 have eg : ∀ args w, (callFunc 214 args).run Tryz.prog w = .ok (.enter 214 args) w := enters_of Tryz.func214 (by kernel_rfl) rfl;have HCL := am_ (slices_Clone_int_int.calls (some ⟨g0, 0, none⟩) c0 [0, 0, 0] [0, 0, 0] w hl.reads hc0 rfl);have HV := am_ hV;have HL := am_ hl;have HH := am_ hh;have HF := am_ hf;have H8 := am_ (And.intro h0 h8);clear h0 h8 hV hl hh hf hc0 hc1;go_enter Tryz.func240, Tryz.ntmps240
 go_wp2_with (go_at_call 53; go_loud (refine HCL.out.mono ?_; rintro e w1 ⟨v, rfl, hv, hb⟩; obtain ⟨gL, cL, rfl, hgL, hcL, hr⟩ := Row3.of hv; have HG := am_ (show Ring w0 g0 g1 gL gN gK gM 0 0 0 back 0 w1 from ⟨HV.out.after hb, HL.out.after hb, HH.out.after hb, hr, ⟨Nat.le_trans HV.out.below.size hgL, Nat.ne_of_lt (Nat.lt_of_lt_of_le HL.out.lt hgL), Nat.ne_of_lt (Nat.lt_of_lt_of_le HH.out.lt hgL), Nat.ne_of_lt (Nat.lt_of_lt_of_le (blk_lt HV.out.bN) hgL), Nat.ne_of_lt (Nat.lt_of_lt_of_le (blk_lt HV.out.bK) hgL), Nat.ne_of_lt (Nat.lt_of_lt_of_le (blk_lt HV.out.bM) hgL)⟩, HF.out⟩); have HCC := am_ hcL; clear hv hb hr hgL hcL HV HL HH HF HCL))
 go_loopg [7] 26 (fun kq v7 w' => ∃ (j : Nat) (a b c many : Int), Aside0 (j + kq = 26 /\ trip j = [a, b, c] /\ many = cntB back j) /\ Aside0 (Ring w0 g0 g1 gL gN gK gM a b c back many w'))
 case atStart => exact ⟨0, 0, 0, 0, 0, ⟨rfl, rfl, rfl⟩, HG⟩
 case round =>
  clear HG;obtain ⟨j, a, b, c, many, HJ, HG⟩ := hrel
  obtain ⟨gg, hgg⟩ : ∃ gg : Nat, gg = gk := ⟨_, rfl⟩
  have HGG := am_ hgg
  obtain ⟨m1, hm1⟩ : ∃ m1, m1 = cntB back (j + 1) := ⟨_, rfl⟩
  have HC : Aside0 (∀ W, Ring w0 g0 g1 gL gN gK gM a b c back many W -> Calls Tryz.prog 214 #[.slice (some ⟨gL, 0, none⟩) 3 cL, .pointer (some ⟨gN, 0, none⟩), .pointer (some ⟨gK, 0, none⟩), .pointer (some ⟨gM, 0, none⟩)] W fun e w' => e = .returned (.tuple #[]) /\ Ring w0 g0 g1 gL gN gK gM a b c back m1 w') := ⟨fun W h => by
   have hj := HJ.out;have hin := cntB_in back j;have h1 := back1_any H8.out.1 H8.out.2 (j := j) (by omega) HCC.out hj.2.1 (by rw [hj.2.2]; omega) h
   rwa [hj.2.2, show cntB back j + (if dbk back (trip j) = true then 1 else 0) = m1 from hm1.symm] at h1⟩
  have HM1 := am_ hm1;clear hgg hm1
  go_wp2_with (go_at_fn 214; refine (HC.out _ (show Ring w0 g0 g1 gL gN gK gM a b c back many _ from rg_)).mono ?_; rintro e w2 ⟨rfl, hG⟩; have HG2 := am_ hG; clear HG HC hG)
  go_loopg [7] 3 (fun kq v7 w' => ∃ (i x y z : Int), v7 = .int .i64 i /\ Aside0 (Turn a b c i x y z /\ i + 1 <= (kq : Int)) /\ Aside0 (Ring w0 g0 g1 gL gN gK gM x y z back m1 w'))
  case atStart => exact ⟨2, a, b, c, rfl, ⟨.inl ⟨rfl, rfl, rfl, rfl⟩, by omega⟩, HG2⟩
  case round =>
   clear HG2;obtain ⟨i, x, y, z, rfl, HS, HG⟩ := hrel;have hj := HJ.out;have e1 := List.cons.inj hj.2.1;have e2 := List.cons.inj e1.2;have e3 := List.cons.inj e2.2;have HE := am_ (show ((j / 9 : Nat) : Int) = a /\ ((j / 3 % 3 : Nat) : Int) = b /\ ((j % 3 : Nat) : Int) = c /\ j + gg = 26 from ⟨e1.1, e2.1, e3.1, by have := HGG.out; omega⟩);clear e1 e2 e3 hj
   rcases HS.out.1 with ⟨rfl, ex, ey, ez⟩ | ⟨rfl, ec, ex, ey, ez⟩ | ⟨rfl, ec, eb, ex, ey, ez⟩ | ⟨rfl, ec, eb, ea, ex, ey, ez⟩
   ·
    obtain ⟨hx, hfx⟩ := HG.out.row.c2;obtain ⟨hh, _⟩ := HG.out.high.c2;obtain ⟨hl, _⟩ := HG.out.low.c2;have HS1 := am_ (⟨ex, ey, ez⟩ : x = a /\ y = b /\ z = c)
    by_cases hz : z = 2
    ·
     have HS2 := am_ (hz.symm.trans ez).symm;subst hz;clear ex ey ez;go_wp2
     go_big_region
     all_goals
      go_wp2
      go_roundg 2
      case measure => have := HS.out.2; omega
      case rel => exact ⟨1, x, y, 0, rfl, ⟨.inr (.inl ⟨rfl, HS2.out, HS1.out.1, HS1.out.2.1, rfl⟩), by decide⟩, ⟨by first | exact (HG.out.s (HG.out.row.s2 0)).drew | exact HG.out.s (HG.out.row.s2 0)⟩⟩
    ·
     have q1 : (z == 2) = false := beq_eq_false_iff_ne.2 hz;have q2 : decide (z = 2) = false := decide_eq_false hz;have HZ := am_ hz
     have hw : IntKind.i64.wrap (z + 1) = z + 1 := by rw [i64_w, wrap64_in _ (by have := HE.out; omega) (by have := HE.out; omega)]
     clear ex ey ez;go_wp2
     go_big_region
     all_goals
      go_wp2
      go_roundg (gg - 1)
      case measure => have := HE.out; have := HGG.out; have := HS1.out; have := HZ.out; omega
      case rel =>
       have h1 := HE.out;have h2 := HS1.out;have h3 := HZ.out;refine ⟨j + 1, x, y, z + 1, m1, ⟨by omega, ?_, HM1.out⟩, ⟨by first | exact (HG.out.s (HG.out.row.s2 _)).drew | exact HG.out.s (HG.out.row.s2 _)⟩⟩;unfold trip;rw [show (((j + 1) / 9 : Nat) : Int) = x by omega, show (((j + 1) / 3 % 3 : Nat) : Int) = y by omega, show (((j + 1) % 3 : Nat) : Int) = z + 1 by omega]
   ·
    obtain ⟨hx, hfx⟩ := HG.out.row.c1;obtain ⟨hh, _⟩ := HG.out.high.c1;obtain ⟨hl, _⟩ := HG.out.low.c1;have HS1 := am_ (⟨ex, ey, ez, ec⟩ : x = a /\ y = b /\ z = 0 /\ c = 2)
    by_cases hz : y = 2
    ·
     have HS2 := am_ (hz.symm.trans ey).symm;subst hz;clear ex ey ez ec;go_wp2
     go_big_region
     all_goals
      go_wp2
      go_roundg 1
      case measure => have := HS.out.2; omega
      case rel => exact ⟨0, x, 0, z, rfl, ⟨.inr (.inr (.inl ⟨rfl, HS1.out.2.2.2, HS2.out, HS1.out.1, rfl, HS1.out.2.2.1⟩)), by decide⟩, ⟨by first | exact (HG.out.s (HG.out.row.s1 0)).drew | exact HG.out.s (HG.out.row.s1 0)⟩⟩
    ·
     have q1 : (y == 2) = false := beq_eq_false_iff_ne.2 hz;have q2 : decide (y = 2) = false := decide_eq_false hz;have HZ := am_ hz
     have hw : IntKind.i64.wrap (y + 1) = y + 1 := by rw [i64_w, wrap64_in _ (by have := HE.out; omega) (by have := HE.out; omega)]
     clear ex ey ez ec;go_wp2
     go_big_region
     all_goals
      go_wp2
      go_roundg (gg - 1)
      case measure => have := HE.out; have := HGG.out; have := HS1.out; have := HZ.out; omega
      case rel =>
       have h1 := HE.out;have h2 := HS1.out;have h3 := HZ.out;refine ⟨j + 1, x, y + 1, z, m1, ⟨by omega, ?_, HM1.out⟩, ⟨by first | exact (HG.out.s (HG.out.row.s1 _)).drew | exact HG.out.s (HG.out.row.s1 _)⟩⟩;unfold trip;rw [show (((j + 1) / 9 : Nat) : Int) = x by omega, show (((j + 1) / 3 % 3 : Nat) : Int) = y + 1 by omega, show (((j + 1) % 3 : Nat) : Int) = z by omega]
   ·
    obtain ⟨hx, hfx⟩ := HG.out.row.c0;obtain ⟨hh, _⟩ := HG.out.high.c0;obtain ⟨hl, _⟩ := HG.out.low.c0;have HS1 := am_ (⟨ex, ey, ez, ec, eb⟩ : x = a /\ y = 0 /\ z = 0 /\ c = 2 /\ b = 2)
    by_cases hz : x = 2
    ·
     have HS2 := am_ (hz.symm.trans ex).symm;subst hz;clear ex ey ez ec eb;go_wp2
     go_big_region
     all_goals
      go_wp2
      go_roundg 0
      case measure => have := HS.out.2; omega
      case rel => exact ⟨-1, 0, y, z, rfl, ⟨.inr (.inr (.inr ⟨rfl, HS1.out.2.2.2.1, HS1.out.2.2.2.2, HS2.out, rfl, HS1.out.2.1, HS1.out.2.2.1⟩)), by decide⟩, ⟨by first | exact (HG.out.s (HG.out.row.s0 0)).drew | exact HG.out.s (HG.out.row.s0 0)⟩⟩
    ·
     have q1 : (x == 2) = false := beq_eq_false_iff_ne.2 hz;have q2 : decide (x = 2) = false := decide_eq_false hz;have HZ := am_ hz
     have hw : IntKind.i64.wrap (x + 1) = x + 1 := by rw [i64_w, wrap64_in _ (by have := HE.out; omega) (by have := HE.out; omega)]
     clear ex ey ez ec eb;go_wp2
     go_big_region
     all_goals
      go_wp2
      go_roundg (gg - 1)
      case measure => have := HE.out; have := HGG.out; have := HS1.out; have := HZ.out; omega
      case rel =>
       have h1 := HE.out;have h2 := HS1.out;have h3 := HZ.out;refine ⟨j + 1, x + 1, y, z, m1, ⟨by omega, ?_, HM1.out⟩, ⟨by first | exact (HG.out.s (HG.out.row.s0 _)).drew | exact HG.out.s (HG.out.row.s0 _)⟩⟩;unfold trip;rw [show (((j + 1) / 9 : Nat) : Int) = x + 1 by omega, show (((j + 1) / 3 % 3 : Nat) : Int) = y by omega, show (((j + 1) % 3 : Nat) : Int) = z by omega]
   ·
    have hm : m1 = rd Plain.backT back := by
     have h1 := HE.out;rw [HM1.out, show j + 1 = 27 by omega, cnt27 H8.out.1 H8.out.2]
    have HM2 := am_ hm;clear ex ey ez ea eb ec hm;go_wp2
    go_big_region
    all_goals
     go_wp2
     refine bodyPost_ret (results_none rfl _ _ _) rfl ?_
     have h3 := HG.out.vars;rw [HM2.out] at h3
     first | exact ⟨rfl, h3.drew⟩ | exact ⟨rfl, h3⟩
theorem Row3.new (w : World) : Row3 (w.alloc (.cells (madeCells #[.int .i64 0] 3) 3)) w.heap.size 0 0 0 := by
 have e : madeCells #[Value.int .i64 0] 3 = #[.int .i64 0, .int .i64 0, .int .i64 0] := (madeN 3).trans rfl;exact ⟨_, blk_new _ _, by rw [e]; rfl, by rw [e]; rfl, by rw [e]; rfl⟩
theorem new2 (w : World) (o o' : Obj) : ((w.alloc o).alloc o').heap[w.heap.size + 1]? = some o' := by
 have hz : (w.alloc o).heap.size = w.heap.size + 1 := by simp
 have hn := blk_new (w.alloc o) o'
 rwa [hz] at hn
theorem Row3.new2 (w : World) (o : Obj) : Row3 ((w.alloc o).alloc (.cells (madeCells #[.int .i64 0] 3) 3)) (w.heap.size + 1) 0 0 0 := by
 have hz : (w.alloc o).heap.size = w.heap.size + 1 := by simp
 have hn := Row3.new (w.alloc o)
 rwa [hz] at hn
theorem Row3.drew {w : World} {g : Nat} {x y z : Int} (h : Row3 w g x y z) : Row3 w.drew g x y z := h
theorem repeat3 (ad : Addr) (c0 : Nat) (w : World) (hx : w.cell? ad = some (.int .i64 2)) : Calls Tryz.prog 106 #[.slice (some ad) 1 c0, .int .i64 3] w fun e w' => (∃ g cap, e = .returned (.slice (some ⟨g, 0, none⟩) 3 cap) /\ w.heap.size <= g /\ 3 <= cap /\ Row3 w' g 2 2 2) /\ Below w.heap.size w w' := by
 refine (repeat_any 3 (by decide) (by decide) ad c0 2 w hx).mono ?_
 rintro e w' ⟨v, rfl, hv, hb⟩;obtain ⟨g, cap, rfl, h1, h2, h3⟩ := Row3.of (x := 2) (y := 2) (z := 2) hv;exact ⟨⟨g, cap, rfl, h1, h2, h3⟩, hb⟩
theorem lists_any {w0 w : World} {gN gK gM : Nat} {back : Int} (h0 : 0 <= back) (h8 : back <= 8) (hV : Vars w0 gN gK gM back 0 w) :
  Calls Tryz.prog 213 #[.int .i64 3, .func (.func 214) #[] #[.pointer (some ⟨gN, 0, none⟩), .pointer (some ⟨gK, 0, none⟩), .pointer (some ⟨gM, 0, none⟩)]] w fun e w' => e = .returned (.tuple #[]) /\ Vars w0 gN gK gM back (rd Plain.backT back) w' := by
 have hmk : ∀ W : World, (Instr.makeSlice 22 (.int .i64 3) (.int .i64 3)).run Tryz.prog W = .ok (.slice (some ⟨W.heap.size, 0, none⟩) 3 3) (W.alloc (.cells (madeCells #[.int .i64 0] 3) 3)) := fun W => print_make (P := Tryz.prog) 22 3 .i64 8 Tryz.underlying22 info_int (by decide) 3 (by decide) W;have HV := am_ hV;have HA := am_ fun (W : World) (g0 g1 c0 c1 : Nat) => @all_any w0 W gN gK gM g0 g1 c0 c1 back h0 h8;clear h0 h8 hV;go_enter Tryz.func213, Tryz.ntmps213;have HM := am_ (blk_lt HV.out.bM);go_wp2
 go_region_held3 (fun W : World => True) (trivial) (first
  | (go_at_call 106; go_loud (refine (repeat3 _ _ _ (by refine (blk_cell (cs := #[.int .i64 2]) (t := 3) ?_ 0).trans rfl; first | (with_reducible exact blk_drew (blk_new _ _)) | (with_reducible exact blk_drew (blk_alloc (blk_new _ _) _)) | (with_reducible exact blk_drew (new2 _ _ _)))).mono ?_; rintro e w1 ⟨⟨g1, c1, rfl, hg1, hc1, hr1⟩, hb⟩; have HV1 : Aside0 (Vars w0 gN gK gM back 0 w1) := ⟨Vars.after (by with_reducible first | exact (HV.out.alloc _).drew | exact ((HV.out.alloc _).alloc _).drew) hb⟩; have HR1 := am_ hr1; have HC1 := am_ hc1; have HM1 : Aside0 (gM < w1.heap.size /\ g1 ≠ gM) := ⟨by have h1 := HM.out; have h2 := hb.size; simp at h2 hg1; omega⟩; (try (have HL1 : Aside0 (Row3 w1 w.heap.size 0 0 0) := ⟨Row3.after (by with_reducible exact Row3.drew ((Row3.new w).alloc _)) hb⟩)); (try (have HL2 : Aside0 (Row3 w1 (w.heap.size + 1) 0 0 0) := ⟨Row3.after (by with_reducible exact Row3.drew (Row3.new2 w _)) hb⟩)); clear hr1 hc1 hg1 hb))
  | (go_at_call 240; go_loud (first
    | refine (HA.out _ _ _ _ _ HV1.out HL1.out HR1.out ⟨Nat.ne_of_gt HM.out, HM1.out.2⟩ (by decide) HC1.out).mono ?_
    | refine (HA.out _ _ _ _ _ HV1.out HL2.out HR1.out ⟨Nat.ne_of_gt (Nat.lt_succ_of_lt HM.out), HM1.out.2⟩ (by decide) HC1.out).mono ?_
    | refine (HA.out _ _ _ _ _ (HV1.out.alloc _) (Row3.new w1) (HR1.out.alloc _) ⟨Nat.ne_of_gt HM1.out.1, HM1.out.2⟩ (by decide) HC1.out).mono ?_); rintro e w2 ⟨rfl, hV2⟩; have HV2 := am_ hV2; clear hV2))
 all_goals
  go_wp2
  go_end0
  first | exact ⟨rfl, HV2.out⟩ | exact ⟨rfl, HV2.out.drew⟩
theorem Vars.start (w : World) (back : Int) : Vars w w.heap.size (w.heap.size + 1) (w.heap.size + 2) back 0 (((w.alloc (.cells #[.int .i64 3] 3)).alloc (.cells #[.int .i64 back] 3)).alloc (.cells #[.int .i64 0] 3)) := by
 have h1 := new2 w (.cells #[.int .i64 3] 3) (.cells #[.int .i64 back] 3);have hn := blk_new ((w.alloc (.cells #[.int .i64 3] 3)).alloc (.cells #[.int .i64 back] 3)) (.cells #[.int .i64 0] 3)
 have hz : ((w.alloc (.cells #[.int .i64 3] 3)).alloc (.cells #[.int .i64 back] 3)).heap.size = w.heap.size + 2 := by simp
 rw [hz] at hn;exact ⟨below_alloc (below_alloc (below_alloc (Below.refl _ _) _) _) _, blk_alloc (blk_alloc (blk_new w _) _) _, blk_alloc h1 _, hn, ⟨by omega, by omega, by omega⟩⟩
theorem isTried_3 (w : World) : Calls Tryz.prog 211 #[.int .i64 3] w fun e w' => e = .returned (.bool true) /\ Drawn0 w w' := impl_isTried.calls 3 true w rfl
theorem isBack_i (n : Int) (w : World) : Calls Tryz.prog 212 #[.int .i64 n] w fun e w' => e = .returned (.bool (decide (0 <= n /\ n <= 8))) /\ Drawn0 w w' := impl_isBack.calls n _ w (by
 unfold impl_isBack.f impl_between.f
 by_cases h : 0 <= n /\ n <= 8
 · simp [h]
 · simp [h]; omega)
theorem back_any (n : Int) (hn : 0 <= n) (w : World) : Calls Tryz.prog 152 #[.int .i64 3, .int .i64 n] w (GotNum (Plain.backL n) w) := by
 have hi := isBack_i n;have HT := am_ isTried_3
 by_cases h : 0 <= n /\ n <= 8
 ·
  rw [decide_eq_true h] at hi;have HI := am_ hi;have HV := am_ (Vars.start w n);have HL := am_ fun (W : World) => @lists_any w W w.heap.size (w.heap.size + 1) (w.heap.size + 2) n h.1 h.2;rw [show Plain.backL n = some (rd Plain.backT n) by unfold Plain.backL; rw [if_pos h]]
  obtain ⟨r, hr⟩ : ∃ r, r = rd Plain.backT n := ⟨_, rfl⟩
  rw [<- hr] at HL ⊢;have hcN : ((w.alloc (.cells #[.int .i64 3] 3)).alloc (.cells #[.int .i64 n] 3)).cell? ⟨w.heap.size, 0, none⟩ = some (.int .i64 3) := (blk_cell (blk_alloc (blk_new w _) _) 0).trans rfl;have hcK : ((w.alloc (.cells #[.int .i64 3] 3)).alloc (.cells #[.int .i64 n] 3)).cell? ⟨w.heap.size + 1, 0, none⟩ = some (.int .i64 n) := (blk_cell (new2 w _ _) 0).trans rfl;have hcV := HV.out.cN;clear h hi hr hn;go_enter Tryz.func152, Tryz.ntmps152
  go_wp2_with (first
   | (go_at_call 211; go_loud (refine (HT.out _).mono ?_; rintro e w1 ⟨rfl, ⟨q, rfl⟩⟩))
   | (go_at_call 212; go_loud (refine (HI.out _).mono ?_; rintro e w1 ⟨rfl, ⟨q, rfl⟩⟩))
   | (go_at_call 213; go_loud (refine (HL.out _ (by first | exact HV.out.drewN _ | exact (HV.out.drewN _).drewN _)).mono ?_; rintro e w2 ⟨rfl, hV⟩; have HV2 := am_ hV; obtain ⟨hcM, hfM⟩ := hV.cM; clear hV)))
  go_ret2;exact ⟨_, rfl, fun m h => Option.some.inj h, HV2.out.below⟩
 ·
  rw [decide_eq_false h] at hi;have HI := am_ hi;rw [show Plain.backL n = none by unfold Plain.backL; rw [if_neg h]];have hcN : ((w.alloc (.cells #[.int .i64 3] 3)).alloc (.cells #[.int .i64 n] 3)).cell? ⟨w.heap.size, 0, none⟩ = some (.int .i64 3) := (blk_cell (blk_alloc (blk_new w _) _) 0).trans rfl;have hcK : ((w.alloc (.cells #[.int .i64 3] 3)).alloc (.cells #[.int .i64 n] 3)).cell? ⟨w.heap.size + 1, 0, none⟩ = some (.int .i64 n) := (blk_cell (new2 w _ _) 0).trans rfl;have HB := am_ (below_alloc (below_alloc (Below.refl w.heap.size w) (.cells #[.int .i64 3] 3)) (.cells #[.int .i64 n] 3));clear h hi hn;go_enter Tryz.func152, Tryz.ntmps152
  go_wp2_with (first
   | (go_at_call 211; go_loud (refine (HT.out _).mono ?_; rintro e w1 ⟨rfl, ⟨q, rfl⟩⟩))
   | (go_at_call 212; go_loud (refine (HI.out _).mono ?_; rintro e w1 ⟨rfl, ⟨q, rfl⟩⟩)))
  go_ret2;exact ⟨_, rfl, fun m h => (by cases h), by first | exact pw_below_drewN HB.out _ | exact pw_below_drewN (pw_below_drewN HB.out _) _⟩
end Go.Proofs.YtjdlhefjgceabaaGreatDoor.Hand
namespace Go.Proofs.YtjdlhefjgceabaaGreatDoor.Hand
open Go.RowKit Go.Proofs.YtjdlhefjgceabaaGreatDoorW.PrintWords Go.Proofs.YtjdlhefjgceabaaGreatDoorW.PrintLast Go.Proofs.YtjdlhefjgceabaaGreatDoorW.PrintMore Go.Proofs.YtjdlhefjgceabaaGreatDoor.PAll
set_option linter.unusedVariables false
set_option linter.unusedSimpArgs false
set_option maxRecDepth 100000
set_option maxHeartbeats 1000000
theorem spec_first (w : World) : Calls Tryz.prog 67 #[] w (GotDesk [0] firstT w) := by
 have HC := am_ fun (w : World) => spec_prEmpty.calls 20 7 (List.replicate 7 (-1)) w (by decide +kernel);have b1 := below_alloc (Below.refl w.heap.size w) (.cells #[.slice none 0 0, .slice none 0 0] 36)
 have e : (w.alloc (.cells #[.slice none 0 0, .slice none 0 0] 36)).heap.size = w.heap.size + 1 := by simp
 have HB := am_ (below_alloc b1 (.cells #[.int .i64 0] 3));have HK := am_ (blk_alloc (blk_new w (.cells #[.slice none 0 0, .slice none 0 0] 36)) (.cells #[.int .i64 0] 3));have hn := blk_new (w.alloc (.cells #[.slice none 0 0, .slice none 0 0] 36)) (.cells #[.int .i64 0] 3);rw [e] at hn
 have HL := am_ (show Kd.R (Kd.int .i64) 3 ((w.alloc (.cells #[.slice none 0 0, .slice none 0 0] 36)).alloc (.cells #[.int .i64 0] 3)) w.heap.size (fun _ => True) (.slice (some ⟨w.heap.size + 1, 0, none⟩) 1 1) [0] from
  Kd.R_of_own ⟨by simp [encs], .inr ⟨w.heap.size + 1, 1, _, rfl, Nat.le_succ _, hn, by simp, by simp [maxLen], by simp, by simp [encs]⟩⟩ (fun _ _ => trivial))
 clear b1 e hn;go_enter Tryz.func67, Tryz.ntmps67
 go_wp2_with (go_at_call 107; go_loud (refine (HC.out _).mono ?_; rintro e w1 ⟨v, rfl, hv, hb⟩; obtain ⟨A, c, rfl⟩ := Kd.R_slice hv; have hk := blk_below HK.out hb; have hc0 : w1.cell? ⟨w.heap.size, 0, none⟩ = some (.slice none 0 0) := blk_cell hk 0; have hc1 : w1.cell? ⟨w.heap.size, 1, none⟩ = some (.slice none 0 0) := blk_cell hk 1; have hf0 := blk_frozen hk 0; have hf1 := blk_frozen hk 1; have HK2 := am_ hk; have HNE := am_ (ne_new hv HL.out); have HV := am_ (Kd.R_lower hv (below_size HB.out)); have HL2 := am_ (Kd.R_below HL.out hb); have HE := am_ (below_step HB.out hb); clear hk hv hb))
 have HV2 := set2 (a := .slice (some ⟨w.heap.size + 1, 0, none⟩) 1 1) (b := .slice A 7 c) HK2.out HV.out (by decide);have HL3 := set2 (a := .slice (some ⟨w.heap.size + 1, 0, none⟩) 1 1) (b := .slice A 7 c) HK2.out HL2.out (by decide);exact bodyPost_ret (v := .agg #[.slice (some ⟨w.heap.size + 1, 0, none⟩) 1 1, .slice A 7 c]) (by simp [results, Tryz.results67, go_sem, hc0, hc1]) rfl ⟨_, _, rfl, HL3, HV2, fun k h1 h2 => HNE.out k h2 h1, below_set (below_set HE.out (Nat.le_refl _)) (Nat.le_refl _)⟩
section
variable {w w' : World} {e : Ending}
theorem got_list {o : Option (List Int)} (h : ∃ v0_, e = .returned (.tuple #[v0_, .bool (Plain.rowO o).2]) /\ Kd.R (Kd.int .i64) 3 w' w.heap.size (fun _ => True) v0_ (Plain.rowO o).1 /\ Below w.heap.size w w') : GotList o w e w' := by
 obtain ⟨v, rfl, h1, h2⟩ := h;exact ⟨v, _, rfl, h1, fun m hm => by subst hm; rfl, h2⟩
theorem got_num {o : Option Int} (h : e = .returned (.tuple #[.int .i64 (Plain.numO o).1, .bool (Plain.numO o).2]) /\ Below w.heap.size w w') : GotNum o w e w' := by
 obtain ⟨rfl, h2⟩ := h;exact ⟨_, rfl, fun m hm => by subst hm; rfl, h2⟩
theorem got_table {o : Option (List Int)} (h : ∃ v0_, e = .returned (.tuple #[.agg #[v0_], .bool (Plain.rowO o).2]) /\ Kd.R (Kd.int .i64) 3 w' w.heap.size (fun _ => True) v0_ (Plain.rowO o).1 /\ Below w.heap.size w w') : GotTable o w e w' := by
 obtain ⟨v, rfl, h1, h2⟩ := h;exact ⟨v, _, rfl, h1, fun m hm => by subst hm; rfl, h2⟩
theorem got_find {o : Option (Int × Int)} (h : e = .returned (.tuple #[.int .i64 (Plain.findO o).1, .int .i64 (Plain.findO o).2.1, .bool (Plain.findO o).2.2]) /\ Below w.heap.size w w') : GotFind o w e w' := by
 obtain ⟨rfl, h2⟩ := h;exact ⟨_, _, rfl, fun m hm => by subst hm; rfl, h2⟩
theorem got_class {l : List Int} (h : ∃ v0_, e = .returned (.tuple #[v0_, .int .i64 (Plain.clsR l).2.1, .bool (Plain.clsR l).2.2]) /\ Kd.R (Kd.int .i64) 3 w' w.heap.size (fun _ => True) v0_ (Plain.clsR l).1 /\ Below w.heap.size w w') : GotClass (Plain.clsO l) w e w' := by
 obtain ⟨v, rfl, h1, h2⟩ := h;exact ⟨v, _, _, rfl, h1, fun m hm => by unfold Plain.clsR; rw [hm]; rfl, h2⟩
theorem got_ins {t : List Int} (ht : Plain.table t = true) {n : Int} (h : ∃ v0_, e = .returned (.tuple #[.agg #[v0_], .int .i64 (Plain.insO (Plain.insL t n)).2.1, .bool (Plain.insO (Plain.insL t n)).2.2]) /\ Kd.R (Kd.int .i64) 3 w' w.heap.size (fun _ => True) v0_ (Plain.insO (Plain.insL t n)).1 /\ Below w.heap.size w w') : GotIns (Plain.insL t n) w e w' := by
 obtain ⟨v, rfl, h1, h2⟩ := h;refine ⟨v, _, _, rfl, h1, fun m hm => by rw [hm]; rfl, ?_, h2⟩
 cases hq : Plain.insL t n with
 | none => decide
 | some m => exact (Plain.ins_ok ht (t' := m.1) (a := m.2) hq).2
theorem got_below {r : Value} (h : e = .returned r /\ Drawn0 w w') : e = .returned r /\ Below w.heap.size w w' := ⟨h.1, h.2.below⟩
end
theorem impl_ok : ImplOk Plain.dom where
 isPark A c l w hL _ := by
  obtain ⟨k, hk⟩ := Plain.isParking_ev l;exact impl_isParking.calls k A c l _ w hL.1 hL.2 (hk k (Nat.le_refl _))
 next A c l w hL hp := by
  obtain ⟨k, hk⟩ := Plain.implNext_ev hp;exact (impl_NextParking.calls k A c l _ _ w hL.1 hL.2 (hk k (Nat.le_refl _))).mono fun e w' h => got_list h
 at_ n r w _ _ _ _ := by
  obtain ⟨k, hk⟩ := Plain.implAt_ev n r;exact (impl_ParkingAt.calls k n r _ _ w (hk k (Nat.le_refl _))).mono fun e w' h => got_list h
 cars A c l own w hL hp ho := by
  subst ho;obtain ⟨k, hk⟩ := Plain.implCars_ev hp;exact (impl_DriveCars.calls k A c l _ _ _ w hL.1 hL.2 (hk k (Nat.le_refl _))).mono fun e w' h => got_list (o := some (Plain.sdrive (l.length : Int) [] l)) h
 far A c l own w hL hp ho := by
  subst ho;obtain ⟨k, hk⟩ := Plain.implFar_ev hp;exact (impl_DistancesOf.calls k A c l _ _ _ w hL.1 hL.2 (hk k (Nat.le_refl _))).mono fun e w' h => got_list (o := some (Plain.dists l)) h
 cuts A c l w hL hp := by
  obtain ⟨k, hk⟩ := Plain.implCuts_ev hp;exact (impl_CutsOf.calls k A c l _ _ w hL.1 hL.2 (hk k (Nat.le_refl _))).mono fun e w' h => got_list (o := some (Plain.cutsL l)) h
 rank A c l w hL hp := by
  obtain ⟨k, hk⟩ := Plain.implRankParking_ev hp;exact (impl_RankParking.calls k A c l _ _ w hL.1 hL.2 (hk k (Nat.le_refl _))).mono fun e w' h => got_num (o := some (Plain.rankL l)) h
 join A c l A' c' m w hL hM hp _ := by
  obtain ⟨k, hk⟩ := Plain.implJoin_ev hp m;exact (impl_JoinParking.calls k A c l A' c' m _ _ w hL.1 hL.2 hM.1 hM.2 (hk k (Nat.le_refl _))).mono fun e w' h => got_list h
 cls A c l w hL _ := by
  obtain ⟨k, hk⟩ := Plain.implCls_ev l;exact (impl_ParkingOfClass.calls k A c l _ _ _ w hL.1 hL.2 (hk k (Nat.le_refl _))).mono fun e w' h => got_class h
 count n w _ _ := by
  obtain ⟨k, hk⟩ := Plain.implCount_ev n;exact (impl_CountParking.calls k n _ _ w (hk k (Nat.le_refl _))).mono fun e w' h => got_num h
 back n w h0 _ := back_any n h0 w
 empty n w _ _ := emptyT_any n w
 ins A c t n w hL ht _ _ := by
  obtain ⟨k, hk⟩ := Plain.implInsert_ev ht n;exact (impl_InsertKey.calls k A c t n _ _ _ w hL.1 hL.2 (hk k (Nat.le_refl _))).mono fun e w' h => got_ins ht h
 rem A c t n w hL ht _ _ := rem_any ht w hL
 find A c t n w hL ht _ _ := by
  obtain ⟨k, hk⟩ := Plain.implFind_ev ht n;exact (impl_FindKey.calls k A c t n _ _ _ w hL.1 hL.2 (hk k (Nat.le_refl _))).mono fun e w' h => got_find h
 cost A c t w hL ht := costOf_any ht w hL
theorem tab_in {t : List Int} (ht : Plain.table t = true) : t.length <= 12 /\ ∀ x ∈ t, -1 <= x /\ x <= 999 := Plain.dom_good.tab t ht
theorem spec_ok : SpecOk Plain.dom where
 split32 s w hs := by
  obtain ⟨k, hk⟩ := Plain.split_ev s 32 (by omega);exact spec_l1Split.calls k s _ _ w (hk k (Nat.le_refl _))
 split10 s w hs := by
  obtain ⟨k, hk⟩ := Plain.split_ev s 10 (by omega);exact spec_l1Split.calls k s _ _ w (hk k (Nat.le_refl _))
 shape s w := by
  obtain ⟨k, hk⟩ := Plain.shape_ev s;exact (spec_coShape.calls k s _ w (hk k (Nat.le_refl _))).mono fun e w' h => got_below h
 read s w hs := by
  obtain ⟨k, hk⟩ := Plain.read_ev s;exact (spec_l1Read.calls k s _ w (hk k (Nat.le_refl _))).mono fun e w' h => got_below h
 parse s w hs := by
  obtain ⟨k, hk⟩ := Plain.coParse_ev s (by omega);exact (spec_coParse.calls k s _ _ w (hk k (Nat.le_refl _))).mono fun e w' h => got_list (o := told s) h
 park A c l w hL _ := by
  obtain ⟨k, hk⟩ := Plain.paParking_ev l;exact spec_paParking.calls k A c l _ w hL.1 hL.2 (hk k (Nat.le_refl _))
 next A c l w hL hp := by
  obtain ⟨k, hk⟩ := Plain.specNext_ev hp;exact (spec_NextParking.calls k A c l _ _ w hL.1 hL.2 (hk k (Nat.le_refl _))).mono fun e w' h => got_list h
 at_ n r w _ _ _ _ := by
  obtain ⟨k, hk⟩ := Plain.specAt_ev n r;exact (spec_ParkingAt.calls k n r _ _ w (hk k (Nat.le_refl _))).mono fun e w' h => got_list h
 join A c l A' c' m w hL hM hp _ := by
  obtain ⟨k, hk⟩ := Plain.specJoin_ev hp m;exact (spec_JoinParking.calls k A c l A' c' m _ _ w hL.1 hL.2 hM.1 hM.2 (hk k (Nat.le_refl _))).mono fun e w' h => got_list h
 empty n w _ _ := by
  obtain ⟨k, hk⟩ := Plain.specEmpty_ev n;exact (spec_EmptyTable.calls k n _ _ w (hk k (Nat.le_refl _))).mono fun e w' h => got_table h
 ins A c t n w hL ht _ _ := by
  obtain ⟨k, hk⟩ := Plain.specInsert_ev ht n;exact (spec_InsertKey.calls k A c t n _ _ _ w hL.1 hL.2 (hk k (Nat.le_refl _))).mono fun e w' h => got_ins ht h
 rem A c t n w hL ht _ _ := srem_any ht w hL
 num n w h0 h := num_any n w h0 h
 text A c l w hL hf hp := text_spec A c l w hL hf hp
 cars A c l w hL hp := by
  obtain ⟨k, hk⟩ := Plain.specCars_ev hp;exact spec_paDrive.calls k A c l _ _ w hL.1 hL.2 (hk k (Nat.le_refl _))
 far A c l w hL hp := by
  obtain ⟨k, hk⟩ := Plain.specFar_ev hp;exact spec_paDistances.calls k A c l _ _ w hL.1 hL.2 (hk k (Nat.le_refl _))
 cuts A c l w hL hp := by
  obtain ⟨k, hk⟩ := Plain.paCuts_ev l (by have := Plain.parking_cars hp; omega);exact spec_paCuts.calls k A c l _ w hL.1 hL.2 (hk k (Nat.le_refl _))
 rank A c l w hL hp := by
  obtain ⟨k, hk⟩ := Plain.specRank_ev hp;exact (spec_RankParking.calls k A c l _ _ w hL.1 hL.2 (hk k (Nat.le_refl _))).mono fun e w' h => got_num (o := some (Plain.rankL l)) h
 count n w _ _ := by
  obtain ⟨k, hk⟩ := Plain.specCount_ev n;exact (spec_CountParking.calls k n _ _ w (hk k (Nat.le_refl _))).mono fun e w' h => got_num (got_below h)
 back n w _ _ := by
  obtain ⟨k, hk⟩ := Plain.specBack_ev n;exact (spec_CountBack.calls k 3 n _ _ w (hk k (Nat.le_refl _))).mono fun e w' h => got_num h
 cls A c l w hL _ := by
  obtain ⟨k, hk⟩ := Plain.specCls_ev l;exact (spec_ParkingOfClass.calls k A c l _ _ _ w hL.1 hL.2 (hk k (Nat.le_refl _))).mono fun e w' h => got_class h
 cost A c t w hL ht := by
  obtain ⟨k, hk⟩ := Plain.specCostOf_ev ht;exact (spec_CostOf.calls k A c t _ _ w hL.1 hL.2 (hk k (Nat.le_refl _))).mono fun e w' h => got_num (o := some (Plain.costL t)) h
 find A c t n w hL ht _ _ := by
  obtain ⟨k, hk⟩ := Plain.specFind_ev ht n;exact (spec_FindKey.calls k A c t n _ _ _ w hL.1 hL.2 (hk k (Nat.le_refl _))).mono fun e w' h => got_find h
 table A c t w hL ht := table_spec A c t w hL (by have := tab_in ht; omega) (tab_in ht).2
theorem eq_sameS {w : World} {A A1 : Option Addr} {c c1 : Nat} {l : List ByteArray} (h : Kd.C Kd.string w A l.length l) (hc : l.length <= c) (h1 : Kd.C Kd.string w A1 l.length l) (hc1 : l.length <= c1) (hl : l.length <= 59) : Calls Tryz.prog 16 #[.slice A l.length c, .slice A1 l.length c1] w fun e w' => e = .returned (.bool true) /\ Below w.heap.size w w' := by
 obtain ⟨k, hk⟩ := Plain.eqStringS_same l (by omega)
 exact (laws_eqStringS.calls k A c l A1 c1 l true w h hc h1 hc1 (hk k (Nat.le_refl _))).mono fun e w' h => ⟨h.1, h.2.below⟩
theorem mark_allS {w0 w : World} {A : Option Addr} {c : Nat} {l : List ByteArray} (hB : Below w0.heap.size w0 w) (h : Kd.R Kd.string 9 w w0.heap.size (fun _ => True) (.slice A l.length c) l) (hl : l.length <= 59) : Calls Tryz.prog 17 #[.slice A l.length c, .int .i64 1] w fun e w' => e = .returned (.int .i64 (1 + (l.length : Int))) /\ Kd.R Kd.string 9 w' w0.heap.size (fun _ => True) (.slice A l.length c) (Plain.iotaT l.length) /\ Below w0.heap.size w0 w' := by
 obtain ⟨k, hk⟩ := Plain.markStringS_ev l (by omega)
 exact (laws_markStringS.calls k _ _ l 1 _ _ w0 w hB h (hk k (Nat.le_refl _))).mono fun e w' h => ⟨h.1, Kd.R_mono h.2.1 (fun _ _ => trivial), h.2.2.1⟩
theorem held_allS {w : World} {A : Option Addr} {c n : Nat} (h : Kd.C Kd.string w A (Plain.iotaT n).length (Plain.iotaT n)) (hc : n <= c) (hl : n <= 59) : Calls Tryz.prog 18 #[.slice A n c, .int .i64 1] w fun e w' => e = .returned (.int .i64 (1 + (n : Int))) /\ Below w.heap.size w w' := by
 obtain ⟨k, hk⟩ := Plain.heldStringS_ev n (by omega);have h1 := laws_heldStringS.calls k A c (Plain.iotaT n) 1 _ w h (by rw [Plain.iotaT_length]; exact hc) (hk k (Nat.le_refl _));rw [Plain.iotaT_length] at h1;exact h1
theorem law_script (o : Option (List ByteArray)) (s : ByteArray) (w : World) (hS : ∀ w, Calls Tryz.prog 14 #[.string s] w (GotStr o w)) (hI : ∀ w, Glob w -> Calls Tryz.prog 15 #[.string s] w (GotStr o w)) (hG : Glob w) (hs : s.size <= 1048576) (hl : (o.getD []).length <= 59) :
  Calls Tryz.prog 4 #[.string s] w fun e w' => e = .returned (.bool true) /\ Below w.heap.size w w' := by
 have q0 : decide ((s.size : Int) > 1048576) = false := decide_eq_false (by omega)
 obtain ⟨l, hol⟩ : ∃ l, l = o.getD [] := ⟨_, rfl⟩
 obtain ⟨b, hob⟩ : ∃ b, b = o.isSome := ⟨_, rfl⟩
 obtain ⟨z, hz⟩ : ∃ z, z = 1 + (l.length : Int) := ⟨_, rfl⟩
 have hM := fun (w0 w : World) (A : Option Addr) (c : Nat) => @mark_allS w0 w A c l;have hH := fun (w : World) (A : Option Addr) (c : Nat) => @held_allS w A c l.length;unfold GotStr at hS hI;rw [<- hol] at hl;simp only [<- hol, <- hob] at hS hI;simp only [<- hz] at hM hH;have qz : decide (z < 0) = false := decide_eq_false (by omega);have HS := am_ hS;have HI := am_ hI;have HM := am_ hM;have HH := am_ hH;have HG := am_ hG;have HL := am_ hl;clear hS hI hM hH hG hl hol hob hz hs;cases b
 all_goals
  go_enter Tryz.func4, Tryz.ntmps4
  go_wp2_with (go_at_call 14; go_loud (refine (HS.out _).mono ?_; rintro e w1 ⟨v, rfl, hv, hb⟩; obtain ⟨A0, c0, rfl⟩ := Kd.R_slice hv; have HV0 := am_ hv; have HB := am_ hb; clear hv hb))
  go_wp2_with (go_at_call 15; go_loud (refine (HI.out _ (HG.out.below HB.out)).mono ?_; rintro e w2 ⟨v, rfl, hv, hb⟩; obtain ⟨A1, c1, rfl⟩ := Kd.R_slice hv; have HV1 := am_ hv; have HB1 := am_ hb; clear hv hb))
  go_wp2_with (go_at_call 16; go_loud (refine (eq_sameS (Kd.R_reads' HV1.out).2.2 (Kd.R_reads' HV1.out).2.1 (Kd.R_reads' (Kd.R_below HV0.out HB1.out)).2.2 (Kd.R_reads' HV0.out).2.1 HL.out).mono ?_; rintro e w3 ⟨rfl, hb⟩; replace HV1 := am_ (Kd.R_below HV1.out hb); replace HB1 := am_ (below_step HB1.out hb); clear hb))
  go_wp2_with (go_at_call 17; go_loud (refine (HM.out _ _ _ _ HB1.out HV1.out HL.out).mono ?_; rintro e w4 ⟨rfl, hv, hb⟩; replace HV1 := am_ hv; replace HB1 := am_ hb; clear hv hb))
  go_wp2_with (go_at_call 18; go_loud (refine (HH.out _ _ _ (Kd.R_reads' HV1.out).2.2 (Kd.R_reads' HV1.out).2.1 HL.out).mono ?_; rintro e w5 ⟨rfl, hb⟩; replace HV1 := am_ (Kd.R_below HV1.out hb); replace HB1 := am_ (below_step HB1.out hb); clear hb))
  go_wp2_with (go_at_call 15; go_loud (refine (HI.out _ (HG.out.below (below_step HB.out HB1.out))).mono ?_; rintro e w6 ⟨v, rfl, hv, hb⟩; obtain ⟨A2, c2, rfl⟩ := Kd.R_slice hv; have HV2 := am_ hv; replace HV1 := am_ (Kd.R_below HV1.out hb); replace HB1 := am_ (below_step HB1.out hb); clear hv hb))
  go_wp2_with (go_at_call 16; go_loud (refine (eq_sameS (Kd.R_reads' HV2.out).2.2 (Kd.R_reads' HV2.out).2.1 (Kd.R_reads' (Kd.R_below HV0.out HB1.out)).2.2 (Kd.R_reads' HV0.out).2.1 HL.out).mono ?_; rintro e w7 ⟨rfl, hb⟩; replace HV1 := am_ (Kd.R_below HV1.out hb); replace HB1 := am_ (below_step HB1.out hb); clear hb))
  go_wp2_with (go_at_call 18; go_loud (refine (HH.out _ _ _ (Kd.R_reads' HV1.out).2.2 (Kd.R_reads' HV1.out).2.1 HL.out).mono ?_; rintro e w8 ⟨rfl, hb⟩; replace HB1 := am_ (below_step HB1.out hb); clear hb))
  go_ret;exact ⟨rfl, below_step HB.out HB1.out⟩
theorem law_script_big (s : ByteArray) (w : World) (hs : 1048576 < s.size) :
  Calls Tryz.prog 4 #[.string s] w fun e w' => e = .returned (.bool true) /\ Below w.heap.size w w' := by
 have q0 : decide ((s.size : Int) > 1048576) = true := decide_eq_true (by omega);have HB := am_ (Below.refl w.heap.size w);go_enter Tryz.func4, Tryz.ntmps4;go_wp2;go_ret;exact ⟨rfl, HB.out⟩
end Go.Proofs.YtjdlhefjgceabaaGreatDoor.Hand
namespace Go.Proofs.YtjdlhefjgceabaaGreatDoor.Hand
open Go.RowKit Go.Proofs.YtjdlhefjgceabaaGreatDoorW.PrintWords Go.Proofs.YtjdlhefjgceabaaGreatDoorW.PrintLast
set_option linter.unusedVariables false
theorem scriptP_few (s : ByteArray) : ((scriptP Plain.dom s).getD []).length <= 59 := by
 unfold scriptP
 cases h : runP Plain.dom s with
 | none => exact Nat.zero_le _
 | some x =>
  have h1 := (runP_length Plain.dom_good Plain.dom_park0 Plain.dom_first h).1;show x.2.2.length <= 59;omega
theorem law_every_script (s : ByteArray) (w : World) (hG : Glob w) :
  Calls Tryz.prog 4 #[.string s] w fun e w' => e = .returned (.bool true) /\ Below w.heap.size w w' := by
 by_cases hs : s.size <= 1048576
 · exact law_script (scriptP Plain.dom s) s w (fun w => spec_script Plain.dom s w (spec_run_any Plain.dom Plain.dom_good Plain.dom_pos spec_ok Plain.dom_park0 Plain.dom_first spec_first s (by omega) w)) (fun w hG => impl_script_any Plain.dom Plain.dom_good impl_ok Plain.dom_park0 Plain.dom_first impl_first s (by omega) w hG) hG hs (scriptP_few s)
 · exact law_script_big s w (by omega)
end Go.Proofs.YtjdlhefjgceabaaGreatDoor.Hand
