/- The console's replies in numbers and lists, and the reading of numbers. Conditions: lists of at most 1000 numbers, texts below 2^30 bytes; the library's variables hold what their initialisers lay. -/
import Derived.Test.YtjdlhefjgceabaaGreatDoorHm
import Derived.WideLaws
import Derived.Deep.RegionWith
namespace Go.Proofs.YtjdlhefjgceabaaGreatDoor.Hand
open Go.RowKit Go.Proofs.YtjdlhefjgceabaaGreatDoorW.PrintWords Go.Proofs.YtjdlhefjgceabaaGreatDoorW.PrintLast Go.Proofs.YtjdlhefjgceabaaGreatDoorW.PrintMore
set_option linter.unusedVariables false
set_option linter.unusedSimpArgs false
set_option maxRecDepth 100000
set_option maxHeartbeats 4000000
def GotList (o : Option (List Int)) (w : World) (e : Ending) (w' : World) : Prop := ∃ v l, e = .returned (.tuple #[v, .bool o.isSome]) /\ Kd.R (Kd.int .i64) 3 w' w.heap.size (fun _ => True) v l /\ (∀ m, o = some m -> l = m) /\ Below w.heap.size w w'
def GotNum (o : Option Int) (w : World) (e : Ending) (w' : World) : Prop := ∃ n, e = .returned (.tuple #[.int .i64 n, .bool o.isSome]) /\ (∀ m, o = some m -> n = m) /\ Below w.heap.size w w'
def dashB (l : List Int) : ByteArray := if l = [] then ⟨#[45]⟩ else numsB l ⟨#[44]⟩
theorem orDash_any (A0 : Option Addr) (c0 : Nat) (l : List Int) (w : World) (hr0 : Kd.C (Kd.int .i64) w A0 l.length l) (hl : l.length <= 10000) (hn : ∀ x ∈ l, I64 x) (hG : Glob w) :
  Calls Tryz.prog 146 #[.slice A0 l.length c0] w fun e w' => e = .returned (.string (dashB l)) /\ Below w.heap.size w w' := by
 have HC := am_ (joined_any A0 c0 l ⟨#[44]⟩ w hr0 hl (by decide) hn hG);clear hr0 hn hG;unfold dashB
 by_cases h : l = []
 ·
  subst h;go_enter Tryz.func146, Tryz.ntmps146;go_wp2;go_ret;exact ⟨rfl, Below.refl _ _⟩
 ·
  have q1 : ((l.length : Int) == 0) = false := by
   have : l.length ≠ 0 := fun e => h (List.eq_nil_of_length_eq_zero e);exact beq_eq_false_iff_ne.2 (by omega)
  rw [if_neg h];clear h;go_enter Tryz.func146, Tryz.ntmps146
  go_wp2_with (go_at_call 158; refine HC.out.mono ?_; rintro e w1 ⟨rfl, hb⟩)
  go_ret;exact ⟨rfl, hb⟩
def noB : ByteArray := ⟨#[110, 111]⟩
theorem ofList_no (v : Value) (w : World) : Calls Tryz.prog 139 #[v, .bool false] w fun e w' => e = .returned (.string noB) /\ Below w.heap.size w w' := by
 go_enter Tryz.func139, Tryz.ntmps139;go_wp2;go_ret;exact ⟨rfl, Below.refl _ _⟩
theorem ofList_yes (A0 : Option Addr) (c0 : Nat) (l : List Int) (w : World) (hr0 : Kd.C (Kd.int .i64) w A0 l.length l) (hl : l.length <= 10000) (hn : ∀ x ∈ l, I64 x) (hG : Glob w) :
  Calls Tryz.prog 139 #[.slice A0 l.length c0, .bool true] w fun e w' => e = .returned (.string (dashB l)) /\ Below w.heap.size w w' := by
 have HC := am_ (orDash_any A0 c0 l w hr0 hl hn hG);clear hr0 hn hG hl;go_enter Tryz.func139, Tryz.ntmps139
 go_wp2_with (go_at_call 146; refine HC.out.mono ?_; rintro e w1 ⟨rfl, hb⟩)
 go_ret;exact ⟨rfl, hb⟩
theorem ofNumber_no (v : Value) (w : World) : Calls Tryz.prog 143 #[v, .bool false] w fun e w' => e = .returned (.string noB) /\ Below w.heap.size w w' := by
 go_enter Tryz.func143, Tryz.ntmps143;go_wp2;go_ret;exact ⟨rfl, Below.refl _ _⟩
theorem ofNumber_yes (n : Int) (w : World) (hn : I64 n) (hG : Glob w) :
  Calls Tryz.prog 143 #[.int .i64 n, .bool true] w fun e w' => e = .returned (.string (itoaB n)) /\ Below w.heap.size w w' := by
 have HC := am_ (itoa_any n hn w hG);clear hn hG;go_enter Tryz.func143, Tryz.ntmps143
 go_wp2_with (go_at_call 98; refine HC.out.mono ?_; rintro e w1 ⟨rfl, hb⟩)
 go_ret;exact ⟨rfl, hb⟩
def cellB (k : Int) : ByteArray := if k < 0 then ⟨#[46]⟩ else itoaB k
def textB (t : List Int) : ByteArray := joinB (t.map cellB) ⟨#[32]⟩
theorem text_any (A0 : Option Addr) (c0 : Nat) (l : List Int) (w : World) (hr0 : Kd.C (Kd.int .i64) w A0 l.length l) (hl : l.length <= 10000) (hn : ∀ x ∈ l, I64 x) (hG : Glob w) :
  Calls Tryz.prog 62 #[.agg #[.slice A0 l.length c0]] w fun e w' => e = .returned (.string (textB l)) /\ Below w.heap.size w w' := by
 have hu := Tryz.underlying34
 have HL : Aside0 (l.length <= 10000) := ⟨hl⟩
 have HN := am_ hn;have HR0 := am_ hr0;have HG := am_ hG;clear hr0 hl hn hG
 obtain ⟨w0, hw0⟩ : ∃ w0, w0 = w.alloc (.cells #[.slice A0 l.length c0] 34) := ⟨_, rfl⟩
 have HB := am_ (show Below w.heap.size w (w0.alloc (.cells #[] 9)) from below_alloc (by rw [hw0]; exact below_alloc (Below.refl _ _) _) _);have hO := made_S w0
 have hz : w0.heap.size = w.heap.size + 1 := by rw [hw0]; simp
 rw [hz] at hO;have HO := am_ (Kd.R_lower (base' := w.heap.size) hO (by omega));clear hz hO;subst hw0;go_enter Tryz.func62, Tryz.ntmps62;go_wp2
 go_loopg [3, 10] l.length (fun kq v3 v10 w' => ∃ (i : Nat) (iz : Int), v10 = .int .i64 iz /\ Aside0 (iz = (i : Int)) /\ Aside0 (i + kq = l.length) /\ Aside0 (Kd.R Kd.string 9 w' w.heap.size (fun _ => True) v3 ((l.take i).map cellB)) /\ Aside0 (Below w.heap.size w w'))
 case atStart => exact ⟨0, 0, rfl, ⟨rfl⟩, ⟨by omega⟩, HO, HB⟩
 case round =>
  clear HO HB;obtain ⟨i, iz, rfl, NI, NK, HO, HB⟩ := hrel
  cases gk with
  | zero =>
   have hi : i = l.length := by have := NK.out; omega
   subst hi;rw [List.take_length] at HO;have q1 : decide (iz < (l.length : Int)) = false := decide_eq_false (by have := NI.out; omega)
   go_wp2_with (go_at_call 99; refine (join_any _ _ _ _ w.heap.size 20 (by omega) HO.out (by rw [List.length_map]; have := HL.out; omega) (fun x hx => by
    obtain ⟨n, h1, rfl⟩ := List.mem_map.1 hx;unfold cellB
    split
    · decide
    · exact itoa_length n (HN.out n h1)) (by decide)).mono ?_; rintro e w1 ⟨rfl, hb⟩)
   go_ret;exact ⟨rfl, below_step HB.out hb⟩
  | succ d =>
   have hi0 : 0 <= iz := by have := NI.out; omega
   have hin : iz < (l.length : Int) := by have := NI.out; have := NK.out; omega
   have q1 : decide (iz < (l.length : Int)) = true := decide_eq_true hin;obtain ⟨ad0, e0, hx⟩ := Kd.at_int (Kd.C_below HR0.out HB.out) iz hi0 hin;cases e0
   have hi1 : i < l.length := by have := NK.out; omega
   have HX := am_ (show I64 (rd l iz) from HN.out _ (by rw [NI.out, rd_at l i hi1]; exact List.getElem_mem _));have HE := am_ (show (l.take i).map cellB ++ [cellB (rd l iz)] = (l.take (i + 1)).map cellB by rw [NI.out]; exact take_map_rd cellB l i hi1);have HLt := am_ (show ((l.take i).map cellB).length < 8796093022208 by rw [List.length_map, List.length_take]; have := HL.out; omega);have HI := am_ (show wrap64 (iz + 1) = ((i + 1 : Nat) : Int) by rw [NI.out]; have := NK.out; have := HL.out; rw [wrap64_in _ (by omega) (by omega)]; omega);clear hi1;replace hi0 := eq_true hi0;replace hin := eq_true hin
   by_cases hk : rd l iz < 0
   ·
    have q2 : decide (rd l iz < 0) = true := decide_eq_true hk;have HD := am_ (show cellB (rd l iz) = ⟨#[46]⟩ from if_pos hk);clear hk
    go_wp2_with (at_builtin; refine apS_ (.tmp 16) (.tmp 17) _ _ _ HO.out HB.out HLt.out ?_; intro v1 w1 ho hb _; rw [<- HD.out] at ho; replace HO := am_ ho; replace HB := am_ hb; clear ho hb)
    go_roundg d
    case measure => omega
    case rel => exact ⟨i + 1, _, rfl, HI, ⟨by have := NK.out; omega⟩, ⟨by rw [<- HE.out]; exact HO.out⟩, HB⟩
   ·
    have q2 : decide (rd l iz < 0) = false := decide_eq_false hk;have HD := am_ (show cellB (rd l iz) = itoaB (rd l iz) from if_neg hk);clear hk
    go_wp2_with (first
     | (go_at_call 98; refine (itoa_any _ HX.out _ gb_).mono ?_; rintro e w1 ⟨rfl, hb⟩; replace HB := am_ (below_step bw_ hb); replace HO := am_ (Kd.R_below HO.out hb); clear hb)
     | (at_builtin; refine apS_ (.tmp 19) (.tmp 22) _ _ _ HO.out HB.out HLt.out ?_; intro v1 w1 ho hb _; rw [<- HD.out] at ho; replace HO := am_ ho; replace HB := am_ hb; clear ho hb))
    go_roundg d
    case measure => omega
    case rel => exact ⟨i + 1, _, rfl, HI, ⟨by have := NK.out; omega⟩, ⟨by rw [<- HE.out]; exact HO.out⟩, HB⟩
theorem ba_t (a b : ByteArray) (h : a = b) : (a.toList == b.toList) = true := by rw [h]; simp
theorem ba_f (a b : ByteArray) (h : a ≠ b) : (a.toList == b.toList) = false := by
 rw [beq_eq_false_iff_ne, Lib.toList_data, Lib.toList_data];intro e; apply h; cases a; cases b; congr 1; exact Array.ext' e
theorem ba_nil {s : ByteArray} (h : s.size = 0) : s.toList = [] := by
 rw [Lib.toList_data];exact List.eq_nil_of_length_eq_zero (by rw [Array.length_toList]; exact h)
theorem ba_nil' {s : ByteArray} (h : s.toList = []) : s.size = 0 := by
 rw [Lib.toList_data] at h;have := congrArg List.length h;rw [Array.length_toList] at this;exact this
theorem err_iface : Tryz.prog.underlying 143 = some (.interface (Tryz.prog.methodsAt 143)) := by kernel_rfl
def rdNum (s : ByteArray) : Option Int := match Lib.atoiAll s.data.toList with
 | .ok n => if Lib.itoa n = s.data.toList then some n else none
 | _ => none
theorem itoaB_eq (n : Int) (s : ByteArray) : itoaB n = s ↔ Lib.itoa n = s.data.toList := by
 unfold itoaB
 constructor
 · rintro rfl; rfl
 · intro h; rw [h]
theorem ends3 {α : Type} (x : Lib.NumEnd α) : x = Lib.NumEnd.syntax \/ x = .range \/ ∃ n, x = .ok n := by
 cases x
 · exact .inr (.inr ⟨_, rfl⟩)
 · exact .inl rfl
 · exact .inr (.inl rfl)
theorem readNumber_any (s : ByteArray) (w : World) (hs : s.size <= 1073741824) (hG : Glob w) :
  Calls Tryz.prog 150 #[.string s] w (GotNum (rdNum s) w) := by
 have he1 : ∀ (W : World) u x, (binOp .eql 143 (.iface u x) .nilIface).run Tryz.prog W = .ok (.bool false) W := fun W u x => run_eql_held_nil W _ u x err_iface;have he2 : ∀ W : World, (binOp .eql 143 .nilIface .nilIface).run Tryz.prog W = .ok (.bool true) W := fun W => run_eql_nil_nil W _ err_iface;have HG := am_ hG;obtain ⟨tp1, p1, hsyn⟩ := hG.syn;obtain ⟨tp2, p2, hran⟩ := hG.ran;unfold rdNum
 rcases ends3 (Lib.atoiAll s.data.toList) with hA | hA | ⟨n, hA⟩
 ·
  rw [hA];dsimp only;have HC := am_ (Tryz.strconv_Atoi_syntax_var s (by omega) hA tp1 p1 w hsyn);clear hA hsyn hran hG hs;go_enter Tryz.func150, Tryz.ntmps150
  go_wp2_with (go_at_call 210; refine HC.out.mono ?_; rintro e w1 ⟨N, rfl, _, _, hb⟩)
  go_ret2;exact ⟨_, rfl, fun m h => (by cases h), hb⟩
 ·
  rw [hA];dsimp only;have HC := am_ (Tryz.strconv_Atoi_range_var s (by omega) hA tp2 p2 w hran);have HI := am_ (show I64 (Lib.atoiSat s.data.toList) from Lib.atoiSat_bounds _);clear hA hsyn hran hG hs;go_enter Tryz.func150, Tryz.ntmps150
  go_wp2_with (go_at_call 210; refine HC.out.mono ?_; rintro e w1 ⟨N, rfl, _, _, hb⟩)
  go_ret2;exact ⟨_, rfl, fun m h => (by cases h), hb⟩
 ·
  rw [hA];have HI := am_ (show I64 n from Lib.atoiAll_bounds hA)
  have HC := am_ ((Tryz.strconv_Atoi_ok s (by omega) n hA w).mono (R' := fun e w' => e = .returned (.tuple #[.int .i64 n, .nilIface]) /\ Below w.heap.size w w') fun e w' h => ⟨h.1, by
   obtain ⟨_, rfl | ⟨t, rfl⟩⟩ := h
   · exact Below.refl _ _
   · exact Lib.bytesWorld_below _ _ _⟩)
  clear hA hsyn hran hG hs
  by_cases hq : Lib.itoa n = s.data.toList
  ·
   have q1 := ba_t _ _ ((itoaB_eq n s).2 hq);dsimp only;rw [if_pos hq];clear hq;go_enter Tryz.func150, Tryz.ntmps150
   go_wp2_with (first
    | (go_at_call 210; refine HC.out.mono ?_; rintro e w1 ⟨rfl, hb⟩; have HB := am_ hb; clear hb)
    | (go_at_call 98; refine (itoa_any _ HI.out _ gb_).mono ?_; rintro e w2 ⟨rfl, hb⟩; replace HB := am_ (below_step bw_ hb); clear hb))
   go_ret2;exact ⟨_, rfl, fun m h => (by cases h; rfl), HB.out⟩
  ·
   have q1 := ba_f _ _ fun h => hq ((itoaB_eq n s).1 h);dsimp only;rw [if_neg hq];clear hq;go_enter Tryz.func150, Tryz.ntmps150
   go_wp2_with (first
    | (go_at_call 210; refine HC.out.mono ?_; rintro e w1 ⟨rfl, hb⟩; have HB := am_ hb; clear hb)
    | (go_at_call 98; refine (itoa_any _ HI.out _ gb_).mono ?_; rintro e w2 ⟨rfl, hb⟩; replace HB := am_ (below_step bw_ hb); clear hb))
   go_ret2;exact ⟨_, rfl, fun m h => (by cases h), HB.out⟩
def rdNums : List ByteArray -> Option (List Int)
 | [] => some []
 | s :: r => match rdNum s with
  | some n => (rdNums r).map (n :: ·)
  | none => none
theorem rdNums_snoc : ∀ (l : List ByteArray) (s : ByteArray), rdNums (l ++ [s]) = match rdNums l, rdNum s with | some a, some n => some (a ++ [n]) | _, _ => none
 | [], s => by simp only [List.nil_append, rdNums]; cases rdNum s <;> rfl
 | x :: r, s => by
  simp only [List.cons_append, rdNums];rw [rdNums_snoc r s]
  cases rdNum x with
  | none => rfl
  | some n => cases rdNums r <;> cases rdNum s <;> rfl
theorem rdNums_none {l : List ByteArray} {i : Nat} (h : i < l.length) (hn : rdNum l[i] = none) : rdNums l = none := by
 induction l generalizing i with
 | nil => simp at h
 | cons x r ih =>
  simp only [rdNums]
  cases i with
  | zero => simp at hn; rw [hn]
  | succ i =>
   rw [ih (i := i) (by simpa using h) (by simpa using hn)]
   cases rdNum x <;> rfl
theorem rdNums_length : ∀ (l : List ByteArray) (a : List Int), rdNums l = some a -> a.length = l.length
 | [], a, h => by cases h; rfl
 | x :: r, a, h => by
  simp only [rdNums] at h
  cases hx : rdNum x with
  | none => rw [hx] at h; cases h
  | some n =>
   rw [hx] at h
   cases hr : rdNums r with
   | none => rw [hr] at h; cases h
   | some b =>
    rw [hr] at h;obtain rfl := Option.some.inj h;simp [rdNums_length r b hr]
def rdList (s sep : ByteArray) : Option (List Int) := if s.size = 0 then some [] else rdNums (Lib.splitB sep 0 (Lib.countB s sep) s)
theorem splitB_size (sep : ByteArray) : ∀ (k : Nat) (s : ByteArray) (x : ByteArray), x ∈ Lib.splitB sep 0 k s -> x.size <= s.size
 | 0, s, x, h => by
  rw [Lib.splitB_zero] at h;obtain rfl := List.mem_singleton.1 h;exact Nat.le_refl _
 | k + 1, s, x, h => by
  unfold Lib.splitB at h
  split at h
  ·
   obtain rfl := List.mem_singleton.1 h;exact Nat.le_refl _
  ·
   rcases List.mem_cons.1 h with rfl | h
   · simp [ByteArray.size_extract]; omega
   ·
    have := splitB_size sep k _ x h;simp [ByteArray.size_extract] at this;omega
theorem readNumbers_any (s sep : ByteArray) (w : World) (hs : s.size <= 1000000) (h1 : sep.size = 1) (hG : Glob w) :
  Calls Tryz.prog 205 #[.string s, .string sep] w (GotList (rdList s sep) w) := by
 unfold rdList
 by_cases h0 : s.size = 0
 ·
  have q1 : (s.toList == ([] : List UInt8)) = true := by rw [ba_nil h0]; rfl
  rw [if_pos h0];clear h0 hG;have HO := am_ (made_I w);have HB := am_ (show Below w.heap.size w (w.alloc (.cells #[] 3)) from below_alloc (Below.refl _ _) _);go_enter Tryz.func205, Tryz.ntmps205;go_wp2;go_ret2;exact ⟨_, [], rfl, HO.out, fun m h => (by cases h; rfl), HB.out⟩
 ·
  have q1 : (s.toList == ([] : List UInt8)) = false := by
   rw [beq_eq_false_iff_ne];exact fun e => h0 (ba_nil' e)
  rw [if_neg h0];clear h0;obtain ⟨m, hm⟩ := hG.len;have HG := am_ hG;clear hG
  obtain ⟨ps, hps⟩ : ∃ ps, ps = Lib.splitB sep 0 (Lib.countB s sep) s := ⟨_, rfl⟩
  have hpl : ps.length = Lib.countB s sep + 1 := by rw [hps]; exact Lib.splitB_all sep (by omega) 0 _ s rfl
  have hpz : ∀ x ∈ ps, x.size <= 1000000 := fun x hx => by rw [hps] at hx; have := splitB_size sep _ s x hx; omega
  have hcl : Lib.countB s sep <= 1000000 := by have := Lib.countB_le sep (by omega) s.size s (Nat.le_refl _); omega
  have HC := am_ ((Tryz.strings_Split s sep m (w.alloc (.cells #[] 3)) (by omega) (by rw [World.cell?_alloc_old _ _ _ (Nat.ne_of_lt (World.block_lt_of_cell? _ _ hm))]; exact hm) (by omega)).mono (R' := fun e w' => e = .returned (.slice (some ⟨w.heap.size + 1, 0, none⟩) ps.length ps.length) /\ Below w.heap.size w w' /\ Kd.R (Kd.int .i64) 3 w' w.heap.size (fun _ => True) (.slice (some ⟨w.heap.size, 0, none⟩) 0 0) [] /\ w'.heap[w.heap.size + 1]? = some (.cells (ps.map Value.string).toArray 9 (0, 0))) fun e w' h => by
   obtain ⟨h1, h2⟩ := h;rw [<- hps] at h2
   have hsz : (w.alloc (.cells #[] 3)).heap.size = w.heap.size + 1 := by simp
   rw [hsz] at h1;refine ⟨by rw [h1, hpl], ?_, ?_, ?_⟩
   · rw [h2]; exact below_alloc (below_alloc (Below.refl _ _) _) _
   · rw [h2]; exact Kd.R_alloc (made_I w) _
   ·
    rw [h2];have := blk_new (w.alloc (.cells #[] 3)) (.cells (ps.map Value.string).toArray 9);rw [hsz] at this
    exact this)
  have HPL : Aside0 (ps.length <= 1000001) := ⟨by omega⟩
  have HPZ := am_ hpz;clear hm hpl hpz hcl;rw [<- hps];clear hps hs h1;go_enter Tryz.func205, Tryz.ntmps205
  go_wp2_with (go_at_call 77; refine HC.out.mono ?_; rintro e w1 ⟨rfl, hb, ho, hc⟩; have HB := am_ hb; have HO := am_ ho; have HP := am_ hc; clear hb ho hc)
  go_loopg [6, 19] ps.length (fun kq v6 v19 w' => ∃ (i : Nat) (iz : Int) (l : List Int), v19 = .int .i64 iz /\ Aside0 (iz = (i : Int)) /\ Aside0 (i + kq = ps.length) /\ Aside0 (rdNums (ps.take i) = some l) /\ Aside0 (w'.heap[w.heap.size + 1]? = some (.cells (ps.map Value.string).toArray 9 (0, 0))) /\ Aside0 (Kd.R (Kd.int .i64) 3 w' w.heap.size (fun _ => True) v6 l) /\ Aside0 (Below w.heap.size w w'))
  case atStart => exact ⟨0, 0, [], rfl, ⟨rfl⟩, ⟨by omega⟩, ⟨rfl⟩, HP, HO, HB⟩
  case round =>
   clear HO HB HP;obtain ⟨i, iz, l, rfl, NI, NK, NL, HP, HO, HB⟩ := hrel
   cases gk with
   | zero =>
    have hi : i = ps.length := by have := NK.out; omega
    subst hi;rw [List.take_length] at NL;have q1 : decide (iz < (ps.length : Int)) = false := decide_eq_false (by have := NI.out; omega);go_wp2;go_ret2;exact ⟨_, l, by rw [NL.out]; rfl, HO.out, fun m h => (by rw [NL.out] at h; cases h; rfl), HB.out⟩
   | succ d =>
    have hi0 : 0 <= iz := by have := NI.out; omega
    have hin : iz < (ps.length : Int) := by have := NI.out; have := NK.out; omega
    have q1 : decide (iz < (ps.length : Int)) = true := decide_eq_true hin
    have hi1 : i < ps.length := by have := NK.out; omega
    obtain ⟨x, hx⟩ : ∃ x, x = ps[i] := ⟨_, rfl⟩
    have hxc : wr.cell? ⟨w.heap.size + 1, iz.toNat, none⟩ = some (.string x) := (blk_cell HP.out _).trans (by rw [NI.out, Int.toNat_natCast, hx]; simp [hi1]);have HXZ := am_ (show x.size <= 1073741824 by have := HPZ.out x (by rw [hx]; exact List.getElem_mem _); omega);have HT := am_ (show ps.take (i + 1) = ps.take i ++ [x] by rw [List.take_succ_eq_append_getElem hi1, hx]);have HXN := am_ (show rdNum x = none -> rdNums ps = none from fun h => rdNums_none hi1 (by rw [<- hx]; exact h));have HLt := am_ (show l.length < 17592186044416 by have := rdNums_length _ _ NL.out; rw [List.length_take] at this; have := HPL.out; omega);have HI := am_ (show wrap64 (iz + 1) = ((i + 1 : Nat) : Int) by rw [NI.out]; have := NK.out; have := HPL.out; rw [wrap64_in _ (by omega) (by omega)]; omega);clear hi1 hx;replace hi0 := eq_true hi0;replace hin := eq_true hin
    cases hq : rdNum x with
    | none =>
     have HN := am_ (HXN.out hq);have HRN := am_ (show (rdNum x).isSome = false by rw [hq]; rfl);clear hq
     go_wp2_with (go_at_call 150; refine (readNumber_any x _ HXZ.out gb_).mono ?_; rintro e w1 ⟨n, rfl, _, hb⟩; rw [HRN.out]; replace HB := am_ (below_step bw_ hb); clear hb)
     go_ret2;exact ⟨_, [], by rw [HN.out]; rfl, Kd.R_nil _ _ _ _ _, fun m h => (by rw [HN.out] at h; cases h), HB.out⟩
    | some n =>
     have HRN := am_ (show (rdNum x).isSome = true by rw [hq]; rfl);have HNS := am_ (show rdNums (ps.take (i + 1)) = some (l ++ [n]) by rw [HT.out, rdNums_snoc, NL.out, hq]);have HQ := am_ hq;clear hq
     go_wp2_with (first
      | (go_at_call 150; refine (readNumber_any x _ HXZ.out gb_).mono ?_; rintro e w1 ⟨n', rfl, hn', hb⟩; obtain rfl := hn' _ HQ.out; rw [HRN.out]; replace HB := am_ (below_step bw_ hb); replace HO := am_ (Kd.R_below HO.out hb); replace HP := am_ ((hb.block _ (Array.getElem?_eq_some_iff.1 HP.out).1).trans HP.out); clear hb hn')
      | (at_builtin; refine apI_ (.tmp 30) (.tmp 32) _ _ _ HO.out HB.out HLt.out ?_; intro v1 w1 ho hb hg; replace HP := am_ ((hg.block _ (Array.getElem?_eq_some_iff.1 HP.out).1 (Kd.R_ne HO.out HP.out (by decide))).trans HP.out); replace HO := am_ ho; replace HB := am_ hb; clear ho hb hg))
     go_roundg d
     case measure => omega
     case rel => exact ⟨i + 1, _, _, rfl, HI, ⟨by have := NK.out; omega⟩, HNS, HP, HO, HB⟩
def rdDash (s : ByteArray) : Option (List Int) := if s.toList = [] then none else if s.toList = [45] then some [] else if Lib.hasPrefix s.data.toList [45] = true then none else rdList s ⟨#[44]⟩
theorem rdDash_dash {s : ByteArray} (h : s.toList = [45]) : rdList (⟨(Lib.trimPrefix s.data.toList [45]).toArray⟩ : ByteArray) ⟨#[44]⟩ = some [] := by
 rw [Lib.toList_data] at h;rw [h];rfl
theorem rdDash_plain {s : ByteArray} (h : Lib.hasPrefix s.data.toList [45] = false) : (⟨(Lib.trimPrefix s.data.toList [45]).toArray⟩ : ByteArray) = s := by
 unfold Lib.trimPrefix;rw [h, if_neg (by decide)]
theorem readOrDash_any (s : ByteArray) (w : World) (hs : s.size <= 1000000) (hG : Glob w) :
  Calls Tryz.prog 147 #[.string s] w (GotList (rdDash s) w) := by
 have HP := am_ (Tryz.strings_HasPrefix s ⟨#[45]⟩ w);have HT := am_ (Tryz.strings_TrimPrefix s ⟨#[45]⟩ w);have HG := am_ hG;unfold rdDash
 by_cases h0 : s.toList = []
 ·
  have q1 : (s.toList == ([] : List UInt8)) = true := beq_iff_eq.2 h0;rw [if_pos h0];clear h0 hG hs;go_enter Tryz.func147, Tryz.ntmps147;go_wp2;go_ret2;exact ⟨_, [], rfl, Kd.R_nil _ _ _ _ _, fun m h => (by cases h), Below.refl _ _⟩
 rw [if_neg h0];have q1 : (s.toList == ([] : List UInt8)) = false := beq_eq_false_iff_ne.2 h0;clear h0
 by_cases h1 : s.toList = [45]
 ·
  have q2 : (s.toList == ([45] : List UInt8)) = true := beq_iff_eq.2 h1;have q3 : (s.toList != ([45] : List UInt8)) = false := bne_eq_false_iff_eq.2 h1;have HH := am_ (show Lib.hasPrefix s.data.toList [45] = true by rw [Lib.toList_data] at h1; rw [h1]; rfl);have HD := am_ (rdDash_dash h1);have HR := am_ (readNumbers_any ⟨(Lib.trimPrefix s.data.toList [45]).toArray⟩ ⟨#[44]⟩ w (by rw [Lib.toList_data] at h1; rw [h1]; decide) (by decide) hG);rw [if_pos h1];clear h1 hG hs;go_enter Tryz.func147, Tryz.ntmps147
  go_wp2_with (first
   | (go_at_call 204; refine HP.out.mono ?_; rintro e w1 ⟨rfl, rfl⟩; rw [HH.out])
   | (go_at_call 206; refine HT.out.mono ?_; rintro e w1 ⟨rfl, rfl⟩)
   | (go_at_call 205; refine HR.out.mono ?_; rintro e w1 ⟨v, l, rfl, ho, hl, hb⟩; rw [HD.out] at hl ⊢; have HO := am_ ho; have HL := am_ hl; clear ho hl))
  go_ret2;exact ⟨_, _, rfl, HO.out, HL.out, hb⟩
 rw [if_neg h1];have q2 : (s.toList == ([45] : List UInt8)) = false := beq_eq_false_iff_ne.2 h1;have q3 : (s.toList != ([45] : List UInt8)) = true := bne_iff_ne.2 h1;clear h1
 cases h2 : Lib.hasPrefix s.data.toList [45] with
 | true =>
  have HH := am_ h2;rw [if_pos rfl];clear h2 hG hs;go_enter Tryz.func147, Tryz.ntmps147
  go_wp2_with (go_at_call 204; refine HP.out.mono ?_; rintro e w1 ⟨rfl, rfl⟩; rw [HH.out])
  go_ret2;exact ⟨_, [], rfl, Kd.R_nil _ _ _ _ _, fun m h => (by cases h), Below.refl _ _⟩
 | false =>
  have HH := am_ h2;have HR := am_ (readNumbers_any s ⟨#[44]⟩ w hs (by decide) hG);have HE := am_ (rdDash_plain h2);rw [if_neg (by decide)];clear h2 hG hs;go_enter Tryz.func147, Tryz.ntmps147
  go_wp2_with (first
   | (go_at_call 204; refine HP.out.mono ?_; rintro e w1 ⟨rfl, rfl⟩; rw [HH.out])
   | (go_at_call 206; refine HT.out.mono ?_; rintro e w1 ⟨rfl, rfl⟩; rw [HE.out])
   | (go_at_call 205; refine HR.out.mono ?_; rintro e w1 ⟨v, l, rfl, ho, hl, hb⟩; have HO := am_ ho; have HL := am_ hl; clear ho hl))
  go_ret2;exact ⟨_, _, rfl, HO.out, HL.out, hb⟩
def rdCount (s : ByteArray) : Option Int := match rdNum s with
 | some n => if 0 <= n /\ n <= 999999 then some n else none
 | none => none
theorem readCount_any (s : ByteArray) (w : World) (hs : s.size <= 1000000) (hG : Glob w) :
  Calls Tryz.prog 80 #[.string s] w (GotNum (rdCount s) w) := by
 have HC := am_ (readNumber_any s w (by omega) hG);clear hG hs
 have hbt : ∀ (n : Int) (b : Bool) (V : World), (decide (0 <= n) && decide (n <= 999999)) = b -> Calls Tryz.prog 101 #[.int .i64 n, .int .i64 0, .int .i64 999999] V fun e w' => e = .returned (.bool b) /\ V = w' := by
  intro n b V hb
  cases h1 : decide (n >= 0) with
  | false =>
   have : b = false := by rw [<- hb, show decide (0 <= n) = false from h1]; rfl
   subst this;clear hb;go_enter Tryz.func101, Tryz.ntmps101;go_wp2;go_ret;exact ⟨rfl, rfl⟩
  | true =>
   have : b = decide (n <= 999999) := by rw [<- hb, show decide (0 <= n) = true from h1]; rfl
   subst this;clear hb;go_enter Tryz.func101, Tryz.ntmps101;go_wp2;go_ret;exact ⟨rfl, rfl⟩
 have HT := am_ hbt;clear hbt
 cases hr : rdNum s with
 | none =>
  have HR := am_ hr;have HN := am_ (show rdCount s = none by unfold rdCount; rw [hr]);clear hr;go_enter Tryz.func80, Tryz.ntmps80
  go_wp2_with (go_at_call 150; refine HC.out.mono ?_; rintro e w1 ⟨n, rfl, _, hb⟩; rw [HR.out]; dsimp only [Option.isSome])
  go_ret2;exact ⟨_, by rw [HN.out]; rfl, fun m h => (by rw [HN.out] at h; cases h), hb⟩
 | some n =>
  have HR := am_ hr;have HE := am_ (show rdCount s = if 0 <= n /\ n <= 999999 then some n else none by unfold rdCount; rw [hr])
  have HQ := am_ (show (decide (0 <= n) && decide (n <= 999999)) = (rdCount s).isSome by
   rw [HE.out]
   by_cases h : 0 <= n /\ n <= 999999
   · rw [if_pos h]; simp [h.1, h.2]
   · rw [if_neg h]; simp only [Option.isSome_none, Bool.and_eq_false_iff, decide_eq_false_iff_not]; omega)
  have HM := am_ (show ∀ m, rdCount s = some m -> n = m from fun m h => by
   rw [HE.out] at h
   split at h
   · cases h; rfl
   · cases h)
  clear hr
  obtain ⟨b, hb0⟩ : ∃ b, b = (rdCount s).isSome := ⟨_, rfl⟩
  rw [<- hb0] at HQ;have HB0 := am_ hb0;clear hb0;go_enter Tryz.func80, Tryz.ntmps80
  go_wp2_with (first
   | (go_at_call 150; refine HC.out.mono ?_; rintro e w1 ⟨n', rfl, hn, hb⟩; obtain rfl := hn _ HR.out; rw [HR.out]; dsimp only [Option.isSome]; clear hn)
   | (go_at_call 101; refine (HT.out _ _ _ HQ.out).mono ?_; rintro e w2 ⟨rfl, rfl⟩))
  go_ret2;exact ⟨_, by rw [<- HB0.out]; rfl, HM.out, hb⟩
structure DeskAt (w : World) (B g : Nat) (l t : List Int) : Prop where
 lo : B <= g
 rows : ∃ v0 v1, w.heap[g]? = some (.cells #[v0, v1] 36 (0, 0)) /\ Kd.R (Kd.int .i64) 3 w B (fun _ => True) v0 l /\ Kd.R (Kd.int .i64) 3 w B (fun _ => True) v1 t /\ NeRow v0 v1
theorem DeskAt.below {w w' : World} {B g : Nat} {l t : List Int} (h : DeskAt w B g l t) (hb : Below w.heap.size w w') : DeskAt w' B g l t := by
 obtain ⟨h0, v0, v1, h1, h2, h3, h4⟩ := h;exact ⟨h0, v0, v1, blk_below h1 hb, Kd.R_below h2 hb, Kd.R_below h3 hb, h4⟩
def Left (B g : Nat) (l t : List Int) (w : World) (r : ByteArray) (e : Ending) (w' : World) : Prop := e = .returned (.string r) /\ DeskAt w' B g l t /\ w.grownBy w' (some g)
theorem grown_set {w : World} (g i : Nat) (u : Value) : w.grownBy (w.setCell ⟨g, i, none⟩ u) (some g) :=
 ⟨rfl, rfl, rfl, by simp [World.setCell], fun k _ hk => Below.heap_setCell w ⟨g, i, none⟩ u k (fun e => hk (by rw [e]))⟩
theorem grown_trans {w w1 w2 : World} {row : Option Nat} (h : w.grownBy w1 row) (k : w1.grownBy w2 row) : w.grownBy w2 row :=
 ⟨k.os.trans h.os, k.tape.trans h.tape, k.output.trans h.output, Nat.le_trans h.size k.size, fun i hi hr => (k.block i (Nat.lt_of_lt_of_le hi h.size) hr).trans (h.block i hi hr)⟩
def okB : ByteArray := ⟨#[111, 107]⟩
def whatB : ByteArray := ⟨#[119, 104, 97, 116]⟩
theorem take_no (v : Value) (B g : Nat) (l t : List Int) (w : World) (hd : DeskAt w B g l t) :
  Calls Tryz.prog 82 #[.pointer (some ⟨g, 0, none⟩), v, .bool false] w (Left B g l t w noB) := by
 have HD := am_ hd;clear hd;go_enter Tryz.func82, Tryz.ntmps82;go_wp2;go_ret;exact ⟨rfl, HD.out, World.grownBy.refl _ _⟩
theorem ne_new {w0 w : World} {v u : Value} {xs ys : List Int} {b : Nat} (hv : Kd.R (Kd.int .i64) 3 w w0.heap.size (fun _ => True) v xs) (hu : Kd.R (Kd.int .i64) 3 w0 b (fun _ => True) u ys) : ∀ k, v.ownBlock = some k -> u.ownBlock ≠ some k := fun k h1 h2 => by
 obtain ⟨i1, o1⟩ := Kd.R_own hv;obtain ⟨i2, o2⟩ := Kd.R_own hu;have := own_base o1 k h1;have := own_lt o2 k h2;omega
theorem take_yes {v : Value} {B g : Nat} {l l' t : List Int} {w0 w : World} (hd : DeskAt w0 B g l t) (hb : Below w0.heap.size w0 w) (hB0 : B <= w0.heap.size) (hv : Kd.R (Kd.int .i64) 3 w w0.heap.size (fun _ => True) v l') :
  Calls Tryz.prog 82 #[.pointer (some ⟨g, 0, none⟩), v, .bool true] w (Left B g l' t w okB) := by
 obtain ⟨hB, v0, v1, h1, h2, h3, h4⟩ := hd;have hne := ne_new hv h3;replace h1 := blk_below h1 hb;replace h3 := Kd.R_below h3 hb;obtain ⟨A, c, rfl⟩ := Kd.R_slice hv
 have HR := am_ (show DeskAt (w.setCell ⟨g, 0, none⟩ (.slice A l'.length c)) B g l' t from
  ⟨hB, .slice A l'.length c, v1, blk_put h1 0 _ rfl, Kd.R_set (Kd.R_lower hv hB0) h1 (by decide) _ _, Kd.R_set h3 h1 (by decide) _ _, hne⟩)
 have hc : w.cell? ⟨g, 0, none⟩ = some v0 := (blk_cell h1 0).trans rfl;have hf := blk_frozen h1 0;clear h1 h2 h3 h4 hv hB hb hB0 hne;go_enter Tryz.func82, Tryz.ntmps82;go_wp2;go_ret;exact ⟨rfl, HR.out, grown_set _ _ _⟩
theorem lay_no (v : Value) (B g : Nat) (l t : List Int) (w : World) (hd : DeskAt w B g l t) (hv : v.oneCell' = true) :
  Calls Tryz.prog 153 #[.pointer (some ⟨g, 0, none⟩), .agg #[v], .bool false] w (Left B g l t w noB) := by
 have HD := am_ (hd.below (below_alloc (Below.refl _ _) (.cells #[v] 34)));have HB := am_ (grown_of_below (below_alloc (Below.refl w.heap.size w) (.cells #[v] 34)) (some g));clear hd;go_enter Tryz.func153, Tryz.ntmps153;go_wp2;go_ret;exact ⟨rfl, HD.out, HB.out⟩
theorem lay_yes {v : Value} {B g : Nat} {l t t' : List Int} {w0 w : World} (hd : DeskAt w0 B g l t) (hb0 : Below w0.heap.size w0 w) (hB0 : B <= w0.heap.size) (hv : Kd.R (Kd.int .i64) 3 w w0.heap.size (fun _ => True) v t') :
  Calls Tryz.prog 153 #[.pointer (some ⟨g, 0, none⟩), .agg #[v], .bool true] w (Left B g l t' w okB) := by
 obtain ⟨hB, v0, v1, h1, h2, h3, h4⟩ := hd;have hne : NeRow v0 v := fun k h5 h6 => ne_new hv h2 k h6 h5;obtain ⟨A, c, rfl⟩ := Kd.R_slice hv;have hb := below_alloc (Below.refl w.heap.size w) (.cells #[.slice A t'.length c] 34)
 obtain ⟨w1, hw1⟩ : ∃ w1, w1 = w.alloc (.cells #[.slice A t'.length c] 34) := ⟨_, rfl⟩
 rw [<- hw1] at hb;have hv1 := Kd.R_below hv hb;replace h1 := blk_below (blk_below h1 hb0) hb;replace h2 := Kd.R_below (Kd.R_below h2 hb0) hb
 have HR := am_ (show DeskAt (w1.setCell ⟨g, 1, none⟩ (.slice A t'.length c)) B g l t' from
  ⟨hB, v0, .slice A t'.length c, blk_put h1 1 _ rfl, Kd.R_set h2 h1 (by decide) _ _, Kd.R_set (Kd.R_lower hv1 hB0) h1 (by decide) _ _, hne⟩)
 have HG := am_ (grown_trans (grown_of_below hb (some g)) (grown_set (w := w1) g 1 (.slice A t'.length c)));subst hw1;have hc : (w.alloc (.cells #[.slice A t'.length c] 34)).cell? ⟨g, 1, none⟩ = some v1 := (blk_cell h1 1).trans rfl;have hf := blk_frozen h1 1;clear h1 h2 h3 h4 hv hv1 hB hb hb0 hB0 hne;go_enter Tryz.func153, Tryz.ntmps153;go_wp2;go_ret;exact ⟨rfl, HR.out, HG.out⟩
attribute [local go_sem] max2_int max_two
structure Fns where
 park : List Int -> Bool
 tab : List Int -> Bool
 next : List Int -> Option (List Int)
 at_ : Int -> Int -> Option (List Int)
 cars : List Int -> List Int
 far : List Int -> List Int
 cuts : List Int -> List Int
 rank : List Int -> Int
 join : List Int -> List Int -> Option (List Int)
 cls : List Int -> Option (List Int)
 count : Int -> Option Int
 back : Int -> Option Int
 empty : Int -> Option (List Int)
 ins : List Int -> Int -> Option (List Int × Int)
 rem : List Int -> Int -> Option (List Int)
 find : List Int -> Int -> Option (Int × Int)
 cost : List Int -> Int
def Few (l : List Int) : Prop := l.length <= 10000 /\ ∀ x ∈ l, I64 x
structure Good (F : Fns) : Prop where
 park : ∀ l, F.park l = true -> l.length <= 8 /\ ∀ x ∈ l, 0 <= x /\ x <= 99
 tab : ∀ t, F.tab t = true -> t.length <= 12 /\ ∀ x ∈ t, -1 <= x /\ x <= 999
 next : ∀ l l', F.park l = true -> F.next l = some l' -> F.park l' = true
 at_ : ∀ n r l', F.at_ n r = some l' -> F.park l' = true
 join : ∀ l m l', F.join l m = some l' -> F.park l' = true
 empty : ∀ n t, F.empty n = some t -> F.tab t = true
 ins : ∀ t n t' a, F.tab t = true -> F.ins t n = some (t', a) -> F.tab t' = true /\ I64 a
 rem : ∀ t n t', F.tab t = true -> F.rem t n = some t' -> F.tab t' = true
 find : ∀ t n a c, F.tab t = true -> F.find t n = some (a, c) -> 0 <= a /\ a <= 999 /\ 0 <= c /\ c <= 999
 cars : ∀ l, F.park l = true -> Few (F.cars l)
 far : ∀ l, F.park l = true -> Few (F.far l)
 cuts : ∀ l, F.park l = true -> Few (F.cuts l)
 cls : ∀ l m, F.cls l = some m -> Few m
 rank : ∀ l, F.park l = true -> I64 (F.rank l)
 count : ∀ n m, F.count n = some m -> I64 m
 back : ∀ n m, F.back n = some m -> I64 m
 cost : ∀ t, F.tab t = true -> I64 (F.cost t)
def GotTable (o : Option (List Int)) (w : World) (e : Ending) (w' : World) : Prop := ∃ v l, e = .returned (.tuple #[.agg #[v], .bool o.isSome]) /\ Kd.R (Kd.int .i64) 3 w' w.heap.size (fun _ => True) v l /\ (∀ m, o = some m -> l = m) /\ Below w.heap.size w w'
def GotIns (o : Option (List Int × Int)) (w : World) (e : Ending) (w' : World) : Prop := ∃ v l n, e = .returned (.tuple #[.agg #[v], .int .i64 n, .bool o.isSome]) /\ Kd.R (Kd.int .i64) 3 w' w.heap.size (fun _ => True) v l /\ (∀ m, o = some m -> (l, n) = m) /\ (0 <= n /\ n <= 999) /\ Below w.heap.size w w'
def GotFind (o : Option (Int × Int)) (w : World) (e : Ending) (w' : World) : Prop := ∃ a n, e = .returned (.tuple #[.int .i64 a, .int .i64 n, .bool o.isSome]) /\ (∀ m, o = some m -> (a, n) = m) /\ Below w.heap.size w w'
def GotClass (o : Option (List Int)) (w : World) (e : Ending) (w' : World) : Prop := ∃ v l n, e = .returned (.tuple #[v, .int .i64 n, .bool o.isSome]) /\ Kd.R (Kd.int .i64) 3 w' w.heap.size (fun _ => True) v l /\ (∀ m, o = some m -> l = m) /\ Below w.heap.size w w'
def Lst (w : World) (A : Option Addr) (c : Nat) (l : List Int) : Prop := Kd.C (Kd.int .i64) w A l.length l /\ l.length <= c
structure ImplOk (F : Fns) : Prop where
 isPark : ∀ A c l w, Lst w A c l -> Few l -> Calls Tryz.prog 60 #[.slice A l.length c] w fun e w' => e = .returned (.bool (F.park l)) /\ Below w.heap.size w w'
 next : ∀ A c l w, Lst w A c l -> F.park l = true -> Calls Tryz.prog 33 #[.slice A l.length c] w (GotList (F.next l) w)
 at_ : ∀ n r w, 0 <= n -> n <= 999999 -> 0 <= r -> r <= 999999 -> Calls Tryz.prog 63 #[.int .i64 n, .int .i64 r] w (GotList (F.at_ n r) w)
 cars : ∀ A c l own w, Lst w A c l -> F.park l = true -> own = (if (l.length : Int) < 1 then 1 else (l.length : Int)) -> Calls Tryz.prog 140 #[.slice A l.length c, .int .i64 own] w (GotList (some (F.cars l)) w)
 far : ∀ A c l own w, Lst w A c l -> F.park l = true -> own = (if (l.length : Int) < 1 then 1 else (l.length : Int)) -> Calls Tryz.prog 141 #[.slice A l.length c, .int .i64 own] w (GotList (some (F.far l)) w)
 cuts : ∀ A c l w, Lst w A c l -> F.park l = true -> Calls Tryz.prog 142 #[.slice A l.length c] w (GotList (some (F.cuts l)) w)
 rank : ∀ A c l w, Lst w A c l -> F.park l = true -> Calls Tryz.prog 144 #[.slice A l.length c] w (GotNum (some (F.rank l)) w)
 join : ∀ A c l A' c' m w, Lst w A c l -> Lst w A' c' m -> F.park l = true -> Few m -> Calls Tryz.prog 148 #[.slice A l.length c, .slice A' m.length c'] w (GotList (F.join l m) w)
 cls : ∀ A c l w, Lst w A c l -> Few l -> Calls Tryz.prog 149 #[.slice A l.length c] w (GotClass (F.cls l) w)
 count : ∀ n w, 0 <= n -> n <= 999999 -> Calls Tryz.prog 151 #[.int .i64 n] w (GotNum (F.count n) w)
 back : ∀ n w, 0 <= n -> n <= 999999 -> Calls Tryz.prog 152 #[.int .i64 3, .int .i64 n] w (GotNum (F.back n) w)
 empty : ∀ n w, 0 <= n -> n <= 999999 -> Calls Tryz.prog 154 #[.int .i64 n] w (GotTable (F.empty n) w)
 ins : ∀ A c t n w, Lst w A c t -> F.tab t = true -> 0 <= n -> n <= 999999 -> Calls Tryz.prog 155 #[.agg #[.slice A t.length c], .int .i64 n] w (GotIns (F.ins t n) w)
 rem : ∀ A c t n w, Lst w A c t -> F.tab t = true -> 0 <= n -> n <= 999999 -> Calls Tryz.prog 156 #[.agg #[.slice A t.length c], .int .i64 n] w (GotTable (F.rem t n) w)
 find : ∀ A c t n w, Lst w A c t -> F.tab t = true -> 0 <= n -> n <= 999999 -> Calls Tryz.prog 157 #[.agg #[.slice A t.length c], .int .i64 n] w (GotFind (F.find t n) w)
 cost : ∀ A c t w, Lst w A c t -> F.tab t = true -> Calls Tryz.prog 145 #[.agg #[.slice A t.length c]] w (GotNum (some (F.cost t)) w)
structure Res where
 l : List Int
 t : List Int
 r : ByteArray
def LeftR (B g : Nat) (x : Res) (w : World) (e : Ending) (w' : World) : Prop := Left B g x.l x.t w x.r e w'
def moveR (l t : List Int) : Option (List Int) -> Res
 | some l' => ⟨l', t, okB⟩
 | none => ⟨l, t, noB⟩
def layR (l t : List Int) : Option (List Int) -> Res
 | some t' => ⟨l, t', okB⟩
 | none => ⟨l, t, noB⟩
def numR (l t : List Int) : Option Int -> Res
 | some n => ⟨l, t, itoaB n⟩
 | none => ⟨l, t, noB⟩
theorem few8 {F : Fns} (hF : Good F) {l : List Int} (h : F.park l = true) : Few l := by
 obtain ⟨h1, h2⟩ := hF.park l h;exact ⟨by omega, fun x hx => by have := h2 x hx; unfold I64; omega⟩
theorem few12 {F : Fns} (hF : Good F) {l : List Int} (h : F.tab l = true) : Few l := by
 obtain ⟨h1, h2⟩ := hF.tab l h;exact ⟨by omega, fun x hx => by have := h2 x hx; unfold I64; omega⟩
theorem DeskAt.open_ {w : World} {B g : Nat} {l t : List Int} (h : DeskAt w B g l t) : ∃ A c A' c', Aside0 (Lst w A c l) /\ Aside0 (Lst w A' c' t) /\ w.cell? ⟨g, 0, none⟩ = some (.slice A l.length c) /\ w.cell? ⟨g, 1, none⟩ = some (.slice A' t.length c') := by
 obtain ⟨_, v0, v1, h1, h2, h3, _⟩ := h;obtain ⟨A, c, rfl, h4, h5⟩ := Kd.R_reads h2;obtain ⟨A', c', rfl, h6, h7⟩ := Kd.R_reads h3;exact ⟨A, c, A', c', ⟨h5, h4⟩, ⟨h7, h6⟩, (blk_cell h1 0).trans rfl, (blk_cell h1 1).trans rfl⟩
theorem Lst.below {w w' : World} {A : Option Addr} {c : Nat} {l : List Int} (h : Lst w A c l) (hb : Below w.heap.size w w') : Lst w' A c l := ⟨Kd.C_below h.1 hb, h.2⟩
theorem left_of {B g : Nat} {l t : List Int} {w w1 : World} {r : ByteArray} (hd : DeskAt w B g l t) (hb : Below w.heap.size w w1) : Left B g l t w r (.returned (.string r)) w1 := ⟨rfl, hd.below hb, grown_of_below hb _⟩
theorem left_then {B g : Nat} {x : Res} {w w1 w2 : World} {e : Ending} (hb : Below w.heap.size w w1) (h : LeftR B g x w1 e w2) : LeftR B g x w e w2 := ⟨h.1, h.2.1, grown_trans (grown_of_below hb _) h.2.2⟩
theorem take_any (o : Option (List Int)) {v : Value} {B g : Nat} {l l' t : List Int} {w0 w : World} (hd : DeskAt w0 B g l t) (hb : Below w0.heap.size w0 w) (hB : B <= w0.heap.size) (hv : Kd.R (Kd.int .i64) 3 w w0.heap.size (fun _ => True) v l') (ho : ∀ m, o = some m -> l' = m) :
  Calls Tryz.prog 82 #[.pointer (some ⟨g, 0, none⟩), v, .bool o.isSome] w (LeftR B g (moveR l t o) w) := by
 cases o with
 | none => exact take_no v B g l t w (hd.below hb)
 | some m =>
  obtain rfl := ho m rfl;exact take_yes hd hb hB hv
theorem lay_any (o : Option (List Int)) {v : Value} {B g : Nat} {l t t' : List Int} {w0 w : World} (hd : DeskAt w0 B g l t) (hb : Below w0.heap.size w0 w) (hB : B <= w0.heap.size) (hv : Kd.R (Kd.int .i64) 3 w w0.heap.size (fun _ => True) v t') (ho : ∀ m, o = some m -> t' = m) :
  Calls Tryz.prog 153 #[.pointer (some ⟨g, 0, none⟩), .agg #[v], .bool o.isSome] w (LeftR B g (layR l t o) w) := by
 cases o with
 | none => exact lay_no v B g l t w (hd.below hb) (by obtain ⟨A, c, rfl⟩ := Kd.R_slice hv; rfl)
 | some m =>
  obtain rfl := ho m rfl;exact lay_yes hd hb hB hv
def listB (o : Option (List Int)) : ByteArray := match o with | some l => dashB l | none => noB
theorem ofList_any (o : Option (List Int)) (v : Value) (l : List Int) (base : Nat) (w : World) (hv : Kd.R (Kd.int .i64) 3 w base (fun _ => True) v l) (ho : ∀ m, o = some m -> l = m) (hf : ∀ m, o = some m -> Few m) (hG : Glob w) :
  Calls Tryz.prog 139 #[v, .bool o.isSome] w fun e w' => e = .returned (.string (listB o)) /\ Below w.heap.size w w' := by
 cases o with
 | none => exact ofList_no v w
 | some m =>
  obtain rfl := ho m rfl;obtain ⟨A, c, rfl, h1, h2⟩ := Kd.R_reads hv;exact ofList_yes A c l w h2 (hf l rfl).1 (hf l rfl).2 hG
def numB (o : Option Int) : ByteArray := match o with | some n => itoaB n | none => noB
theorem ofNumber_any (o : Option Int) (n : Int) (w : World) (ho : ∀ m, o = some m -> n = m) (hf : ∀ m, o = some m -> I64 m) (hG : Glob w) :
  Calls Tryz.prog 143 #[.int .i64 n, .bool o.isSome] w fun e w' => e = .returned (.string (numB o)) /\ Below w.heap.size w w' := by
 cases o with
 | none => exact ofNumber_no _ w
 | some m =>
  obtain rfl := ho m rfl;exact ofNumber_yes n w (hf n rfl) hG
structure Stand (F : Fns) (B g : Nat) (l t : List Int) (w : World) : Prop where
 good : Good F
 impl : ImplOk F
 at_ : DeskAt w B g l t
 park : F.park l = true
 tab : F.tab t = true
 glob : Glob w
 low : B <= w.heap.size
 eight : 8 <= B
theorem alone_next {F : Fns} {B g : Nat} {l t : List Int} {w : World} (h : Stand F B g l t w) : Calls Tryz.prog 78 #[.pointer (some ⟨g, 0, none⟩), .string ⟨#[110, 101, 120, 116]⟩] w (LeftR B g (moveR l t (F.next l)) w) := by
 obtain ⟨hF, hI, hd, hl, ht, hG, hB, h8⟩ := h;obtain ⟨A, c, A', c', HL, HT, hc0, hc1⟩ := hd.open_;have HD := am_ hd;have HG := am_ hG;have HC := am_ (hI.next A c l w HL.out hl);have HBz := am_ hB;clear hd hF hI hG hB hl ht h8;go_enter Tryz.func78, Tryz.ntmps78
 go_wp2_with (first
  | (go_at_call 33; refine HC.out.mono ?_; rintro e w1 ⟨v, l', rfl, ho, hm, hb⟩; have HO := am_ ho; have HM := am_ hm; have HB := am_ hb; clear ho hm hb)
  | (go_at_call 82; refine (take_any (F.next l) HD.out HB.out HBz.out HO.out HM.out).mono ?_; rintro e w2 ⟨rfl, hd2, hg2⟩; have HR := am_ (left_then HB.out (x := moveR l t (F.next l)) ⟨rfl, hd2, hg2⟩); clear hd2 hg2))
 all_goals
  go_ret;exact HR.out
theorem alone_cars {F : Fns} {B g : Nat} {l t : List Int} {w : World} (h : Stand F B g l t w) : Calls Tryz.prog 78 #[.pointer (some ⟨g, 0, none⟩), .string ⟨#[99, 97, 114, 115]⟩] w (LeftR B g (⟨l, t, dashB (F.cars l)⟩) w) := by
 obtain ⟨hF, hI, hd, hl, ht, hG, hB, h8⟩ := h;obtain ⟨A, c, A', c', HL, HT, hc0, hc1⟩ := hd.open_;have HD := am_ hd;have HG := am_ hG;have HC := am_ fun own => hI.cars A c l own w HL.out hl;have HF := am_ (hF.cars l hl);clear hd hF hI hG hB hl ht h8;go_enter Tryz.func78, Tryz.ntmps78
 go_wp2_with (first
  | (go_at_call 140; refine (HC.out _ (by first | rw [if_pos (by omega)] | rw [if_neg (by omega)])).mono ?_; rintro e w1 ⟨v, l', rfl, ho, hm, hb⟩; have HO := am_ ho; have HM := am_ hm; have HB := am_ hb; clear ho hm hb)
  | (go_at_call 139; refine (ofList_any (some (F.cars l)) _ _ _ _ HO.out HM.out (fun m h => by cases h; exact HF.out) gb_).mono ?_; rintro e w2 ⟨rfl, hb⟩; replace HB := am_ (below_step HB.out hb); clear hb))
 all_goals
  go_ret;exact left_of HD.out HB.out
theorem alone_far {F : Fns} {B g : Nat} {l t : List Int} {w : World} (h : Stand F B g l t w) : Calls Tryz.prog 78 #[.pointer (some ⟨g, 0, none⟩), .string ⟨#[102, 97, 114]⟩] w (LeftR B g (⟨l, t, dashB (F.far l)⟩) w) := by
 obtain ⟨hF, hI, hd, hl, ht, hG, hB, h8⟩ := h;obtain ⟨A, c, A', c', HL, HT, hc0, hc1⟩ := hd.open_;have HD := am_ hd;have HG := am_ hG;have HC := am_ fun own => hI.far A c l own w HL.out hl;have HF := am_ (hF.far l hl);clear hd hF hI hG hB hl ht h8;go_enter Tryz.func78, Tryz.ntmps78
 go_wp2_with (first
  | (go_at_call 141; refine (HC.out _ (by first | rw [if_pos (by omega)] | rw [if_neg (by omega)])).mono ?_; rintro e w1 ⟨v, l', rfl, ho, hm, hb⟩; have HO := am_ ho; have HM := am_ hm; have HB := am_ hb; clear ho hm hb)
  | (go_at_call 139; refine (ofList_any (some (F.far l)) _ _ _ _ HO.out HM.out (fun m h => by cases h; exact HF.out) gb_).mono ?_; rintro e w2 ⟨rfl, hb⟩; replace HB := am_ (below_step HB.out hb); clear hb))
 all_goals
  go_ret;exact left_of HD.out HB.out
theorem alone_cuts {F : Fns} {B g : Nat} {l t : List Int} {w : World} (h : Stand F B g l t w) : Calls Tryz.prog 78 #[.pointer (some ⟨g, 0, none⟩), .string ⟨#[99, 117, 116, 115]⟩] w (LeftR B g (⟨l, t, dashB (F.cuts l)⟩) w) := by
 obtain ⟨hF, hI, hd, hl, ht, hG, hB, h8⟩ := h;obtain ⟨A, c, A', c', HL, HT, hc0, hc1⟩ := hd.open_;have HD := am_ hd;have HG := am_ hG;have HC := am_ (hI.cuts A c l w HL.out hl);have HF := am_ (hF.cuts l hl);clear hd hF hI hG hB hl ht h8;go_enter Tryz.func78, Tryz.ntmps78
 go_wp2_with (first
  | (go_at_call 142; refine HC.out.mono ?_; rintro e w1 ⟨v, l', rfl, ho, hm, hb⟩; have HO := am_ ho; have HM := am_ hm; have HB := am_ hb; clear ho hm hb)
  | (go_at_call 139; refine (ofList_any (some (F.cuts l)) _ _ _ _ HO.out HM.out (fun m h => by cases h; exact HF.out) gb_).mono ?_; rintro e w2 ⟨rfl, hb⟩; replace HB := am_ (below_step HB.out hb); clear hb))
 all_goals
  go_ret;exact left_of HD.out HB.out
theorem alone_rank {F : Fns} {B g : Nat} {l t : List Int} {w : World} (h : Stand F B g l t w) : Calls Tryz.prog 78 #[.pointer (some ⟨g, 0, none⟩), .string ⟨#[114, 97, 110, 107]⟩] w (LeftR B g (⟨l, t, itoaB (F.rank l)⟩) w) := by
 obtain ⟨hF, hI, hd, hl, ht, hG, hB, h8⟩ := h;obtain ⟨A, c, A', c', HL, HT, hc0, hc1⟩ := hd.open_;have HD := am_ hd;have HG := am_ hG;have HC := am_ (hI.rank A c l w HL.out hl);have HF := am_ (hF.rank l hl);clear hd hF hI hG hB hl ht h8;go_enter Tryz.func78, Tryz.ntmps78
 go_wp2_with (first
  | (go_at_call 144; refine HC.out.mono ?_; rintro e w1 ⟨n, rfl, hm, hb⟩; have HM := am_ hm; have HB := am_ hb; clear hm hb)
  | (go_at_call 143; refine (ofNumber_any (some (F.rank l)) _ _ HM.out (fun m h => by cases h; exact HF.out) gb_).mono ?_; rintro e w2 ⟨rfl, hb⟩; replace HB := am_ (below_step HB.out hb); clear hb))
 all_goals
  go_ret;exact left_of HD.out HB.out
theorem alone_cost {F : Fns} {B g : Nat} {l t : List Int} {w : World} (h : Stand F B g l t w) : Calls Tryz.prog 78 #[.pointer (some ⟨g, 0, none⟩), .string ⟨#[99, 111, 115, 116]⟩] w (LeftR B g (⟨l, t, itoaB (F.cost t)⟩) w) := by
 obtain ⟨hF, hI, hd, hl, ht, hG, hB, h8⟩ := h;obtain ⟨A, c, A', c', HL, HT, hc0, hc1⟩ := hd.open_;have HD := am_ hd;have HG := am_ hG;have HC := am_ (hI.cost A' c' t w HT.out ht);have HF := am_ (hF.cost t ht);clear hd hF hI hG hB hl ht h8;go_enter Tryz.func78, Tryz.ntmps78
 go_wp2_with (first
  | (go_at_call 145; refine HC.out.mono ?_; rintro e w1 ⟨n, rfl, hm, hb⟩; have HM := am_ hm; have HB := am_ hb; clear hm hb)
  | (go_at_call 143; refine (ofNumber_any (some (F.cost t)) _ _ HM.out (fun m h => by cases h; exact HF.out) gb_).mono ?_; rintro e w2 ⟨rfl, hb⟩; replace HB := am_ (below_step HB.out hb); clear hb))
 all_goals
  go_ret;exact left_of HD.out HB.out
theorem alone_table {F : Fns} {B g : Nat} {l t : List Int} {w : World} (h : Stand F B g l t w) : Calls Tryz.prog 78 #[.pointer (some ⟨g, 0, none⟩), .string ⟨#[116, 97, 98, 108, 101]⟩] w (LeftR B g (⟨l, t, textB t⟩) w) := by
 obtain ⟨hF, hI, hd, hl, ht, hG, hB, h8⟩ := h;obtain ⟨A, c, A', c', HL, HT, hc0, hc1⟩ := hd.open_;have HD := am_ hd;have HG := am_ hG;have HC := am_ (text_any A' c' t w HT.out.1 (few12 hF ht).1 (few12 hF ht).2 hG);clear hd hF hI hG hB hl ht h8;go_enter Tryz.func78, Tryz.ntmps78
 go_wp2_with (first
  | (go_at_call 62; refine HC.out.mono ?_; rintro e w1 ⟨rfl, hb⟩; have HB := am_ hb; clear hb))
 all_goals
  go_ret;exact left_of HD.out HB.out
theorem alone_list {F : Fns} {B g : Nat} {l t : List Int} {w : World} (h : Stand F B g l t w) : Calls Tryz.prog 78 #[.pointer (some ⟨g, 0, none⟩), .string ⟨#[108, 105, 115, 116]⟩] w (LeftR B g (⟨l, t, dashB l⟩) w) := by
 obtain ⟨hF, hI, hd, hl, ht, hG, hB, h8⟩ := h;obtain ⟨A, c, A', c', HL, HT, hc0, hc1⟩ := hd.open_;have HD := am_ hd;have HG := am_ hG;have HC := am_ (orDash_any A c l w HL.out.1 (few8 hF hl).1 (few8 hF hl).2 hG);clear hd hF hI hG hB hl ht h8;go_enter Tryz.func78, Tryz.ntmps78
 go_wp2_with (first
  | (go_at_call 146; refine HC.out.mono ?_; rintro e w1 ⟨rfl, hb⟩; have HB := am_ hb; clear hb))
 all_goals
  go_ret;exact left_of HD.out HB.out
theorem alone_none {F : Fns} {B g : Nat} {l t : List Int} {w : World} (h : Stand F B g l t w) (s : ByteArray) (h0 : (s.toList == ([110, 101, 120, 116] : List UInt8)) = false) (h1 : (s.toList == ([99, 97, 114, 115] : List UInt8)) = false) (h2 : (s.toList == ([102, 97, 114] : List UInt8)) = false) (h3 : (s.toList == ([99, 117, 116, 115] : List UInt8)) = false) (h4 : (s.toList == ([114, 97, 110, 107] : List UInt8)) = false) (h5 : (s.toList == ([116, 97, 98, 108, 101] : List UInt8)) = false) (h6 : (s.toList == ([99, 111, 115, 116] : List UInt8)) = false) (h7 : (s.toList == ([108, 105, 115, 116] : List UInt8)) = false) : Calls Tryz.prog 78 #[.pointer (some ⟨g, 0, none⟩), .string s] w (LeftR B g ⟨l, t, whatB⟩ w) := by
 obtain ⟨hF, hI, hd, hl, ht, hG, hB, h8⟩ := h;obtain ⟨A, c, A', c', HL, HT, hc0, hc1⟩ := hd.open_;have HD := am_ hd;have HG := am_ hG;clear hd hF hI hG hB hl ht h8;go_enter Tryz.func78, Tryz.ntmps78;go_wp2
 all_goals
  go_ret;exact left_of HD.out (Below.refl _ _)
theorem ba_lit (s : ByteArray) (c : ByteArray) (h : s.toList = c.data.toList) : s = c := by
 rw [Lib.toList_data] at h; cases s; cases c; congr 1; exact Array.ext' h
def aloneP (F : Fns) (l t : List Int) (s : ByteArray) : Res :=
 if s.toList = [110, 101, 120, 116] then moveR l t (F.next l) else
 if s.toList = [99, 97, 114, 115] then ⟨l, t, dashB (F.cars l)⟩ else
 if s.toList = [102, 97, 114] then ⟨l, t, dashB (F.far l)⟩ else
 if s.toList = [99, 117, 116, 115] then ⟨l, t, dashB (F.cuts l)⟩ else
 if s.toList = [114, 97, 110, 107] then ⟨l, t, itoaB (F.rank l)⟩ else
 if s.toList = [116, 97, 98, 108, 101] then ⟨l, t, textB t⟩ else
 if s.toList = [99, 111, 115, 116] then ⟨l, t, itoaB (F.cost t)⟩ else
 if s.toList = [108, 105, 115, 116] then ⟨l, t, dashB l⟩ else
 ⟨l, t, whatB⟩
theorem alone_any {F : Fns} {B g : Nat} {l t : List Int} {w : World} (h : Stand F B g l t w) (s : ByteArray) : Calls Tryz.prog 78 #[.pointer (some ⟨g, 0, none⟩), .string s] w (LeftR B g (aloneP F l t s) w) := by
 unfold aloneP
 by_cases h0 : s.toList = [110, 101, 120, 116]
 · rw [if_pos h0, ba_lit s ⟨#[110, 101, 120, 116]⟩ h0]; exact alone_next h
 rw [if_neg h0]
 by_cases h1 : s.toList = [99, 97, 114, 115]
 · rw [if_pos h1, ba_lit s ⟨#[99, 97, 114, 115]⟩ h1]; exact alone_cars h
 rw [if_neg h1]
 by_cases h2 : s.toList = [102, 97, 114]
 · rw [if_pos h2, ba_lit s ⟨#[102, 97, 114]⟩ h2]; exact alone_far h
 rw [if_neg h2]
 by_cases h3 : s.toList = [99, 117, 116, 115]
 · rw [if_pos h3, ba_lit s ⟨#[99, 117, 116, 115]⟩ h3]; exact alone_cuts h
 rw [if_neg h3]
 by_cases h4 : s.toList = [114, 97, 110, 107]
 · rw [if_pos h4, ba_lit s ⟨#[114, 97, 110, 107]⟩ h4]; exact alone_rank h
 rw [if_neg h4]
 by_cases h5 : s.toList = [116, 97, 98, 108, 101]
 · rw [if_pos h5, ba_lit s ⟨#[116, 97, 98, 108, 101]⟩ h5]; exact alone_table h
 rw [if_neg h5]
 by_cases h6 : s.toList = [99, 111, 115, 116]
 · rw [if_pos h6, ba_lit s ⟨#[99, 111, 115, 116]⟩ h6]; exact alone_cost h
 rw [if_neg h6]
 by_cases h7 : s.toList = [108, 105, 115, 116]
 · rw [if_pos h7, ba_lit s ⟨#[108, 105, 115, 116]⟩ h7]; exact alone_list h
 rw [if_neg h7];exact alone_none h s (beq_eq_false_iff_ne.2 h0) (beq_eq_false_iff_ne.2 h1) (beq_eq_false_iff_ne.2 h2) (beq_eq_false_iff_ne.2 h3) (beq_eq_false_iff_ne.2 h4) (beq_eq_false_iff_ne.2 h5) (beq_eq_false_iff_ne.2 h6) (beq_eq_false_iff_ne.2 h7)
theorem numR_left {B g : Nat} {l t : List Int} {w w1 : World} {o : Option Int} (hd : DeskAt w B g l t) (hb : Below w.heap.size w w1) : LeftR B g (numR l t o) w (.returned (.string (numB o))) w1 := by
 cases o with
 | none => exact left_of hd hb
 | some n => exact left_of hd hb
def putR (l t : List Int) : Option (List Int × Int) -> Res
 | some (t', a) => ⟨l, t', itoaB a⟩
 | none => ⟨l, t, noB⟩
def findR (l t : List Int) : Option (Int × Int) -> Res
 | some (a, c) => ⟨l, t, numsB [a, c] ⟨#[32]⟩⟩
 | none => ⟨l, t, noB⟩
theorem numbered_count {F : Fns} {B g : Nat} {l t : List Int} {w : World} (h : Stand F B g l t w) (n : Int) (hn : 0 <= n) (hn9 : n <= 999999) : Calls Tryz.prog 81 #[.pointer (some ⟨g, 0, none⟩), .string ⟨#[99, 111, 117, 110, 116]⟩, .int .i64 n] w (LeftR B g (numR l t (F.count n)) w) := by
 obtain ⟨hF, hI, hd, hl, ht, hG, hB, h8⟩ := h;obtain ⟨A, c, A', c', HL, HT, hc0, hc1⟩ := hd.open_;have HD := am_ hd;have HG := am_ hG;have HC := am_ (hI.count n w hn hn9);have HF := am_ (hF.count n);clear hd hF hI hG hB hl ht h8;go_enter Tryz.func81, Tryz.ntmps81
 go_wp2_with (first
  | (go_at_call 151; refine HC.out.mono ?_; rintro e w1 ⟨n', rfl, hm, hb⟩; have HM := am_ hm; have HB := am_ hb; clear hm hb)
  | (go_at_call 143; refine (ofNumber_any (F.count n) _ _ HM.out (fun m h => HF.out m h) gb_).mono ?_; rintro e w2 ⟨rfl, hb⟩; replace HB := am_ (below_step HB.out hb); clear hb))
 all_goals
  go_ret;exact numR_left HD.out HB.out
theorem numbered_back {F : Fns} {B g : Nat} {l t : List Int} {w : World} (h : Stand F B g l t w) (n : Int) (hn : 0 <= n) (hn9 : n <= 999999) : Calls Tryz.prog 81 #[.pointer (some ⟨g, 0, none⟩), .string ⟨#[98, 97, 99, 107]⟩, .int .i64 n] w (LeftR B g (numR l t (F.back n)) w) := by
 obtain ⟨hF, hI, hd, hl, ht, hG, hB, h8⟩ := h;obtain ⟨A, c, A', c', HL, HT, hc0, hc1⟩ := hd.open_;have HD := am_ hd;have HG := am_ hG;have HC := am_ (hI.back n w hn hn9);have HF := am_ (hF.back n);clear hd hF hI hG hB hl ht h8;go_enter Tryz.func81, Tryz.ntmps81
 go_wp2_with (first
  | (go_at_call 152; refine HC.out.mono ?_; rintro e w1 ⟨n', rfl, hm, hb⟩; have HM := am_ hm; have HB := am_ hb; clear hm hb)
  | (go_at_call 143; refine (ofNumber_any (F.back n) _ _ HM.out (fun m h => HF.out m h) gb_).mono ?_; rintro e w2 ⟨rfl, hb⟩; replace HB := am_ (below_step HB.out hb); clear hb))
 all_goals
  go_ret;exact numR_left HD.out HB.out
theorem numbered_new {F : Fns} {B g : Nat} {l t : List Int} {w : World} (h : Stand F B g l t w) (n : Int) (hn : 0 <= n) (hn9 : n <= 999999) : Calls Tryz.prog 81 #[.pointer (some ⟨g, 0, none⟩), .string ⟨#[110, 101, 119]⟩, .int .i64 n] w (LeftR B g (layR l t (F.empty n)) w) := by
 obtain ⟨hF, hI, hd, hl, ht, hG, hB, h8⟩ := h;obtain ⟨A, c, A', c', HL, HT, hc0, hc1⟩ := hd.open_;have HD := am_ hd;have HG := am_ hG;have HC := am_ (hI.empty n w hn hn9);have HBz := am_ hB;clear hd hF hI hG hB hl ht h8;go_enter Tryz.func81, Tryz.ntmps81
 go_wp2_with (first
  | (go_at_call 154; refine HC.out.mono ?_; rintro e w1 ⟨v, l', rfl, ho, hm, hb⟩; have HO := am_ ho; have HM := am_ hm; have HB := am_ hb; clear ho hm hb)
  | (go_at_call 153; refine (lay_any (F.empty n) HD.out HB.out HBz.out HO.out HM.out).mono ?_; rintro e w2 ⟨rfl, hd2, hg2⟩; have HR := am_ (left_then HB.out (x := layR l t (F.empty n)) ⟨rfl, hd2, hg2⟩); clear hd2 hg2))
 all_goals
  go_ret;exact HR.out
theorem numbered_drop {F : Fns} {B g : Nat} {l t : List Int} {w : World} (h : Stand F B g l t w) (n : Int) (hn : 0 <= n) (hn9 : n <= 999999) : Calls Tryz.prog 81 #[.pointer (some ⟨g, 0, none⟩), .string ⟨#[100, 114, 111, 112]⟩, .int .i64 n] w (LeftR B g (layR l t (F.rem t n)) w) := by
 obtain ⟨hF, hI, hd, hl, ht, hG, hB, h8⟩ := h;obtain ⟨A, c, A', c', HL, HT, hc0, hc1⟩ := hd.open_;have HD := am_ hd;have HG := am_ hG;have HC := am_ (hI.rem A' c' t n w HT.out ht hn hn9);have HBz := am_ hB;clear hd hF hI hG hB hl ht h8;go_enter Tryz.func81, Tryz.ntmps81
 go_wp2_with (first
  | (go_at_call 156; refine HC.out.mono ?_; rintro e w1 ⟨v, l', rfl, ho, hm, hb⟩; have HO := am_ ho; have HM := am_ hm; have HB := am_ hb; clear ho hm hb)
  | (go_at_call 153; refine (lay_any (F.rem t n) HD.out HB.out HBz.out HO.out HM.out).mono ?_; rintro e w2 ⟨rfl, hd2, hg2⟩; have HR := am_ (left_then HB.out (x := layR l t (F.rem t n)) ⟨rfl, hd2, hg2⟩); clear hd2 hg2))
 all_goals
  go_ret;exact HR.out
theorem one_cell {w : World} {base : Nat} {ok : Nat -> Prop} {v : Value} {xs : List Int} (h : Kd.R (Kd.int .i64) 3 w base ok v xs) : v.oneCell' = true := by
 obtain ⟨A, c, rfl⟩ := Kd.R_slice h; rfl
theorem glob_grown {w w' : World} {g : Nat} (h : Glob w) (hg : w.grownBy w' (some g)) (h8 : 8 <= g) : Glob w' :=
 h.move hg.size fun i hi => hg.block i (by have := h.big; omega) (by rintro ⟨⟩; omega)
theorem numbered_put_no {F : Fns} {B g : Nat} {l t : List Int} {w : World} (h : Stand F B g l t w) (n : Int) (hn : 0 <= n) (hn9 : n <= 999999) (hq : F.ins t n = none) : Calls Tryz.prog 81 #[.pointer (some ⟨g, 0, none⟩), .string ⟨#[112, 117, 116]⟩, .int .i64 n] w (LeftR B g ⟨l, t, noB⟩ w) := by
 obtain ⟨hF, hI, hd, hl, ht, hG, hB, h8⟩ := h;obtain ⟨A, c, A', c', HL, HT, hc0, hc1⟩ := hd.open_;have HD := am_ hd;have HG := am_ hG;have HC := am_ (hI.ins A' c' t n w HT.out ht hn hn9);rw [hq] at HC;clear hd hF hI hG hB hl ht h8 hq;go_enter Tryz.func81, Tryz.ntmps81
 go_wp2_with (first
  | (go_at_call 155; refine HC.out.mono ?_; rintro e w1 ⟨v, l', n', rfl, ho, hm, _, hb⟩; obtain ⟨Av, cv, rfl⟩ := Kd.R_slice ho; have HO := am_ ho; have HB := am_ hb; have HV := am_ (one_cell ho); clear ho hm hb)
  | (go_at_call 153; refine (lay_no _ B g l t _ (HD.out.below bw_) HV.out).mono ?_; rintro e w2 ⟨rfl, hd2, hg2⟩; have HR := am_ hd2; have HK := am_ (grown_trans (grown_of_below (show Below w.heap.size w _ from bw_) (some g)) hg2); clear hd2 hg2)
  | (go_at_call 143; refine (ofNumber_no _ _).mono ?_; rintro e w3 ⟨rfl, hb⟩; have HB3 := am_ hb; clear hb))
 all_goals
  go_ret;exact ⟨rfl, HR.out.below HB3.out, grown_trans HK.out (grown_of_below HB3.out _)⟩
theorem numbered_put_yes {F : Fns} {B g : Nat} {l t : List Int} {w : World} (h : Stand F B g l t w) (n : Int) (hn : 0 <= n) (hn9 : n <= 999999) (t' : List Int) (a : Int) (hq : F.ins t n = some (t', a)) : Calls Tryz.prog 81 #[.pointer (some ⟨g, 0, none⟩), .string ⟨#[112, 117, 116]⟩, .int .i64 n] w (LeftR B g ⟨l, t', itoaB a⟩ w) := by
 obtain ⟨hF, hI, hd, hl, ht, hG, hB, h8⟩ := h;obtain ⟨A, c, A', c', HL, HT, hc0, hc1⟩ := hd.open_;have HD := am_ hd;have HG := am_ hG;have HC := am_ (hI.ins A' c' t n w HT.out ht hn hn9);rw [hq] at HC;have HBz := am_ hB;have HQ := am_ h8;have HF := am_ (hF.ins t n t' a ht hq).2;clear hd hF hI hG hB hl ht h8 hq;go_enter Tryz.func81, Tryz.ntmps81
 go_wp2_with (first
  | (go_at_call 155; refine HC.out.mono ?_; rintro e w1 ⟨v, l', n', rfl, ho, hm, _, hb⟩; obtain ⟨Av, cv, rfl⟩ := Kd.R_slice ho; have HO := am_ ho; have HB := am_ hb; cases hm _ rfl; clear ho hm hb)
  | (go_at_call 153; refine (lay_yes HD.out bw_ HBz.out (rs_ HO.out)).mono ?_; rintro e w2 ⟨rfl, hd2, hg2⟩; have HR := am_ hd2; have HK := am_ (grown_trans (grown_of_below (show Below w.heap.size w _ from bw_) (some g)) hg2); clear hd2 hg2)
  | (go_at_call 143; refine (ofNumber_yes _ _ HF.out (glob_grown HG.out HK.out (Nat.le_trans HQ.out HD.out.lo))).mono ?_; rintro e w3 ⟨rfl, hb⟩; have HB3 := am_ hb; clear hb))
 all_goals
  go_ret;exact ⟨rfl, HR.out.below HB3.out, grown_trans HK.out (grown_of_below HB3.out _)⟩
theorem two_row (a c : Int) (w : World) : Kd.C (Kd.int .i64) (w.alloc (.cells #[.int .i64 a, .int .i64 c] 3)) (some ⟨w.heap.size, 0, none⟩) 2 [a, c] := by
 have hb := blk_new w (.cells #[.int .i64 a, .int .i64 c] 3);refine ⟨rfl, by omega, fun _ => ⟨_, rfl, fun j p hj => ⟨[.int .i64 p], rfl, rfl, fun i u hi => ?_⟩⟩⟩
 cases i with
 | succ i => simp at hi
 | zero =>
  simp at hi;subst hi;have hkd : (Kd.int .i64).sz = 1 := rfl;rw [hkd, add_plain, Nat.mul_one]
  refine (blk_cell hb j).trans ?_
  match j, hj with
  | 0, hj => simp at hj; subst hj; rfl
  | 1, hj => simp at hj; subst hj; rfl
  | j + 2, hj => simp at hj
theorem numbered_find_no {F : Fns} {B g : Nat} {l t : List Int} {w : World} (h : Stand F B g l t w) (n : Int) (hn : 0 <= n) (hn9 : n <= 999999) (hq : F.find t n = none) : Calls Tryz.prog 81 #[.pointer (some ⟨g, 0, none⟩), .string ⟨#[102, 105, 110, 100]⟩, .int .i64 n] w (LeftR B g ⟨l, t, noB⟩ w) := by
 obtain ⟨hF, hI, hd, hl, ht, hG, hB, h8⟩ := h;obtain ⟨A, c, A', c', HL, HT, hc0, hc1⟩ := hd.open_;have HD := am_ hd;have HG := am_ hG;have HC := am_ (hI.find A' c' t n w HT.out ht hn hn9);rw [hq] at HC;clear hd hF hI hG hB hl ht h8 hq;go_enter Tryz.func81, Tryz.ntmps81
 go_wp2_with (first
  | (go_at_call 157; refine HC.out.mono ?_; rintro e w1 ⟨a', n', rfl, hm, hb⟩; have HB := am_ hb; clear hm hb))
 all_goals
  go_ret;exact left_of HD.out HB.out
theorem numbered_find_yes {F : Fns} {B g : Nat} {l t : List Int} {w : World} (h : Stand F B g l t w) (n : Int) (hn : 0 <= n) (hn9 : n <= 999999) (a c2 : Int) (hq : F.find t n = some (a, c2)) : Calls Tryz.prog 81 #[.pointer (some ⟨g, 0, none⟩), .string ⟨#[102, 105, 110, 100]⟩, .int .i64 n] w (LeftR B g ⟨l, t, numsB [a, c2] ⟨#[32]⟩⟩ w) := by
 obtain ⟨hF, hI, hd, hl, ht, hG, hB, h8⟩ := h;obtain ⟨A, c, A', c', HL, HT, hc0, hc1⟩ := hd.open_;have HD := am_ hd;have HG := am_ hG;have HC := am_ (hI.find A' c' t n w HT.out ht hn hn9);rw [hq] at HC;have HF := am_ (show ∀ x ∈ [a, c2], I64 x from fun x hx => by have := hF.find t n a c2 ht hq; simp at hx; unfold I64; omega);clear hd hF hI hG hB hl ht h8 hq;go_enter Tryz.func81, Tryz.ntmps81
 go_wp2_with (first
  | (go_at_call 157; refine HC.out.mono ?_; rintro e w1 ⟨a', n', rfl, hm, hb⟩; have HB := am_ hb; cases hm _ rfl; clear hm hb)
  | (go_at_call 158; refine (joined_any _ _ [a, c2] ⟨#[32]⟩ _ (two_row a c2 _) (by simp) (by decide) HF.out gb_).mono ?_; rintro e w2 ⟨rfl, hb⟩; replace HB := am_ (below_step bw_ hb); clear hb))
 all_goals
  go_ret;exact left_of HD.out HB.out
theorem numbered_none {F : Fns} {B g : Nat} {l t : List Int} {w : World} (h : Stand F B g l t w) (n : Int) (s : ByteArray) (h0 : (s.toList == ([99, 111, 117, 110, 116] : List UInt8)) = false) (h1 : (s.toList == ([98, 97, 99, 107] : List UInt8)) = false) (h2 : (s.toList == ([110, 101, 119] : List UInt8)) = false) (h3 : (s.toList == ([112, 117, 116] : List UInt8)) = false) (h4 : (s.toList == ([100, 114, 111, 112] : List UInt8)) = false) (h5 : (s.toList == ([102, 105, 110, 100] : List UInt8)) = false) : Calls Tryz.prog 81 #[.pointer (some ⟨g, 0, none⟩), .string s, .int .i64 n] w (LeftR B g ⟨l, t, whatB⟩ w) := by
 obtain ⟨hF, hI, hd, hl, ht, hG, hB, h8⟩ := h;obtain ⟨A, c, A', c', HL, HT, hc0, hc1⟩ := hd.open_;have HD := am_ hd;have HG := am_ hG;clear hd hF hI hG hB hl ht h8;go_enter Tryz.func81, Tryz.ntmps81;go_wp2
 all_goals
  go_ret;exact left_of HD.out (Below.refl _ _)
theorem numbered_put {F : Fns} {B g : Nat} {l t : List Int} {w : World} (h : Stand F B g l t w) (n : Int) (hn : 0 <= n) (hn9 : n <= 999999) : Calls Tryz.prog 81 #[.pointer (some ⟨g, 0, none⟩), .string ⟨#[112, 117, 116]⟩, .int .i64 n] w (LeftR B g (putR l t (F.ins t n)) w) := by
 cases hq : F.ins t n with
 | none => exact numbered_put_no h n hn hn9 hq
 | some p => exact numbered_put_yes h n hn hn9 p.1 p.2 hq
theorem numbered_find {F : Fns} {B g : Nat} {l t : List Int} {w : World} (h : Stand F B g l t w) (n : Int) (hn : 0 <= n) (hn9 : n <= 999999) : Calls Tryz.prog 81 #[.pointer (some ⟨g, 0, none⟩), .string ⟨#[102, 105, 110, 100]⟩, .int .i64 n] w (LeftR B g (findR l t (F.find t n)) w) := by
 cases hq : F.find t n with
 | none => exact numbered_find_no h n hn hn9 hq
 | some p => exact numbered_find_yes h n hn hn9 p.1 p.2 hq
def numberedP (F : Fns) (l t : List Int) (s : ByteArray) (n : Int) : Res :=
 if s.toList = [99, 111, 117, 110, 116] then numR l t (F.count n) else
 if s.toList = [98, 97, 99, 107] then numR l t (F.back n) else
 if s.toList = [110, 101, 119] then layR l t (F.empty n) else
 if s.toList = [112, 117, 116] then putR l t (F.ins t n) else
 if s.toList = [100, 114, 111, 112] then layR l t (F.rem t n) else
 if s.toList = [102, 105, 110, 100] then findR l t (F.find t n) else
 ⟨l, t, whatB⟩
theorem numbered_any {F : Fns} {B g : Nat} {l t : List Int} {w : World} (h : Stand F B g l t w) (n : Int) (hn : 0 <= n) (hn9 : n <= 999999) (s : ByteArray) : Calls Tryz.prog 81 #[.pointer (some ⟨g, 0, none⟩), .string s, .int .i64 n] w (LeftR B g (numberedP F l t s n) w) := by
 unfold numberedP
 by_cases h0 : s.toList = [99, 111, 117, 110, 116]
 · rw [if_pos h0, ba_lit s ⟨#[99, 111, 117, 110, 116]⟩ h0]; exact numbered_count h n hn hn9
 rw [if_neg h0]
 by_cases h1 : s.toList = [98, 97, 99, 107]
 · rw [if_pos h1, ba_lit s ⟨#[98, 97, 99, 107]⟩ h1]; exact numbered_back h n hn hn9
 rw [if_neg h1]
 by_cases h2 : s.toList = [110, 101, 119]
 · rw [if_pos h2, ba_lit s ⟨#[110, 101, 119]⟩ h2]; exact numbered_new h n hn hn9
 rw [if_neg h2]
 by_cases h3 : s.toList = [112, 117, 116]
 · rw [if_pos h3, ba_lit s ⟨#[112, 117, 116]⟩ h3]; exact numbered_put h n hn hn9
 rw [if_neg h3]
 by_cases h4 : s.toList = [100, 114, 111, 112]
 · rw [if_pos h4, ba_lit s ⟨#[100, 114, 111, 112]⟩ h4]; exact numbered_drop h n hn hn9
 rw [if_neg h4]
 by_cases h5 : s.toList = [102, 105, 110, 100]
 · rw [if_pos h5, ba_lit s ⟨#[102, 105, 110, 100]⟩ h5]; exact numbered_find h n hn hn9
 rw [if_neg h5];exact numbered_none h n s (beq_eq_false_iff_ne.2 h0) (beq_eq_false_iff_ne.2 h1) (beq_eq_false_iff_ne.2 h2) (beq_eq_false_iff_ne.2 h3) (beq_eq_false_iff_ne.2 h4) (beq_eq_false_iff_ne.2 h5)
theorem Stand.below {F : Fns} {B g : Nat} {l t : List Int} {w w' : World} (h : Stand F B g l t w) (hb : Below w.heap.size w w') : Stand F B g l t w' := ⟨h.good, h.impl, h.at_.below hb, h.park, h.tab, h.glob.below hb, Nat.le_trans h.low hb.size, h.eight⟩
def told (s : ByteArray) : Option (List Int) := match rdDash s with
 | some l => if (l.all fun x => decide (0 <= x /\ x <= 999999)) = true then some l else none
 | none => none
theorem rdList_length {s sep : ByteArray} {l : List Int} (h1 : sep.size = 1) (h : rdList s sep = some l) : l.length <= s.size + 1 := by
 unfold rdList at h
 split at h
 · cases h; simp
 ·
  have h2 := rdNums_length _ _ h;rw [Lib.splitB_all sep (by omega) 0 _ s rfl] at h2;have h3 := Lib.countB_le sep (by omega) s.size s (Nat.le_refl _);omega
theorem rdDash_length {s : ByteArray} {l : List Int} (h : rdDash s = some l) : l.length <= s.size + 1 := by
 unfold rdDash at h
 split at h
 · cases h
 ·
  split at h
  · cases h; simp
  ·
   split at h
   · cases h
   · exact rdList_length rfl h
theorem told_few {s : ByteArray} {l : List Int} (h : told s = some l) (hs : s.size <= 3000) : Few l := by
 unfold told at h
 cases hr : rdDash s with
 | none => rw [hr] at h; cases h
 | some m =>
  rw [hr] at h;dsimp only at h
  split at h
  ·
   rename_i ha
   cases h;refine ⟨by have := rdDash_length hr; omega, fun x hx => ?_⟩;have := List.all_eq_true.1 ha x hx;simp only [decide_eq_true_eq] at this;unfold I64; omega
  · cases h
theorem told_of {s : ByteArray} {l : List Int} (h : told s = some l) : rdDash s = some l /\ (l.all fun x => decide (0 <= x /\ x <= 999999)) = true := by
 unfold told at h
 cases hr : rdDash s with
 | none => rw [hr] at h; cases h
 | some m =>
  rw [hr] at h;dsimp only at h
  split at h
  · rename_i ha; cases h; exact ⟨rfl, ha⟩
  · cases h
theorem told_none {s : ByteArray} {l : List Int} (h : told s = none) (hr : rdDash s = some l) : (l.all fun x => decide (0 <= x /\ x <= 999999)) = false := by
 unfold told at h;rw [hr] at h;dsimp only at h
 split at h
 · cases h
 · rename_i ha; exact Bool.eq_false_iff.2 ha
def listedP (F : Fns) (l t : List Int) (a s : ByteArray) : Res := match told s with
 | none => ⟨l, t, whatB⟩
 | some m => if a.toList = [116, 97, 107, 101] then moveR l t (if F.park m = true then some m else none) else if a.toList = [106, 111, 105, 110] then moveR l t (F.join l m) else ⟨l, t, listB (F.cls m)⟩
theorem listed_nil {F : Fns} {B g : Nat} {l t : List Int} {w : World} (h : Stand F B g l t w) (s : ByteArray) (hs : s.size <= 3000) (a : ByteArray) (hq : rdDash s = none) : Calls Tryz.prog 79 #[.pointer (some ⟨g, 0, none⟩), .string a, .string s] w (LeftR B g (⟨l, t, whatB⟩) w) := by
 obtain ⟨hF, hI, hd, hl, ht, hG, hB, h8⟩ := h;obtain ⟨A, c, A', c', HL, HT, hc0, hc1⟩ := hd.open_;have HD := am_ hd;have HG := am_ hG;have HR := am_ (readOrDash_any s w (by omega) hG);rw [hq] at HR;clear hq hd hF hI hG hB hl ht h8 hs;go_enter Tryz.func79, Tryz.ntmps79
 go_wp2_with (first
  | (go_at_call 147; refine HR.out.mono ?_; rintro e w1 ⟨v, l', rfl, ho, hm, hb⟩; have HB := am_ hb; clear ho hm hb))
 go_ret;exact left_of HD.out HB.out
theorem listed_bad {F : Fns} {B g : Nat} {l t : List Int} {w : World} (h : Stand F B g l t w) (s : ByteArray) (hs : s.size <= 3000) (a : ByteArray) (m : List Int) (hq : rdDash s = some m) (ha : (m.all fun x => decide (0 <= x /\ x <= 999999)) = false) : Calls Tryz.prog 79 #[.pointer (some ⟨g, 0, none⟩), .string a, .string s] w (LeftR B g (⟨l, t, whatB⟩) w) := by
 obtain ⟨hF, hI, hd, hl, ht, hG, hB, h8⟩ := h;obtain ⟨A, c, A', c', HL, HT, hc0, hc1⟩ := hd.open_;have HD := am_ hd;have HG := am_ hG;have HR := am_ (readOrDash_any s w (by omega) hG);have HA := am_ ha;rw [hq] at HR;clear hq ha hd hF hI hG hB hl ht h8 hs;go_enter Tryz.func79, Tryz.ntmps79
 go_wp2_with (first
  | (go_at_call 147; refine HR.out.mono ?_; rintro e w1 ⟨v, l', rfl, ho, hm, hb⟩; obtain rfl := hm _ rfl; obtain ⟨Av, cv, rfl, hcv, hCv⟩ := Kd.R_reads ho; have HO := am_ ho; have HV := am_ (show Lst w1 Av cv l' from ⟨hCv, hcv⟩); have HM := am_ hm; clear hcv hCv; have HB := am_ hb; clear ho hm hb)
  | (go_at_call 95; refine (impl_areBetween.calls Av cv _ 0 999999 _ _ HV.out.1 HV.out.2 (congrArg some HA.out)).mono ?_; rintro e w2 ⟨rfl, hb⟩; replace HV := am_ (Lst.below HV.out hb); replace HO := am_ (Kd.R_below HO.out hb); replace HB := am_ (below_step HB.out hb); clear hb))
 go_ret;exact left_of HD.out bw_
theorem listed_take_true {F : Fns} {B g : Nat} {l t : List Int} {w : World} (h : Stand F B g l t w) (s : ByteArray) (hs : s.size <= 3000) (m : List Int) (hq : told s = some m) (hp : F.park m = true) : Calls Tryz.prog 79 #[.pointer (some ⟨g, 0, none⟩), .string ⟨#[116, 97, 107, 101]⟩, .string s] w (LeftR B g (moveR l t (some m)) w) := by
 obtain ⟨hF, hI, hd, hl, ht, hG, hB, h8⟩ := h;obtain ⟨A, c, A', c', HL, HT, hc0, hc1⟩ := hd.open_;have HD := am_ hd;have HG := am_ hG;have HR := am_ (readOrDash_any s w (by omega) hG);have HP := am_ hp;have HC := am_ fun A c l w => hI.isPark A c l w;have HA := am_ (told_of hq).2;have HF := am_ (told_few hq hs);have HBz := am_ hB;rw [(told_of hq).1] at HR;clear hq hp hd hF hI hG hB hl ht h8 hs;go_enter Tryz.func79, Tryz.ntmps79
 go_wp2_with (first
  | (go_at_call 147; refine HR.out.mono ?_; rintro e w1 ⟨v, l', rfl, ho, hm, hb⟩; obtain rfl := hm _ rfl; obtain ⟨Av, cv, rfl, hcv, hCv⟩ := Kd.R_reads ho; have HO := am_ ho; have HV := am_ (show Lst w1 Av cv l' from ⟨hCv, hcv⟩); have HM := am_ hm; clear hcv hCv; have HB := am_ hb; clear ho hm hb)
  | (go_at_call 95; refine (impl_areBetween.calls Av cv _ 0 999999 _ _ HV.out.1 HV.out.2 (congrArg some HA.out)).mono ?_; rintro e w2 ⟨rfl, hb⟩; replace HV := am_ (Lst.below HV.out hb); replace HO := am_ (Kd.R_below HO.out hb); replace HB := am_ (below_step HB.out hb); clear hb)
  | (go_at_call 60; refine (HC.out Av cv _ _ HV.out HF.out).mono ?_; rintro e w3 ⟨rfl, hb⟩; rw [HP.out]; replace HO := am_ (Kd.R_below (rs_ HO.out) hb); replace HB := am_ (below_step (show Below w.heap.size w _ from bw_) hb); clear hb)
  | (go_at_call 82; refine (take_yes HD.out bw_ HBz.out HO.out).mono ?_; rintro e w4 ⟨rfl, hd2, hg2⟩; have HX := am_ (left_then (show Below w.heap.size w _ from bw_) (x := moveR l t (some _)) ⟨rfl, hd2, hg2⟩); clear hd2 hg2))
 go_ret;exact HX.out
theorem listed_take_false {F : Fns} {B g : Nat} {l t : List Int} {w : World} (h : Stand F B g l t w) (s : ByteArray) (hs : s.size <= 3000) (m : List Int) (hq : told s = some m) (hp : F.park m = false) : Calls Tryz.prog 79 #[.pointer (some ⟨g, 0, none⟩), .string ⟨#[116, 97, 107, 101]⟩, .string s] w (LeftR B g (moveR l t none) w) := by
 obtain ⟨hF, hI, hd, hl, ht, hG, hB, h8⟩ := h;obtain ⟨A, c, A', c', HL, HT, hc0, hc1⟩ := hd.open_;have HD := am_ hd;have HG := am_ hG;have HR := am_ (readOrDash_any s w (by omega) hG);have HP := am_ hp;have HC := am_ fun A c l w => hI.isPark A c l w;have HA := am_ (told_of hq).2;have HF := am_ (told_few hq hs);have HBz := am_ hB;rw [(told_of hq).1] at HR;clear hq hp hd hF hI hG hB hl ht h8 hs;go_enter Tryz.func79, Tryz.ntmps79
 go_wp2_with (first
  | (go_at_call 147; refine HR.out.mono ?_; rintro e w1 ⟨v, l', rfl, ho, hm, hb⟩; obtain rfl := hm _ rfl; obtain ⟨Av, cv, rfl, hcv, hCv⟩ := Kd.R_reads ho; have HO := am_ ho; have HV := am_ (show Lst w1 Av cv l' from ⟨hCv, hcv⟩); have HM := am_ hm; clear hcv hCv; have HB := am_ hb; clear ho hm hb)
  | (go_at_call 95; refine (impl_areBetween.calls Av cv _ 0 999999 _ _ HV.out.1 HV.out.2 (congrArg some HA.out)).mono ?_; rintro e w2 ⟨rfl, hb⟩; replace HV := am_ (Lst.below HV.out hb); replace HO := am_ (Kd.R_below HO.out hb); replace HB := am_ (below_step HB.out hb); clear hb)
  | (go_at_call 60; refine (HC.out Av cv _ _ HV.out HF.out).mono ?_; rintro e w3 ⟨rfl, hb⟩; rw [HP.out]; replace HO := am_ (Kd.R_below (rs_ HO.out) hb); replace HB := am_ (below_step (show Below w.heap.size w _ from bw_) hb); clear hb)
  | (go_at_call 82; refine (take_no _ B g l t _ (HD.out.below bw_)).mono ?_; rintro e w4 ⟨rfl, hd2, hg2⟩; have HX := am_ (left_then (show Below w.heap.size w _ from bw_) (x := moveR l t none) ⟨rfl, hd2, hg2⟩); clear hd2 hg2))
 go_ret;exact HX.out
theorem listed_join {F : Fns} {B g : Nat} {l t : List Int} {w : World} (h : Stand F B g l t w) (s : ByteArray) (hs : s.size <= 3000) (m : List Int) (hq : told s = some m) : Calls Tryz.prog 79 #[.pointer (some ⟨g, 0, none⟩), .string ⟨#[106, 111, 105, 110]⟩, .string s] w (LeftR B g (moveR l t (F.join l m)) w) := by
 obtain ⟨hF, hI, hd, hl, ht, hG, hB, h8⟩ := h;obtain ⟨A, c, A', c', HL, HT, hc0, hc1⟩ := hd.open_;have HD := am_ hd;have HG := am_ hG;have HR := am_ (readOrDash_any s w (by omega) hG);have HC := am_ fun A' c' m w hA => hI.join A c l A' c' m w hA;have HPk := am_ hl;have HA := am_ (told_of hq).2;have HF := am_ (told_few hq hs);have HBz := am_ hB;rw [(told_of hq).1] at HR;clear hq hd hF hI hG hB hl ht h8 hs;go_enter Tryz.func79, Tryz.ntmps79
 go_wp2_with (first
  | (go_at_call 147; refine HR.out.mono ?_; rintro e w1 ⟨v, l', rfl, ho, hm, hb⟩; obtain rfl := hm _ rfl; obtain ⟨Av, cv, rfl, hcv, hCv⟩ := Kd.R_reads ho; have HO := am_ ho; have HV := am_ (show Lst w1 Av cv l' from ⟨hCv, hcv⟩); have HM := am_ hm; clear hcv hCv; have HB := am_ hb; clear ho hm hb)
  | (go_at_call 95; refine (impl_areBetween.calls Av cv _ 0 999999 _ _ HV.out.1 HV.out.2 (congrArg some HA.out)).mono ?_; rintro e w2 ⟨rfl, hb⟩; replace HV := am_ (Lst.below HV.out hb); replace HO := am_ (Kd.R_below HO.out hb); replace HB := am_ (below_step HB.out hb); have hc0' : w2.cell? ⟨g, 0, none⟩ = some (.slice A l.length c) := (HB.out.cell (World.block_lt_of_cell? w _ hc0)).trans hc0; clear hb)
  | (go_at_call 148; refine (HC.out Av cv _ _ (Lst.below HL.out bw_) HV.out HPk.out HF.out).mono ?_; rintro e w3 ⟨v3, l3, rfl, ho, hm3, hb⟩; replace HO := am_ (Kd.R_lower ho (below_size (show Below w.heap.size w _ from bw_))); have HM3 := am_ hm3; replace HB := am_ (below_step (show Below w.heap.size w _ from bw_) hb); clear ho hm3 hb)
  | (go_at_call 82; refine (take_any (F.join l _) HD.out bw_ HBz.out HO.out HM3.out).mono ?_; rintro e w4 ⟨rfl, hd2, hg2⟩; have HX := am_ (left_then (show Below w.heap.size w _ from bw_) (x := moveR l t (F.join l _)) ⟨rfl, hd2, hg2⟩); clear hd2 hg2))
 go_ret;exact HX.out
theorem listed_class {F : Fns} {B g : Nat} {l t : List Int} {w : World} (h : Stand F B g l t w) (s : ByteArray) (hs : s.size <= 3000) (m : List Int) (hq : told s = some m) : Calls Tryz.prog 79 #[.pointer (some ⟨g, 0, none⟩), .string ⟨#[99, 108, 97, 115, 115]⟩, .string s] w (LeftR B g (⟨l, t, listB (F.cls m)⟩) w) := by
 obtain ⟨hF, hI, hd, hl, ht, hG, hB, h8⟩ := h;obtain ⟨A, c, A', c', HL, HT, hc0, hc1⟩ := hd.open_;have HD := am_ hd;have HG := am_ hG;have HR := am_ (readOrDash_any s w (by omega) hG);have HC := am_ fun A c m w => hI.cls A c m w;have HFc := am_ fun m => hF.cls m;have HA := am_ (told_of hq).2;have HF := am_ (told_few hq hs);have HBz := am_ hB;rw [(told_of hq).1] at HR;clear hq hd hF hI hG hB hl ht h8 hs;go_enter Tryz.func79, Tryz.ntmps79
 go_wp2_with (first
  | (go_at_call 147; refine HR.out.mono ?_; rintro e w1 ⟨v, l', rfl, ho, hm, hb⟩; obtain rfl := hm _ rfl; obtain ⟨Av, cv, rfl, hcv, hCv⟩ := Kd.R_reads ho; have HO := am_ ho; have HV := am_ (show Lst w1 Av cv l' from ⟨hCv, hcv⟩); have HM := am_ hm; clear hcv hCv; have HB := am_ hb; clear ho hm hb)
  | (go_at_call 95; refine (impl_areBetween.calls Av cv _ 0 999999 _ _ HV.out.1 HV.out.2 (congrArg some HA.out)).mono ?_; rintro e w2 ⟨rfl, hb⟩; replace HV := am_ (Lst.below HV.out hb); replace HO := am_ (Kd.R_below HO.out hb); replace HB := am_ (below_step HB.out hb); clear hb)
  | (go_at_call 149; refine (HC.out Av cv _ _ HV.out HF.out).mono ?_; rintro e w3 ⟨v3, l3, n3, rfl, ho, hm3, hb⟩; replace HO := am_ ho; have HM3 := am_ hm3; replace HB := am_ (below_step (show Below w.heap.size w _ from bw_) hb); clear ho hm3 hb)
  | (go_at_call 139; refine (ofList_any (F.cls _) _ _ _ _ HO.out HM3.out (fun m h => HFc.out _ m h) gb_).mono ?_; rintro e w4 ⟨rfl, hb⟩; replace HB := am_ (below_step HB.out hb); clear hb))
 go_ret;exact left_of HD.out HB.out
theorem listed_take_any {F : Fns} {B g : Nat} {l t : List Int} {w : World} (h : Stand F B g l t w) (s : ByteArray) (hs : s.size <= 3000) : Calls Tryz.prog 79 #[.pointer (some ⟨g, 0, none⟩), .string ⟨#[116, 97, 107, 101]⟩, .string s] w (LeftR B g (listedP F l t ⟨#[116, 97, 107, 101]⟩ s) w) := by
 unfold listedP
 cases hq : told s with
 | none =>
  cases hr : rdDash s with
  | none => exact listed_nil h s hs _ hr
  | some m => exact listed_bad h s hs _ m hr (told_none hq hr)
 | some m =>
  dsimp only;rw [if_pos (by rw [Lib.toList_data])]
  cases hp : F.park m with
  | true => rw [if_pos rfl]; exact listed_take_true h s hs m hq hp
  | false => rw [if_neg (by decide)]; exact listed_take_false h s hs m hq hp
theorem listed_join_any {F : Fns} {B g : Nat} {l t : List Int} {w : World} (h : Stand F B g l t w) (s : ByteArray) (hs : s.size <= 3000) : Calls Tryz.prog 79 #[.pointer (some ⟨g, 0, none⟩), .string ⟨#[106, 111, 105, 110]⟩, .string s] w (LeftR B g (listedP F l t ⟨#[106, 111, 105, 110]⟩ s) w) := by
 unfold listedP
 cases hq : told s with
 | none =>
  cases hr : rdDash s with
  | none => exact listed_nil h s hs _ hr
  | some m => exact listed_bad h s hs _ m hr (told_none hq hr)
 | some m =>
  dsimp only;rw [if_neg (by rw [Lib.toList_data]; decide), if_pos (by rw [Lib.toList_data])]; exact listed_join h s hs m hq
theorem listed_class_any {F : Fns} {B g : Nat} {l t : List Int} {w : World} (h : Stand F B g l t w) (s : ByteArray) (hs : s.size <= 3000) : Calls Tryz.prog 79 #[.pointer (some ⟨g, 0, none⟩), .string ⟨#[99, 108, 97, 115, 115]⟩, .string s] w (LeftR B g (listedP F l t ⟨#[99, 108, 97, 115, 115]⟩ s) w) := by
 unfold listedP
 cases hq : told s with
 | none =>
  cases hr : rdDash s with
  | none => exact listed_nil h s hs _ hr
  | some m => exact listed_bad h s hs _ m hr (told_none hq hr)
 | some m =>
  dsimp only;rw [if_neg (by rw [Lib.toList_data]; decide), if_neg (by rw [Lib.toList_data]; decide)]; exact listed_class h s hs m hq
set_option maxHeartbeats 1000000
def pieces (s : ByteArray) (c : UInt8) : List ByteArray := Lib.splitB ⟨#[c]⟩ 0 (Lib.countB s ⟨#[c]⟩) s
theorem pieces_length (s : ByteArray) (c : UInt8) : (pieces s c).length = Lib.countB s ⟨#[c]⟩ + 1 := Lib.splitB_all ⟨#[c]⟩ (Nat.le_refl 1) 0 _ s rfl
theorem split_any (s : ByteArray) (c : UInt8) (w : World) (hs : s.size <= 1000000) (hG : Glob w) :
  Calls Tryz.prog 77 #[.string s, .string ⟨#[c]⟩] w fun e w' => e = .returned (.slice (some ⟨w.heap.size, 0, none⟩) (pieces s c).length (pieces s c).length) /\ w' = w.alloc (.cells ((pieces s c).map Value.string).toArray 9) := by
 obtain ⟨m, hm⟩ := hG.len;rw [pieces_length];exact Tryz.strings_Split s ⟨#[c]⟩ m w (by omega) hm (Nat.le_refl 1)
theorem pieces_size {s x : ByteArray} {c : UInt8} (h : x ∈ pieces s c) : x.size <= s.size := splitB_size _ _ _ _ h
def executeP (F : Fns) (l t : List Int) (s : ByteArray) : Res := match pieces s 32 with
 | [a] => aloneP F l t a
 | [a, b] => if a.toList = [116, 97, 107, 101] \/ a.toList = [106, 111, 105, 110] \/ a.toList = [99, 108, 97, 115, 115] then listedP F l t a b else match rdCount b with
  | none => ⟨l, t, whatB⟩
  | some n => numberedP F l t a n
 | [a, b, c] => if a.toList = [97, 116] then match rdCount b, rdCount c with
  | some n, some r => moveR l t (F.at_ n r)
  | _, _ => ⟨l, t, whatB⟩
  else ⟨l, t, whatB⟩
 | _ => ⟨l, t, whatB⟩
theorem rdCount_in {s : ByteArray} {n : Int} (h : rdCount s = some n) : 0 <= n /\ n <= 999999 := by
 unfold rdCount at h
 cases hr : rdNum s with
 | none => rw [hr] at h; cases h
 | some m =>
  rw [hr] at h;dsimp only at h
  split at h
  · rename_i h1; cases h; exact h1
  · cases h
theorem execute_one {F : Fns} {B g : Nat} {l t : List Int} {w : World} (h : Stand F B g l t w) (s : ByteArray) (hs : s.size <= 3000) (a : ByteArray) (hp : pieces s 32 = [a]) : Calls Tryz.prog 55 #[.pointer (some ⟨g, 0, none⟩), .string s] w (LeftR B g (aloneP F l t a) w) := by
 have HS := am_ (show Calls Tryz.prog 77 #[.string s, .string ⟨#[32]⟩] w fun e w' => e = .returned (.slice (some ⟨w.heap.size, 0, none⟩) 1 1) /\ w' = w.alloc (.cells #[.string a] 9) by have h1 := split_any s 32 w (by omega) h.glob; rw [hp] at h1; exact h1);have HH := am_ h;have HB := am_ (Below.refl w.heap.size w);clear h hp hs;go_enter Tryz.func55, Tryz.ntmps55
 go_wp2_with (first
  | (go_at_call 77; refine HS.out.mono ?_; rintro e w1 ⟨rfl, rfl⟩)
  | (go_at_call 78; refine (alone_any (HH.out.below bw_) a).mono ?_; rintro e w9 ⟨rfl, hd2, hg2⟩; have HX := am_ (left_then (show Below w.heap.size w _ from bw_) (x := aloneP F l t a) ⟨rfl, hd2, hg2⟩); clear hd2 hg2))
 go_ret;exact HX.out
theorem execute_list_take {F : Fns} {B g : Nat} {l t : List Int} {w : World} (h : Stand F B g l t w) (s : ByteArray) (hs : s.size <= 3000) (b : ByteArray) (hp : pieces s 32 = [⟨#[116, 97, 107, 101]⟩, b]) : Calls Tryz.prog 55 #[.pointer (some ⟨g, 0, none⟩), .string s] w (LeftR B g (listedP F l t ⟨#[116, 97, 107, 101]⟩ b) w) := by
 have HS := am_ (show Calls Tryz.prog 77 #[.string s, .string ⟨#[32]⟩] w fun e w' => e = .returned (.slice (some ⟨w.heap.size, 0, none⟩) 2 2) /\ w' = w.alloc (.cells #[.string ⟨#[116, 97, 107, 101]⟩, .string b] 9) by have h1 := split_any s 32 w (by omega) h.glob; rw [hp] at h1; exact h1);have HH := am_ h;have HB := am_ (Below.refl w.heap.size w);have HZ := am_ (show b.size <= 3000 from Nat.le_trans (pieces_size (x := b) (c := 32) (by rw [hp]; simp)) hs);clear h hp hs;go_enter Tryz.func55, Tryz.ntmps55
 go_wp2_with (first
  | (go_at_call 77; refine HS.out.mono ?_; rintro e w1 ⟨rfl, rfl⟩)
  | (go_at_call 79; refine (listed_take_any (HH.out.below bw_) b HZ.out).mono ?_; rintro e w9 ⟨rfl, hd2, hg2⟩; have HX := am_ (left_then (show Below w.heap.size w _ from bw_) (x := listedP F l t ⟨#[116, 97, 107, 101]⟩ b) ⟨rfl, hd2, hg2⟩); clear hd2 hg2))
 go_ret;exact HX.out
theorem execute_list_join {F : Fns} {B g : Nat} {l t : List Int} {w : World} (h : Stand F B g l t w) (s : ByteArray) (hs : s.size <= 3000) (b : ByteArray) (hp : pieces s 32 = [⟨#[106, 111, 105, 110]⟩, b]) : Calls Tryz.prog 55 #[.pointer (some ⟨g, 0, none⟩), .string s] w (LeftR B g (listedP F l t ⟨#[106, 111, 105, 110]⟩ b) w) := by
 have HS := am_ (show Calls Tryz.prog 77 #[.string s, .string ⟨#[32]⟩] w fun e w' => e = .returned (.slice (some ⟨w.heap.size, 0, none⟩) 2 2) /\ w' = w.alloc (.cells #[.string ⟨#[106, 111, 105, 110]⟩, .string b] 9) by have h1 := split_any s 32 w (by omega) h.glob; rw [hp] at h1; exact h1);have HH := am_ h;have HB := am_ (Below.refl w.heap.size w);have HZ := am_ (show b.size <= 3000 from Nat.le_trans (pieces_size (x := b) (c := 32) (by rw [hp]; simp)) hs);clear h hp hs;go_enter Tryz.func55, Tryz.ntmps55
 go_wp2_with (first
  | (go_at_call 77; refine HS.out.mono ?_; rintro e w1 ⟨rfl, rfl⟩)
  | (go_at_call 79; refine (listed_join_any (HH.out.below bw_) b HZ.out).mono ?_; rintro e w9 ⟨rfl, hd2, hg2⟩; have HX := am_ (left_then (show Below w.heap.size w _ from bw_) (x := listedP F l t ⟨#[106, 111, 105, 110]⟩ b) ⟨rfl, hd2, hg2⟩); clear hd2 hg2))
 go_ret;exact HX.out
theorem execute_list_class {F : Fns} {B g : Nat} {l t : List Int} {w : World} (h : Stand F B g l t w) (s : ByteArray) (hs : s.size <= 3000) (b : ByteArray) (hp : pieces s 32 = [⟨#[99, 108, 97, 115, 115]⟩, b]) : Calls Tryz.prog 55 #[.pointer (some ⟨g, 0, none⟩), .string s] w (LeftR B g (listedP F l t ⟨#[99, 108, 97, 115, 115]⟩ b) w) := by
 have HS := am_ (show Calls Tryz.prog 77 #[.string s, .string ⟨#[32]⟩] w fun e w' => e = .returned (.slice (some ⟨w.heap.size, 0, none⟩) 2 2) /\ w' = w.alloc (.cells #[.string ⟨#[99, 108, 97, 115, 115]⟩, .string b] 9) by have h1 := split_any s 32 w (by omega) h.glob; rw [hp] at h1; exact h1);have HH := am_ h;have HB := am_ (Below.refl w.heap.size w);have HZ := am_ (show b.size <= 3000 from Nat.le_trans (pieces_size (x := b) (c := 32) (by rw [hp]; simp)) hs);clear h hp hs;go_enter Tryz.func55, Tryz.ntmps55
 go_wp2_with (first
  | (go_at_call 77; refine HS.out.mono ?_; rintro e w1 ⟨rfl, rfl⟩)
  | (go_at_call 79; refine (listed_class_any (HH.out.below bw_) b HZ.out).mono ?_; rintro e w9 ⟨rfl, hd2, hg2⟩; have HX := am_ (left_then (show Below w.heap.size w _ from bw_) (x := listedP F l t ⟨#[99, 108, 97, 115, 115]⟩ b) ⟨rfl, hd2, hg2⟩); clear hd2 hg2))
 go_ret;exact HX.out
theorem execute_num_no {F : Fns} {B g : Nat} {l t : List Int} {w : World} (h : Stand F B g l t w) (s : ByteArray) (hs : s.size <= 3000) (a b : ByteArray) (hp : pieces s 32 = [a, b]) (h0 : (a.toList == ([116, 97, 107, 101] : List UInt8)) = false) (h1 : (a.toList == ([106, 111, 105, 110] : List UInt8)) = false) (h2 : (a.toList == ([99, 108, 97, 115, 115] : List UInt8)) = false) (hr : rdCount b = none) : Calls Tryz.prog 55 #[.pointer (some ⟨g, 0, none⟩), .string s] w (LeftR B g (⟨l, t, whatB⟩) w) := by
 have HS := am_ (show Calls Tryz.prog 77 #[.string s, .string ⟨#[32]⟩] w fun e w' => e = .returned (.slice (some ⟨w.heap.size, 0, none⟩) 2 2) /\ w' = w.alloc (.cells #[.string a, .string b] 9) by have h1 := split_any s 32 w (by omega) h.glob; rw [hp] at h1; exact h1);have HH := am_ h;have HB := am_ (Below.refl w.heap.size w);have HC := am_ (readCount_any b (w.alloc (.cells #[.string a, .string b] 9)) (Nat.le_trans (Nat.le_trans (pieces_size (x := b) (c := 32) (by rw [hp]; simp)) hs) (by omega)) (h.glob.below (below_alloc (Below.refl _ _) _)));have HR := am_ hr;clear hr h hp hs;go_enter Tryz.func55, Tryz.ntmps55
 go_wp2_with (first
  | (go_at_call 77; refine HS.out.mono ?_; rintro e w1 ⟨rfl, rfl⟩)
  | (go_at_call 80; refine HC.out.mono ?_; rintro e w2 ⟨n', rfl, hn, hb⟩; rw [HR.out]; dsimp only [Option.isSome]; replace HB := am_ (below_step (show Below w.heap.size w _ from bw_) hb); clear hn hb))
 go_ret;exact left_of HH.out.at_ (show Below w.heap.size w _ from bw_)
theorem execute_num_yes {F : Fns} {B g : Nat} {l t : List Int} {w : World} (h : Stand F B g l t w) (s : ByteArray) (hs : s.size <= 3000) (a b : ByteArray) (hp : pieces s 32 = [a, b]) (h0 : (a.toList == ([116, 97, 107, 101] : List UInt8)) = false) (h1 : (a.toList == ([106, 111, 105, 110] : List UInt8)) = false) (h2 : (a.toList == ([99, 108, 97, 115, 115] : List UInt8)) = false) (n : Int) (hr : rdCount b = some n) : Calls Tryz.prog 55 #[.pointer (some ⟨g, 0, none⟩), .string s] w (LeftR B g (numberedP F l t a n) w) := by
 have HS := am_ (show Calls Tryz.prog 77 #[.string s, .string ⟨#[32]⟩] w fun e w' => e = .returned (.slice (some ⟨w.heap.size, 0, none⟩) 2 2) /\ w' = w.alloc (.cells #[.string a, .string b] 9) by have h1 := split_any s 32 w (by omega) h.glob; rw [hp] at h1; exact h1);have HH := am_ h;have HB := am_ (Below.refl w.heap.size w);have HC := am_ (readCount_any b (w.alloc (.cells #[.string a, .string b] 9)) (Nat.le_trans (Nat.le_trans (pieces_size (x := b) (c := 32) (by rw [hp]; simp)) hs) (by omega)) (h.glob.below (below_alloc (Below.refl _ _) _)));have HR := am_ hr;have HN := am_ (rdCount_in hr);clear hr h hp hs;go_enter Tryz.func55, Tryz.ntmps55
 go_wp2_with (first
  | (go_at_call 77; refine HS.out.mono ?_; rintro e w1 ⟨rfl, rfl⟩)
  | (go_at_call 80; refine HC.out.mono ?_; rintro e w2 ⟨n', rfl, hn, hb⟩; rw [HR.out]; dsimp only [Option.isSome]; obtain rfl := hn _ HR.out; replace HB := am_ (below_step (show Below w.heap.size w _ from bw_) hb); clear hn hb)
  | (go_at_call 81; refine (numbered_any (HH.out.below HB.out) _ HN.out.1 HN.out.2 a).mono ?_; rintro e w9 ⟨rfl, hd2, hg2⟩; have HX := am_ (left_then (show Below w.heap.size w _ from bw_) (x := numberedP F l t a _) ⟨rfl, hd2, hg2⟩); clear hd2 hg2))
 go_ret;exact HX.out
theorem execute_at_no0 {F : Fns} {B g : Nat} {l t : List Int} {w : World} (h : Stand F B g l t w) (s : ByteArray) (hs : s.size <= 3000) (b c : ByteArray) (hp : pieces s 32 = [⟨#[97, 116]⟩, b, c]) (h1 : rdCount b = none) (h2 : rdCount c = none) : Calls Tryz.prog 55 #[.pointer (some ⟨g, 0, none⟩), .string s] w (LeftR B g (⟨l, t, whatB⟩) w) := by
 have HS := am_ (show Calls Tryz.prog 77 #[.string s, .string ⟨#[32]⟩] w fun e w' => e = .returned (.slice (some ⟨w.heap.size, 0, none⟩) 3 3) /\ w' = w.alloc (.cells #[.string ⟨#[97, 116]⟩, .string b, .string c] 9) by have h1 := split_any s 32 w (by omega) h.glob; rw [hp] at h1; exact h1);have HH := am_ h;have HB := am_ (Below.refl w.heap.size w);have HC := am_ (readCount_any b (w.alloc (.cells #[.string ⟨#[97, 116]⟩, .string b, .string c] 9)) (Nat.le_trans (Nat.le_trans (pieces_size (x := b) (c := 32) (by rw [hp]; simp)) hs) (by omega)) (h.glob.below (below_alloc (Below.refl _ _) _)));have HZ := am_ (show c.size <= 1000000 from Nat.le_trans (Nat.le_trans (pieces_size (x := c) (c := 32) (by rw [hp]; simp)) hs) (by omega));have HT2 := am_ (show (w.alloc (.cells #[.string ⟨#[97, 116]⟩, .string b, .string c] 9)).cell? ⟨w.heap.size, 2, none⟩ = some (.string c) from blk_cell (blk_new w _) 2);have HR1 := am_ h1;have HR2 := am_ h2;clear h1 h2 h hp hs;go_enter Tryz.func55, Tryz.ntmps55
 go_wp2_with (first
  | (go_at_call 77; refine HS.out.mono ?_; rintro e w1 ⟨rfl, rfl⟩)
  | (go_at_call_of 80 b; refine HC.out.mono ?_; rintro e w2 ⟨n1, rfl, hn, hb⟩; rw [HR1.out]; dsimp only [Option.isSome]; have hc2 : w2.cell? ⟨w.heap.size, 2, none⟩ = some (.string c) := (hb.cell (World.block_lt_of_cell? _ _ HT2.out)).trans HT2.out; replace HB := am_ (below_step (show Below w.heap.size w _ from bw_) hb); clear hn hb)
  | (go_at_call_of 80 c; refine (readCount_any c _ HZ.out (HH.out.glob.below bw_)).mono ?_; rintro e w3 ⟨n2, rfl, hn, hb⟩; rw [HR2.out]; dsimp only [Option.isSome]; replace HB := am_ (below_step (show Below w.heap.size w _ from bw_) hb); clear hn hb))
 go_ret;exact left_of HH.out.at_ (show Below w.heap.size w _ from bw_)
theorem execute_at_no1 {F : Fns} {B g : Nat} {l t : List Int} {w : World} (h : Stand F B g l t w) (s : ByteArray) (hs : s.size <= 3000) (b c : ByteArray) (hp : pieces s 32 = [⟨#[97, 116]⟩, b, c]) (m : Int) (h1 : rdCount b = none) (h2 : rdCount c = some m) : Calls Tryz.prog 55 #[.pointer (some ⟨g, 0, none⟩), .string s] w (LeftR B g (⟨l, t, whatB⟩) w) := by
 have HS := am_ (show Calls Tryz.prog 77 #[.string s, .string ⟨#[32]⟩] w fun e w' => e = .returned (.slice (some ⟨w.heap.size, 0, none⟩) 3 3) /\ w' = w.alloc (.cells #[.string ⟨#[97, 116]⟩, .string b, .string c] 9) by have h1 := split_any s 32 w (by omega) h.glob; rw [hp] at h1; exact h1);have HH := am_ h;have HB := am_ (Below.refl w.heap.size w);have HC := am_ (readCount_any b (w.alloc (.cells #[.string ⟨#[97, 116]⟩, .string b, .string c] 9)) (Nat.le_trans (Nat.le_trans (pieces_size (x := b) (c := 32) (by rw [hp]; simp)) hs) (by omega)) (h.glob.below (below_alloc (Below.refl _ _) _)));have HZ := am_ (show c.size <= 1000000 from Nat.le_trans (Nat.le_trans (pieces_size (x := c) (c := 32) (by rw [hp]; simp)) hs) (by omega));have HT2 := am_ (show (w.alloc (.cells #[.string ⟨#[97, 116]⟩, .string b, .string c] 9)).cell? ⟨w.heap.size, 2, none⟩ = some (.string c) from blk_cell (blk_new w _) 2);have HR1 := am_ h1;have HR2 := am_ h2;clear h1 h2 h hp hs;go_enter Tryz.func55, Tryz.ntmps55
 go_wp2_with (first
  | (go_at_call 77; refine HS.out.mono ?_; rintro e w1 ⟨rfl, rfl⟩)
  | (go_at_call_of 80 b; refine HC.out.mono ?_; rintro e w2 ⟨n1, rfl, hn, hb⟩; rw [HR1.out]; dsimp only [Option.isSome]; have hc2 : w2.cell? ⟨w.heap.size, 2, none⟩ = some (.string c) := (hb.cell (World.block_lt_of_cell? _ _ HT2.out)).trans HT2.out; replace HB := am_ (below_step (show Below w.heap.size w _ from bw_) hb); clear hn hb)
  | (go_at_call_of 80 c; refine (readCount_any c _ HZ.out (HH.out.glob.below bw_)).mono ?_; rintro e w3 ⟨n2, rfl, hn, hb⟩; rw [HR2.out]; dsimp only [Option.isSome]; obtain rfl := hn _ HR2.out; replace HB := am_ (below_step (show Below w.heap.size w _ from bw_) hb); clear hn hb))
 go_ret;exact left_of HH.out.at_ (show Below w.heap.size w _ from bw_)
theorem execute_at_no2 {F : Fns} {B g : Nat} {l t : List Int} {w : World} (h : Stand F B g l t w) (s : ByteArray) (hs : s.size <= 3000) (b c : ByteArray) (hp : pieces s 32 = [⟨#[97, 116]⟩, b, c]) (m : Int) (h1 : rdCount b = some m) (h2 : rdCount c = none) : Calls Tryz.prog 55 #[.pointer (some ⟨g, 0, none⟩), .string s] w (LeftR B g (⟨l, t, whatB⟩) w) := by
 have HS := am_ (show Calls Tryz.prog 77 #[.string s, .string ⟨#[32]⟩] w fun e w' => e = .returned (.slice (some ⟨w.heap.size, 0, none⟩) 3 3) /\ w' = w.alloc (.cells #[.string ⟨#[97, 116]⟩, .string b, .string c] 9) by have h1 := split_any s 32 w (by omega) h.glob; rw [hp] at h1; exact h1);have HH := am_ h;have HB := am_ (Below.refl w.heap.size w);have HC := am_ (readCount_any b (w.alloc (.cells #[.string ⟨#[97, 116]⟩, .string b, .string c] 9)) (Nat.le_trans (Nat.le_trans (pieces_size (x := b) (c := 32) (by rw [hp]; simp)) hs) (by omega)) (h.glob.below (below_alloc (Below.refl _ _) _)));have HZ := am_ (show c.size <= 1000000 from Nat.le_trans (Nat.le_trans (pieces_size (x := c) (c := 32) (by rw [hp]; simp)) hs) (by omega));have HT2 := am_ (show (w.alloc (.cells #[.string ⟨#[97, 116]⟩, .string b, .string c] 9)).cell? ⟨w.heap.size, 2, none⟩ = some (.string c) from blk_cell (blk_new w _) 2);have HR1 := am_ h1;have HR2 := am_ h2;clear h1 h2 h hp hs;go_enter Tryz.func55, Tryz.ntmps55
 go_wp2_with (first
  | (go_at_call 77; refine HS.out.mono ?_; rintro e w1 ⟨rfl, rfl⟩)
  | (go_at_call_of 80 b; refine HC.out.mono ?_; rintro e w2 ⟨n1, rfl, hn, hb⟩; rw [HR1.out]; dsimp only [Option.isSome]; obtain rfl := hn _ HR1.out; have hc2 : w2.cell? ⟨w.heap.size, 2, none⟩ = some (.string c) := (hb.cell (World.block_lt_of_cell? _ _ HT2.out)).trans HT2.out; replace HB := am_ (below_step (show Below w.heap.size w _ from bw_) hb); clear hn hb)
  | (go_at_call_of 80 c; refine (readCount_any c _ HZ.out (HH.out.glob.below bw_)).mono ?_; rintro e w3 ⟨n2, rfl, hn, hb⟩; rw [HR2.out]; dsimp only [Option.isSome]; replace HB := am_ (below_step (show Below w.heap.size w _ from bw_) hb); clear hn hb))
 go_ret;exact left_of HH.out.at_ (show Below w.heap.size w _ from bw_)
theorem execute_at_yes {F : Fns} {B g : Nat} {l t : List Int} {w : World} (h : Stand F B g l t w) (s : ByteArray) (hs : s.size <= 3000) (b c : ByteArray) (hp : pieces s 32 = [⟨#[97, 116]⟩, b, c]) (n r : Int) (h1 : rdCount b = some n) (h2 : rdCount c = some r) : Calls Tryz.prog 55 #[.pointer (some ⟨g, 0, none⟩), .string s] w (LeftR B g (moveR l t (F.at_ n r)) w) := by
 have HS := am_ (show Calls Tryz.prog 77 #[.string s, .string ⟨#[32]⟩] w fun e w' => e = .returned (.slice (some ⟨w.heap.size, 0, none⟩) 3 3) /\ w' = w.alloc (.cells #[.string ⟨#[97, 116]⟩, .string b, .string c] 9) by have h1 := split_any s 32 w (by omega) h.glob; rw [hp] at h1; exact h1);have HH := am_ h;have HB := am_ (Below.refl w.heap.size w);have HC := am_ (readCount_any b (w.alloc (.cells #[.string ⟨#[97, 116]⟩, .string b, .string c] 9)) (Nat.le_trans (Nat.le_trans (pieces_size (x := b) (c := 32) (by rw [hp]; simp)) hs) (by omega)) (h.glob.below (below_alloc (Below.refl _ _) _)));have HZ := am_ (show c.size <= 1000000 from Nat.le_trans (Nat.le_trans (pieces_size (x := c) (c := 32) (by rw [hp]; simp)) hs) (by omega));have HT2 := am_ (show (w.alloc (.cells #[.string ⟨#[97, 116]⟩, .string b, .string c] 9)).cell? ⟨w.heap.size, 2, none⟩ = some (.string c) from blk_cell (blk_new w _) 2);have HR1 := am_ h1;have HR2 := am_ h2;have HN1 := am_ (rdCount_in h1);have HN2 := am_ (rdCount_in h2);clear h1 h2 h hp hs;go_enter Tryz.func55, Tryz.ntmps55
 go_wp2_with (first
  | (go_at_call 77; refine HS.out.mono ?_; rintro e w1 ⟨rfl, rfl⟩)
  | (go_at_call_of 80 b; refine HC.out.mono ?_; rintro e w2 ⟨n1, rfl, hn, hb⟩; rw [HR1.out]; dsimp only [Option.isSome]; obtain rfl := hn _ HR1.out; have hc2 : w2.cell? ⟨w.heap.size, 2, none⟩ = some (.string c) := (hb.cell (World.block_lt_of_cell? _ _ HT2.out)).trans HT2.out; replace HB := am_ (below_step (show Below w.heap.size w _ from bw_) hb); clear hn hb)
  | (go_at_call_of 80 c; refine (readCount_any c _ HZ.out (HH.out.glob.below bw_)).mono ?_; rintro e w3 ⟨n2, rfl, hn, hb⟩; rw [HR2.out]; dsimp only [Option.isSome]; obtain rfl := hn _ HR2.out; replace HB := am_ (below_step (show Below w.heap.size w _ from bw_) hb); clear hn hb)
  | (go_at_call 63; refine (HH.out.impl.at_ _ _ _ HN1.out.1 HN1.out.2 HN2.out.1 HN2.out.2).mono ?_; rintro e w4 ⟨v, l', rfl, ho, hm, hb⟩; have HO := am_ (Kd.R_lower ho (below_size (show Below w.heap.size w _ from bw_))); have HM := am_ hm; replace HB := am_ (below_step (show Below w.heap.size w _ from bw_) hb); clear ho hm hb)
  | (go_at_call 82; refine (take_any (F.at_ _ _) HH.out.at_ bw_ HH.out.low HO.out HM.out).mono ?_; rintro e w9 ⟨rfl, hd2, hg2⟩; have HX := am_ (left_then (show Below w.heap.size w _ from bw_) (x := moveR l t (F.at_ _ _)) ⟨rfl, hd2, hg2⟩); clear hd2 hg2))
 go_ret;exact HX.out
theorem execute_at_not {F : Fns} {B g : Nat} {l t : List Int} {w : World} (h : Stand F B g l t w) (s : ByteArray) (hs : s.size <= 3000) (a b c : ByteArray) (hp : pieces s 32 = [a, b, c]) (h0 : (a.toList == ([97, 116] : List UInt8)) = false) : Calls Tryz.prog 55 #[.pointer (some ⟨g, 0, none⟩), .string s] w (LeftR B g (⟨l, t, whatB⟩) w) := by
 have HS := am_ (show Calls Tryz.prog 77 #[.string s, .string ⟨#[32]⟩] w fun e w' => e = .returned (.slice (some ⟨w.heap.size, 0, none⟩) 3 3) /\ w' = w.alloc (.cells #[.string a, .string b, .string c] 9) by have h1 := split_any s 32 w (by omega) h.glob; rw [hp] at h1; exact h1);have HH := am_ h;have HB := am_ (Below.refl w.heap.size w);clear h hp hs;go_enter Tryz.func55, Tryz.ntmps55
 go_wp2_with (first
  | (go_at_call 77; refine HS.out.mono ?_; rintro e w1 ⟨rfl, rfl⟩))
 go_ret;exact left_of HH.out.at_ (show Below w.heap.size w _ from bw_)
theorem execute_long {F : Fns} {B g : Nat} {l t : List Int} {w : World} (h : Stand F B g l t w) (s : ByteArray) (hs : s.size <= 3000) (a b c d : ByteArray) (r : List ByteArray) (hp : pieces s 32 = a :: b :: c :: d :: r) : Calls Tryz.prog 55 #[.pointer (some ⟨g, 0, none⟩), .string s] w (LeftR B g ⟨l, t, whatB⟩ w) := by
 obtain ⟨n, hn⟩ : ∃ n, n = (a :: b :: c :: d :: r).length := ⟨_, rfl⟩
 have HS := am_ (show Calls Tryz.prog 77 #[.string s, .string ⟨#[32]⟩] w fun e w' => e = .returned (.slice (some ⟨w.heap.size, 0, none⟩) n n) /\ w'.cell? ⟨w.heap.size, 0, none⟩ = some (.string a) /\ Below w.heap.size w w' from
  (split_any s 32 w (by omega) h.glob).mono fun e w' h1 => by
   rw [hp, <- hn] at h1;refine ⟨h1.1, ?_, ?_⟩
   · rw [h1.2]; exact blk_cell (blk_new w _) 0
   · rw [h1.2]; exact below_alloc (Below.refl _ _) _)
 have HH := am_ h;have q1 : ((n : Int) == 1) = false := beq_eq_false_iff_ne.2 (by simp at hn; omega);have q2 : ((n : Int) == 2) = false := beq_eq_false_iff_ne.2 (by simp at hn; omega);have q3 : ((n : Int) == 3) = false := beq_eq_false_iff_ne.2 (by simp at hn; omega)
 have q4 : (0 : Nat) < n := by simp at hn; omega
 clear h hp hs hn;go_enter Tryz.func55, Tryz.ntmps55
 go_wp2_with (go_at_call 77; refine HS.out.mono ?_; rintro e w1 ⟨rfl, hx, hb⟩; have HB := am_ hb; clear hb)
 go_ret;exact left_of HH.out.at_ HB.out
theorem execute_any {F : Fns} {B g : Nat} {l t : List Int} {w : World} (h : Stand F B g l t w) (s : ByteArray) (hs : s.size <= 3000) : Calls Tryz.prog 55 #[.pointer (some ⟨g, 0, none⟩), .string s] w (LeftR B g (executeP F l t s) w) := by
 unfold executeP;have hlen := pieces_length s 32
 cases hp : pieces s 32 with
 | nil => rw [hp] at hlen; simp at hlen
 | cons a p1 =>
 cases p1 with
 | nil => exact execute_one h s hs a hp
 | cons b p2 =>
 cases p2 with
 | nil =>
  dsimp only
  by_cases h0 : a.toList = [116, 97, 107, 101]
  ·
   rw [if_pos (Or.inl h0)];obtain rfl := ba_lit a ⟨#[116, 97, 107, 101]⟩ h0;exact execute_list_take h s hs b hp
  by_cases h1 : a.toList = [106, 111, 105, 110]
  ·
   rw [if_pos (Or.inr (Or.inl h1))];obtain rfl := ba_lit a ⟨#[106, 111, 105, 110]⟩ h1;exact execute_list_join h s hs b hp
  by_cases h2 : a.toList = [99, 108, 97, 115, 115]
  ·
   rw [if_pos (Or.inr (Or.inr h2))];obtain rfl := ba_lit a ⟨#[99, 108, 97, 115, 115]⟩ h2;exact execute_list_class h s hs b hp
  rw [if_neg (by rintro (h | h | h); exact h0 h; exact h1 h; exact h2 h)]
  cases hr : rdCount b with
  | none => exact execute_num_no h s hs a b hp (beq_eq_false_iff_ne.2 h0) (beq_eq_false_iff_ne.2 h1) (beq_eq_false_iff_ne.2 h2) hr
  | some n => exact execute_num_yes h s hs a b hp (beq_eq_false_iff_ne.2 h0) (beq_eq_false_iff_ne.2 h1) (beq_eq_false_iff_ne.2 h2) n hr
 | cons c p3 =>
 cases p3 with
 | nil =>
  dsimp only
  by_cases h0 : a.toList = [97, 116]
  ·
   rw [if_pos h0];obtain rfl := ba_lit a ⟨#[97, 116]⟩ h0
   cases h1 : rdCount b with
   | none => cases h2 : rdCount c with
    | none => exact execute_at_no0 h s hs b c hp h1 h2
    | some m => exact execute_at_no1 h s hs b c hp m h1 h2
   | some n => cases h2 : rdCount c with
    | none => exact execute_at_no2 h s hs b c hp n h1 h2
    | some r => exact execute_at_yes h s hs b c hp n r h1 h2
  ·
   rw [if_neg h0];exact execute_at_not h s hs a b c hp (beq_eq_false_iff_ne.2 h0)
 | cons d r => exact execute_long h s hs a b c d r hp
theorem occ_one (l : List UInt8) (c : UInt8) (i : Nat) (h : Lib.occAt l [c] i = true) : l.take (i + 1) = l.take i ++ [c] := by
 unfold Lib.occAt at h
 have h1 : (l.drop i).take 1 = [c] := by
  cases hd : l.drop i with
  | nil => rw [hd] at h; simp at h
  | cons x r => rw [hd] at h; simp at h; rw [h]; rfl
 rw [<- h1, List.take_add]
theorem trim_snoc (l : List UInt8) (c : UInt8) : Lib.trimSuffix (l ++ [c]) [c] = l := by
 unfold Lib.trimSuffix Lib.hasSuffix;rw [if_pos (List.isSuffixOf_iff_suffix.2 ⟨l, rfl⟩)];simp
theorem trim_split (c : UInt8) : ∀ (k : Nat) (l : List UInt8), Lib.count l [c] = k -> (∀ j x, (Lib.splitK [c] 1 k l)[j]? = some x -> j < k -> (Lib.splitK [c] 0 k l)[j]? = some (Lib.trimSuffix x [c])) /\ (Lib.splitK [c] 1 k l)[k]? = (Lib.splitK [c] 0 k l)[k]?
 | 0, l, _ => ⟨fun j x _ h => absurd h (by omega), rfl⟩
 | k + 1, l, h => by
  rcases Lib.index_spec l [c] with ⟨hi, _⟩ | ⟨i, hi, hil, ho, _⟩
  · rw [Lib.count_miss hi] at h; omega
  ·
   have hk : Lib.count (l.drop (i + 1)) [c] = k := by
    have := Lib.count_hit (s := l) (sub := [c]) (i := i) (by simp) hi;rw [h] at this;simp at this;omega
   obtain ⟨ih1, ih2⟩ := trim_split c k (l.drop (i + 1)) hk
   have hn : ¬ (Lib.index l [c] == -1) = true := fun e => by have := beq_iff_eq.1 e; omega
   have e1 : ∀ sv, Lib.splitK [c] sv (k + 1) l = l.take (i + sv) :: Lib.splitK [c] sv k (l.drop (i + 1)) := fun sv => by
    rw [Lib.splitK, if_neg hn, hi];rfl
   rw [e1, e1];refine ⟨fun j x hj hlt => ?_, ih2⟩
   cases j with
   | zero =>
    simp at hj;subst hj;rw [occ_one l c i ho, trim_snoc];rfl
   | succ j => exact ih1 j x (by simpa using hj) (by omega)
def piecesA (s : ByteArray) (c : UInt8) : List ByteArray := Lib.splitB ⟨#[c]⟩ 1 (Lib.countB s ⟨#[c]⟩) s
theorem piecesA_length (s : ByteArray) (c : UInt8) : (piecesA s c).length = Lib.countB s ⟨#[c]⟩ + 1 := Lib.splitB_all ⟨#[c]⟩ (Nat.le_refl 1) 1 _ s rfl
def trimB (x : ByteArray) (c : UInt8) : ByteArray := ⟨(Lib.trimSuffix x.data.toList [c]).toArray⟩
theorem trim_pieces (s : ByteArray) (c : UInt8) (j : Nat) (hj : j < Lib.countB s ⟨#[c]⟩) (h1 : j < (piecesA s c).length) (h2 : j < (pieces s c).length) : trimB (piecesA s c)[j] c = (pieces s c)[j] := by
 have h := (trim_split c (Lib.countB s ⟨#[c]⟩) s.data.toList rfl).1 j;have d1 := Lib.splitB_data ⟨#[c]⟩ 1 (Lib.countB s ⟨#[c]⟩) s;have d0 := Lib.splitB_data ⟨#[c]⟩ 0 (Lib.countB s ⟨#[c]⟩) s
 have e1 : (Lib.splitK [c] 1 (Lib.countB s ⟨#[c]⟩) s.data.toList)[j]? = some (piecesA s c)[j].data.toList := by
  show (Lib.splitK (⟨#[c]⟩ : ByteArray).data.toList 1 _ _)[j]? = _;rw [<- d1];show ((piecesA s c).map _)[j]? = _;rw [List.getElem?_map, List.getElem?_eq_getElem h1]; rfl
 have e0 : (Lib.splitK [c] 0 (Lib.countB s ⟨#[c]⟩) s.data.toList)[j]? = some (pieces s c)[j].data.toList := by
  show (Lib.splitK (⟨#[c]⟩ : ByteArray).data.toList 0 _ _)[j]? = _;rw [<- d0];show ((pieces s c).map _)[j]? = _;rw [List.getElem?_map, List.getElem?_eq_getElem h2]; rfl
 have := h _ e1 hj;rw [e0] at this;have e := Option.some.inj this;unfold trimB;rw [<- e]
theorem last_pieces (s : ByteArray) (c : UInt8) (h1 : Lib.countB s ⟨#[c]⟩ < (piecesA s c).length) (h2 : Lib.countB s ⟨#[c]⟩ < (pieces s c).length) : (piecesA s c)[Lib.countB s ⟨#[c]⟩] = (pieces s c)[Lib.countB s ⟨#[c]⟩] := by
 have h := (trim_split c (Lib.countB s ⟨#[c]⟩) s.data.toList rfl).2;have d1 := Lib.splitB_data ⟨#[c]⟩ 1 (Lib.countB s ⟨#[c]⟩) s;have d0 := Lib.splitB_data ⟨#[c]⟩ 0 (Lib.countB s ⟨#[c]⟩) s
 have e1 : (Lib.splitK [c] 1 (Lib.countB s ⟨#[c]⟩) s.data.toList)[Lib.countB s ⟨#[c]⟩]? = some (piecesA s c)[Lib.countB s ⟨#[c]⟩].data.toList := by
  show (Lib.splitK (⟨#[c]⟩ : ByteArray).data.toList 1 _ _)[_]? = _;rw [<- d1];show ((piecesA s c).map _)[_]? = _;rw [List.getElem?_map, List.getElem?_eq_getElem h1]; rfl
 have e0 : (Lib.splitK [c] 0 (Lib.countB s ⟨#[c]⟩) s.data.toList)[Lib.countB s ⟨#[c]⟩]? = some (pieces s c)[Lib.countB s ⟨#[c]⟩].data.toList := by
  show (Lib.splitK (⟨#[c]⟩ : ByteArray).data.toList 0 _ _)[_]? = _;rw [<- d0];show ((pieces s c).map _)[_]? = _;rw [List.getElem?_map, List.getElem?_eq_getElem h2]; rfl
 rw [e1, e0] at h;have e := Option.some.inj h;exact ByteArray.ext (Array.ext' e)
theorem splitAfter_any (s : ByteArray) (c : UInt8) (w : World) (hs : s.size <= 2000000) (hG : Glob w) :
  Calls Tryz.prog 68 #[.string s, .string ⟨#[c]⟩] w fun e w' => e = .returned (.slice (some ⟨w.heap.size, 0, none⟩) (Lib.countB s ⟨#[c]⟩ + 1) (Lib.countB s ⟨#[c]⟩ + 1)) /\ w' = w.alloc (.cells ((piecesA s c).map Value.string).toArray 9) := by
 obtain ⟨m, hm⟩ := hG.len;have hle := Lib.countB_le ⟨#[c]⟩ (Nat.le_refl 1) s.size s (Nat.le_refl _);have C := Tryz.strings_genSplit s ⟨#[c]⟩ 1 (-1) (Lib.countB s ⟨#[c]⟩ + 1) m w (by omega) hm (Nat.le_refl 1) (Nat.le_refl 1) (by decide) (by decide) (by rw [if_pos (by decide)]; omega)
 have HC := am_ (C.mono (R' := fun e w' => e = .returned (.slice (some ⟨w.heap.size, 0, none⟩) (Lib.countB s ⟨#[c]⟩ + 1) (Lib.countB s ⟨#[c]⟩ + 1)) /\ w' = w.alloc (.cells ((piecesA s c).map Value.string).toArray 9)) fun e w' h => by
  obtain ⟨h1, h2⟩ := h;rw [Nat.add_sub_cancel] at h1 h2;have e1 : (Lib.splitB ⟨#[c]⟩ 1 (Lib.countB s ⟨#[c]⟩) s).length = Lib.countB s ⟨#[c]⟩ + 1 := piecesA_length s c;rw [e1] at h1;rw [<- e1, Lib.cellsOf_full] at h2
  exact ⟨h1, h2⟩)
 clear C hm hle hG hs;go_enter Tryz.func68, Tryz.ntmps68
 go_wp2_with (go_at_call 108; refine HC.out.mono ?_; rintro e w1 ⟨rfl, rfl⟩)
 go_ret;exact ⟨rfl, rfl⟩
def firstT : List Int := List.replicate 7 (-1)
def stepR (F : Fns) (st : List Int × List Int × List ByteArray) (s : ByteArray) : List Int × List Int × List ByteArray := ((executeP F st.1 st.2.1 s).l, (executeP F st.1 st.2.1 s).t, st.2.2 ++ [(executeP F st.1 st.2.1 s).r])
def stR (F : Fns) (ls : List ByteArray) : List Int × List Int × List ByteArray := ls.foldl (stepR F) ([0], firstT, [])
theorem stR_snoc (F : Fns) (ls : List ByteArray) (s : ByteArray) : stR F (ls ++ [s]) = stepR F (stR F ls) s := by unfold stR; rw [List.foldl_append]; rfl
def runP (F : Fns) (s : ByteArray) : Option (List Int × List Int × List ByteArray) :=
 if s.size <= 3000 /\ Lib.countB s ⟨#[10]⟩ <= 50 /\ ((pieces s 10).getD (Lib.countB s ⟨#[10]⟩) ⟨#[0]⟩).toList = [] then some (stR F ((pieces s 10).take (Lib.countB s ⟨#[10]⟩))) else none
theorem moveR_ok {F : Fns} {l t : List Int} {o : Option (List Int)} (hl : F.park l = true) (ht : F.tab t = true) (h : ∀ m, o = some m -> F.park m = true) : F.park (moveR l t o).l = true /\ F.tab (moveR l t o).t = true := by
 cases o with
 | none => exact ⟨hl, ht⟩
 | some m => exact ⟨h m rfl, ht⟩
theorem layR_ok {F : Fns} {l t : List Int} {o : Option (List Int)} (hl : F.park l = true) (ht : F.tab t = true) (h : ∀ m, o = some m -> F.tab m = true) : F.park (layR l t o).l = true /\ F.tab (layR l t o).t = true := by
 cases o with
 | none => exact ⟨hl, ht⟩
 | some m => exact ⟨hl, h m rfl⟩
theorem executeP_ok {F : Fns} (hF : Good F) {l t : List Int} (hl : F.park l = true) (ht : F.tab t = true) (s : ByteArray) : F.park (executeP F l t s).l = true /\ F.tab (executeP F l t s).t = true := by
 have h0 : F.park (⟨l, t, whatB⟩ : Res).l = true /\ F.tab (⟨l, t, whatB⟩ : Res).t = true := ⟨hl, ht⟩
 unfold executeP
 split
 ·
  unfold aloneP
  repeat' split
  all_goals first | exact ⟨hl, ht⟩ | exact moveR_ok hl ht fun m h => hF.next l m hl h
 ·
  split
  ·
   unfold listedP
   repeat' split
   all_goals first
    | exact ⟨hl, ht⟩
    | exact moveR_ok hl ht fun m h => hF.join l _ m h
    | (refine moveR_ok hl ht fun m h => ?_; cases h <;> assumption)
  ·
   split
   · exact h0
   ·
    unfold numberedP
    repeat' split
    all_goals first
     | exact ⟨hl, ht⟩
     | exact layR_ok hl ht fun m h => hF.empty _ m h
     | exact layR_ok hl ht fun m h => hF.rem t _ m ht h
     | (unfold numR; split <;> exact ⟨hl, ht⟩)
     | (unfold findR; split <;> exact ⟨hl, ht⟩)
     | (unfold putR; split <;> first | exact ⟨hl, ht⟩ | (rename_i hq; exact ⟨hl, (hF.ins t _ _ _ ht hq).1⟩))
 ·
  split
  ·
   split
   · exact moveR_ok hl ht fun m h => hF.at_ _ _ m h
   · exact h0
  · exact h0
 · exact h0
theorem stR_ok {F : Fns} (hF : Good F) (h0 : F.park [0] = true) (h1 : F.tab firstT = true) (ls : List ByteArray) : F.park (stR F ls).1 = true /\ F.tab (stR F ls).2.1 = true /\ (stR F ls).2.2.length = ls.length := by
 suffices h : ∀ (ls : List ByteArray) (st : List Int × List Int × List ByteArray), F.park st.1 = true -> F.tab st.2.1 = true -> F.park (ls.foldl (stepR F) st).1 = true /\ F.tab (ls.foldl (stepR F) st).2.1 = true /\ (ls.foldl (stepR F) st).2.2.length = st.2.2.length + ls.length by
  have := h ls ([0], firstT, []) h0 h1;simpa [stR] using this
 intro ls
 induction ls with
 | nil => intro st h2 h3; exact ⟨h2, h3, rfl⟩
 | cons x r ih =>
  intro st h2 h3;have h4 := executeP_ok hF h2 h3 x;have h5 := ih (stepR F st x) h4.1 h4.2;refine ⟨h5.1, h5.2.1, ?_⟩;have h6 := h5.2.2;simp only [List.foldl_cons, List.length_cons];rw [h6];simp [stepR];omega
theorem splitB_size' (sep : ByteArray) (sv : Nat) : ∀ (k : Nat) (s : ByteArray) (x : ByteArray), x ∈ Lib.splitB sep sv k s -> x.size <= s.size
 | 0, s, x, h => by
  rw [Lib.splitB_zero] at h;obtain rfl := List.mem_singleton.1 h;exact Nat.le_refl _
 | k + 1, s, x, h => by
  unfold Lib.splitB at h
  split at h
  ·
   obtain rfl := List.mem_singleton.1 h;exact Nat.le_refl _
  ·
   rcases List.mem_cons.1 h with rfl | h
   · simp [ByteArray.size_extract]; omega
   ·
    have := splitB_size' sep sv k _ x h;simp [ByteArray.size_extract] at this;omega
def GotDesk (l t : List Int) (w : World) (e : Ending) (w' : World) : Prop := ∃ v0 v1, e = .returned (.agg #[v0, v1]) /\ Kd.R (Kd.int .i64) 3 w' w.heap.size (fun _ => True) v0 l /\ Kd.R (Kd.int .i64) 3 w' w.heap.size (fun _ => True) v1 t /\ NeRow v0 v1 /\ Below w.heap.size w w'
def GotRun (o : Option (List Int × List Int × List ByteArray)) (w : World) (e : Ending) (w' : World) : Prop := ∃ v0 v1 v2 l t rs, e = .returned (.tuple #[.agg #[v0, v1], v2, .bool o.isSome]) /\ Kd.R (Kd.int .i64) 3 w' w.heap.size (fun _ => True) v0 l /\ Kd.R (Kd.int .i64) 3 w' w.heap.size (fun _ => True) v1 t /\ NeRow v0 v1 /\ Kd.R Kd.string 9 w' w.heap.size (fun _ => True) v2 rs /\ (∀ m, o = some m -> (l, t, rs) = m) /\ Below w.heap.size w w'
def NoRun (w : World) (e : Ending) (w' : World) : Prop := e = .returned (.tuple #[.agg #[.slice none 0 0, .slice none 0 0], .slice none 0 0, .bool false]) /\ Below w.heap.size w w'
theorem NoRun.got {w w' : World} {e : Ending} (h : NoRun w e w') : GotRun none w e w' := ⟨_, _, _, [], [], [], h.1, Kd.R_nil _ _ _ _ _, Kd.R_nil _ _ _ _ _, fun k h => (by cases h), Kd.R_nil _ _ _ _ _, fun m h => (by cases h), h.2⟩
theorem run_split (s : ByteArray) (hs : s.size <= 2000000) (w : World) (hG : Glob w) :
  Calls Tryz.prog 68 #[.string s, .string ⟨#[10]⟩] (w.alloc (.cells #[.slice none 0 0, .slice none 0 0] 36)) fun e w' => e = .returned (.slice (some ⟨w.heap.size + 1, 0, none⟩) (Lib.countB s ⟨#[10]⟩ + 1) (Lib.countB s ⟨#[10]⟩ + 1)) /\ w'.heap[w.heap.size + 1]? = some (.cells ((piecesA s 10).map Value.string).toArray 9 (0, 0)) /\ w'.heap[w.heap.size]? = some (.cells #[.slice none 0 0, .slice none 0 0] 36 (0, 0)) /\ Below w.heap.size w w' := by
 have hb := below_alloc (Below.refl w.heap.size w) (.cells #[.slice none 0 0, .slice none 0 0] 36)
 have hsz : (w.alloc (.cells #[.slice none 0 0, .slice none 0 0] 36)).heap.size = w.heap.size + 1 := by simp
 refine (splitAfter_any s 10 _ hs (hG.below hb)).mono fun e w' h => ?_
 rw [hsz] at h;refine ⟨h.1, ?_, ?_, ?_⟩
 · rw [h.2, <- hsz]; exact blk_new _ _
 · rw [h.2]; exact blk_alloc (blk_new w _) _
 · rw [h.2]; exact below_alloc hb _
theorem run_bad (s : ByteArray) (hs : s.size <= 2000000) (w : World) (hG : Glob w) (x : ByteArray) (hx : ((piecesA s 10).map Value.string)[Lib.countB s ⟨#[10]⟩]? = some (.string x))
  (hq : decide ((s.size : Int) > 3000) = true \/ decide ((s.size : Int) > 3000) = false /\ decide (((Lib.countB s ⟨#[10]⟩ : Nat) : Int) > 50) = true \/ decide ((s.size : Int) > 3000) = false /\ decide (((Lib.countB s ⟨#[10]⟩ : Nat) : Int) > 50) = false /\ x.toList.isEmpty = false) :
  Calls Tryz.prog 39 #[.string s] w (NoRun w) := by
 have HS := am_ (run_split s hs w hG);have hle := Lib.countB_le ⟨#[10]⟩ (Nat.le_refl 1) s.size s (Nat.le_refl _)
 obtain ⟨n, hn⟩ : ∃ n, n = Lib.countB s ⟨#[10]⟩ := ⟨_, rfl⟩
 rw [<- hn] at HS hx hq hle
 have hn9 : n <= 2000000 := by omega
 have HX := am_ hx;clear hn hs hG hx hle
 rcases hq with q1 | ⟨q1, q2⟩ | ⟨q1, q2, q3⟩
 all_goals
  go_enter Tryz.func39, Tryz.ntmps39
  go_wp2_with (go_at_call 68; refine HS.out.mono ?_; rintro e w1 ⟨rfl, hp, h0, hb⟩; have HB := am_ hb; have H0 := am_ h0; have hc0 : w1.cell? ⟨w.heap.size, 0, none⟩ = some (.slice none 0 0) := blk_cell h0 0; have hc1 : w1.cell? ⟨w.heap.size, 1, none⟩ = some (.slice none 0 0) := blk_cell h0 1; have hf0 := blk_frozen h0 0; have hf1 := blk_frozen h0 1; have hcx : w1.cell? ⟨w.heap.size + 1, n, none⟩ = some (.string x) := (blk_cell hp n).trans (by simpa using HX.out); clear hp h0 hb)
  have HF := am_ (show Below w.heap.size w ((w1.setCell ⟨w.heap.size, 0, none⟩ (.slice none 0 0)).setCell ⟨w.heap.size, 1, none⟩ (.slice none 0 0)) from below_set (below_set HB.out (Nat.le_refl _)) (Nat.le_refl _));exact bodyPost_ret (v := .tuple #[.agg #[.slice none 0 0, .slice none 0 0], .slice none 0 0, .bool false]) (by simp [results, Tryz.results39, go_sem, hc0, hc1]) rfl ⟨rfl, HF.out⟩
theorem R_kept {α : Type} {d : Kd α} {e g t base : Nat} {ok : Nat -> Prop} {W w1 : World} {v : Value} {xs : List α} {cells : Array Value} (h : d.R e W base ok v xs) (hb : W.heap[g]? = some (.cells cells t (0, 0))) (ht : ∀ q, q ∈ e :: d.E -> q ≠ t) (hg : W.grownBy w1 (some g)) : d.R e w1 base ok v xs :=
 Kd.R_mono (Kd.R_grown (Kd.R_types h hb ht) hg (fun k hk => by rintro ⟨⟩; exact hk.2 rfl)) (fun _ hk => hk.1)
theorem DeskAt.append {W w1 : World} {B g base : Nat} {l t : List Int} {ok : Nat -> Prop} {v : Value} {xs : List ByteArray} (h : DeskAt W B g l t) (ho : Kd.R Kd.string 9 W base ok v xs) (hg : W.grownBy w1 v.ownBlock) : DeskAt w1 B g l t := by
 obtain ⟨h0, v0, v1, h1, h2, h3, h4⟩ := h
 have hr : ∀ {u : Value} {ys : List Int}, Kd.R (Kd.int .i64) 3 W B (fun _ => True) u ys -> Kd.R (Kd.int .i64) 3 w1 B (fun _ => True) u ys := by
  intro u ys hu
  cases hv : v.ownBlock with
  | none => rw [hv] at hg; exact Kd.R_grown hu hg (fun _ _ => by simp)
  | some k =>
   obtain ⟨inner, hown⟩ := Kd.R_own ho;obtain ⟨cells, hc⟩ := own_typed hown k hv;rw [hv] at hg;exact R_kept hu hc (by decide) hg
 exact ⟨h0, v0, v1, blk_grown h1 hg (Kd.R_ne ho h1 (by decide)), hr h2, hr h3, h4⟩
theorem DeskAt.desk {w : World} {B g : Nat} {l t : List Int} (h : DeskAt w B g l t) : ∃ v0 v1, w.heap[g]? = some (.cells #[v0, v1] 36 (0, 0)) := by
 obtain ⟨_, v0, v1, h1, _⟩ := h;exact ⟨v0, v1, h1⟩
theorem set2 {α : Type} {d : Kd α} {e g t base : Nat} {ok : Nat -> Prop} {W : World} {v a b : Value} {xs : List α} {cells : Array Value} (hb : W.heap[g]? = some (.cells cells t (0, 0))) (h : d.R e W base ok v xs) (ht : ∀ q, q ∈ e :: d.E -> q ≠ t) : d.R e ((W.setCell ⟨g, 0, none⟩ a).setCell ⟨g, 1, none⟩ b) base ok v xs :=
 Kd.R_set (Kd.R_set h hb ht 0 a) (blk_set hb 0 a) ht 1 b
theorem run_good (F : Fns) (hF : Good F) (hI : ImplOk F) (hp0 : F.park [0] = true) (ht0 : F.tab firstT = true) (hD : ∀ w, Calls Tryz.prog 37 #[] w (GotDesk [0] firstT w)) (s : ByteArray) (hs : s.size <= 3000) (w : World) (hG : Glob w) (x : ByteArray) (hx : ((piecesA s 10).map Value.string)[Lib.countB s ⟨#[10]⟩]? = some (.string x)) (hx0 : x.toList.isEmpty = true) (hc : Lib.countB s ⟨#[10]⟩ <= 50) :
  Calls Tryz.prog 39 #[.string s] w (GotRun (some (stR F ((pieces s 10).take (Lib.countB s ⟨#[10]⟩)))) w) := by
 have HS := am_ (run_split s (by omega) w hG);have HT := am_ (trim_pieces s 10);have HPA := am_ (piecesA_length s 10);have HPB := am_ (pieces_length s 10);have HZ := am_ (show ∀ y ∈ pieces s 10, y.size <= 3000 from fun y hy => Nat.le_trans (pieces_size hy) hs);have HZA := am_ (show ∀ y ∈ piecesA s 10, y.size <= 9223372036854775807 from fun y hy => by have := splitB_size' ⟨#[10]⟩ 1 _ _ _ hy; omega);have q1 : decide ((s.size : Int) > 3000) = false := decide_eq_false (by omega)
 obtain ⟨n, hn⟩ : ∃ n, n = Lib.countB s ⟨#[10]⟩ := ⟨_, rfl⟩
 rw [<- hn] at HS hx hc HT HPA HPB ⊢;have q2 : decide ((n : Int) > 50) = false := decide_eq_false (by omega);have HX := am_ hx;have HG := am_ hG;have HI := am_ hI;have HK := am_ (stR_ok hF hp0 ht0);have HF := am_ hF;clear hn hs hG hx hI hF hp0 ht0;go_enter Tryz.func39, Tryz.ntmps39
 go_wp2_with (first
  | (go_at_call 68; refine HS.out.mono ?_; rintro e w1 ⟨rfl, hp, h0, hb⟩; have HB := am_ hb; have H0 := am_ h0; have HP := am_ hp; have hcx : w1.cell? ⟨w.heap.size + 1, n, none⟩ = some (.string x) := (blk_cell hp n).trans (by simpa using HX.out); clear hp h0 hb)
  | (go_at_call 37; refine (hD _).mono ?_; rintro e w2 ⟨v0, v1, rfl, hr0, hr1, hne, hb⟩; obtain ⟨A0, c0, rfl⟩ := Kd.R_slice hr0; obtain ⟨A1, c1, rfl⟩ := Kd.R_slice hr1; have H0 := am_ (blk_below H0.out hb); have HP := am_ (blk_below HP.out hb); have HR0 := am_ (Kd.R_lower hr0 (below_size HB.out)); have HR1 := am_ (Kd.R_lower hr1 (below_size HB.out)); have HNE := am_ hne; have HL := am_ (show w.heap.size + 1 < w2.heap.size from Nat.lt_of_lt_of_le (blk_lt HP.out) (Nat.le_refl _)); replace HB := am_ (below_step HB.out hb); clear hr0 hr1 hne hb))
 obtain ⟨W0, hW0⟩ : ∃ W0, W0 = (w2.alloc (.cells #[] 9)).alloc (.cells #[.slice A0 1 c0, .slice A1 firstT.length c1] 36) := ⟨_, rfl⟩
 have hs1 : (w2.alloc (.cells #[] 9)).heap.size = w2.heap.size + 1 := by simp
 have hb1 := below_alloc (Below.refl w2.heap.size w2) (.cells #[] 9);have hb2 := below_alloc hb1 (.cells #[.slice A0 1 c0, .slice A1 firstT.length c1] 36)
 have HD := am_ (show DeskAt W0 w.heap.size (w2.heap.size + 1) [0] firstT from
  ⟨by have := HL.out; omega, _, _, by rw [hW0, <- hs1]; exact blk_new _ _, by rw [hW0]; exact Kd.R_below HR0.out hb2, by rw [hW0]; exact Kd.R_below HR1.out hb2, HNE.out⟩)
 have HO := am_ (show Kd.R Kd.string 9 W0 w2.heap.size (fun _ => True) (.slice (some ⟨w2.heap.size, 0, none⟩) 0 0) [] by rw [hW0]; exact Kd.R_alloc (made_S w2) _);have HB2 := am_ (show Below w2.heap.size w2 W0 by rw [hW0]; exact hb2);rw [<- hW0];clear hW0 hs1 hb1 hb2 HR0 HR1 HNE
 go_loopg [8, 37] n (fun kq v8 v37 w' => ∃ (i : Nat) (iz : Int), v37 = .int .i64 iz /\ Aside0 (iz = (i : Int)) /\ Aside0 (i + kq = n) /\ Aside0 (DeskAt w' w.heap.size (w2.heap.size + 1) (stR F ((pieces s 10).take i)).1 (stR F ((pieces s 10).take i)).2.1) /\ Aside0 (Kd.R Kd.string 9 w' w2.heap.size (fun _ => True) v8 (stR F ((pieces s 10).take i)).2.2) /\ Aside0 (Below w2.heap.size w2 w'))
 case atStart => exact ⟨0, 0, rfl, ⟨rfl⟩, ⟨by omega⟩, HD, HO, HB2⟩
 case round =>
  clear HO HD HB2;obtain ⟨i, iz, rfl, NI, NK, HD, HO, HB2⟩ := hrel
  cases gk with
  | zero =>
   have hi : i = n := by have := NK.out; omega
   subst hi;have q4 : decide (iz < (i : Int)) = false := decide_eq_false (by have := NI.out; omega);obtain ⟨hlo, v0, v1, h1, h2, h3, hne⟩ := HD.out;obtain ⟨B0, d0, rfl⟩ := Kd.R_slice h2;obtain ⟨B1, d1, rfl⟩ := Kd.R_slice h3;have h0 : wr.heap[w.heap.size]? = some (.cells #[.slice none 0 0, .slice none 0 0] 36 (0, 0)) := (HB2.out.block _ (by have := HL.out; omega)).trans H0.out;have hcg0 : wr.cell? ⟨w2.heap.size + 1, 0, none⟩ = some (.slice B0 _ d0) := (blk_cell h1 0).trans rfl;have hcg1 : wr.cell? ⟨w2.heap.size + 1, 1, none⟩ = some (.slice B1 _ d1) := (blk_cell h1 1).trans rfl;have hc0 : wr.cell? ⟨w.heap.size, 0, none⟩ = some (.slice none 0 0) := blk_cell h0 0;have hc1 : wr.cell? ⟨w.heap.size, 1, none⟩ = some (.slice none 0 0) := blk_cell h0 1;have hf0 := blk_frozen h0 0;have hf1 := blk_frozen h0 1;have H1 := am_ h0;have H2 := am_ h2;have H3 := am_ h3;have HN := am_ hne;clear h0 h1 h2 h3 hne hlo;go_wp2;have HW := am_ (below_step HB.out HB2.out);have HE := am_ (show Below w.heap.size w ((wr.setCell ⟨w.heap.size, 0, none⟩ (.slice B0 (stR F ((pieces s 10).take i)).1.length d0)).setCell ⟨w.heap.size, 1, none⟩ (.slice B1 (stR F ((pieces s 10).take i)).2.1.length d1)) from below_set (below_set HW.out (Nat.le_refl _)) (Nat.le_refl _))
   exact bodyPost_ret (v := .tuple #[.agg #[.slice B0 (stR F ((pieces s 10).take i)).1.length d0, .slice B1 (stR F ((pieces s 10).take i)).2.1.length d1], u8, .bool true]) (by simp [results, Tryz.results39, go_sem, hc0, hc1]) rfl
    ⟨_, _, _, _, _, _, rfl, set2 H1.out H2.out (by decide), set2 H1.out H3.out (by decide), HN.out, set2 H1.out (Kd.R_lower HO.out (below_size HB.out)) (by decide), fun m h => (by cases h; rfl), HE.out⟩
  | succ d =>
   have hi0 : 0 <= iz := by have := NI.out; omega
   have hin : iz < (n : Int) := by have := NI.out; have := NK.out; omega
   have q4 : decide (iz < (n : Int)) = true := decide_eq_true hin
   have hia : i < (piecesA s 10).length := by have := NK.out; have := HPA.out; omega
   have hib : i < (pieces s 10).length := by have := NK.out; have := HPB.out; omega
   obtain ⟨y, hy⟩ : ∃ y, y = (piecesA s 10)[i] := ⟨_, rfl⟩
   obtain ⟨z, hz⟩ : ∃ z, z = (pieces s 10)[i] := ⟨_, rfl⟩
   have hyz : (⟨(Lib.trimSuffix y.data.toList [10]).toArray⟩ : ByteArray) = z := by rw [hy, hz]; exact HT.out i (by have := NK.out; omega) hia hib
   have hpp : wr.heap[w.heap.size + 1]? = some (.cells ((piecesA s 10).map Value.string).toArray 9 (0, 0)) := (HB2.out.block _ HL.out).trans HP.out;have hxl : wr.cell? ⟨w.heap.size + 1, iz.toNat, none⟩ = some (.string y) := (blk_cell hpp _).trans (by rw [NI.out, Int.toNat_natCast, hy]; simp [hia]);have HY := am_ (show y.size <= 9223372036854775807 from HZA.out y (by rw [hy]; exact List.getElem_mem _));have HZz := am_ (show z.size <= 3000 from HZ.out z (by rw [hz]; exact List.getElem_mem _));have HTk := am_ (show stR F ((pieces s 10).take (i + 1)) = stepR F (stR F ((pieces s 10).take i)) z by rw [List.take_succ_eq_append_getElem hib, stR_snoc, hz]);have HLt := am_ (show (stR F ((pieces s 10).take i)).2.2.length < 8796093022208 by rw [(HK.out _).2.2, List.length_take]; have := NK.out; omega);have HYZ := am_ hyz;have HIz := am_ (show wrap64 (iz + 1) = ((i + 1 : Nat) : Int) by rw [NI.out]; have := NK.out; rw [wrap64_in _ (by omega) (by omega)]; omega);clear hy hz hyz hpp hia hib
   obtain ⟨st, hst⟩ : ∃ st, st = stR F ((pieces s 10).take i) := ⟨_, rfl⟩
   have HKk := am_ (HK.out ((pieces s 10).take i));rw [<- hst] at HD HO HTk HLt HKk;clear hst;replace hi0 := eq_true hi0;replace hin := eq_true hin
   go_wp2_with (first
    | (go_at_call 69; refine (Tryz.strings_TrimSuffix y ⟨#[10]⟩ _ HY.out).mono ?_; rintro e w3 ⟨rfl, rfl⟩; rw [HYZ.out])
    | (go_at_call 55; refine (execute_any (F := F) (B := w.heap.size) (g := w2.heap.size + 1) (l := st.1) (t := st.2.1) ⟨HF.out, HI.out, HD.out, HKk.out.1, HKk.out.2.1, HG.out.below (below_step HB.out HB2.out), Nat.le_trans (below_size HB.out) HB2.out.size, HG.out.big⟩ z HZz.out).mono ?_; rintro e w3 ⟨rfl, hd, hg⟩; obtain ⟨u0, u1, hgd⟩ := HD.out.desk; replace HO := am_ (R_kept HO.out hgd (by decide) hg); replace HD := am_ hd; replace HB2 := am_ (pw_below_grown HB2.out (some (w2.heap.size + 1)) HB2.out.size hg (fun k hk => by cases hk; exact Nat.le_succ _)); clear hd hg hgd)
    | (at_builtin; refine apS_ (.tmp 41) (.tmp 45) _ _ _ HO.out HB2.out HLt.out ?_; intro v1 w4 ho hb hg; replace HD := am_ (DeskAt.append HD.out HO.out hg); replace HO := am_ ho; replace HB2 := am_ hb; clear ho hb hg))
   go_roundg d
   case measure => omega
   case rel => exact ⟨i + 1, _, rfl, HIz, ⟨by have := NK.out; omega⟩, ⟨by rw [HTk.out]; exact HD.out⟩, ⟨by rw [HTk.out]; exact HO.out⟩, HB2⟩
theorem run_no (F : Fns) (s : ByteArray) (hs : s.size <= 2000000) (w : World) (hG : Glob w) (hq : runP F s = none) : Calls Tryz.prog 39 #[.string s] w (NoRun w) := by
 have h1 : Lib.countB s ⟨#[10]⟩ < (piecesA s 10).length := by rw [piecesA_length]; omega
 have h2 : Lib.countB s ⟨#[10]⟩ < (pieces s 10).length := by rw [pieces_length]; omega
 have hl := last_pieces s 10 h1 h2
 obtain ⟨x, hx⟩ : ∃ x, x = (pieces s 10)[Lib.countB s ⟨#[10]⟩] := ⟨_, rfl⟩
 have hgx : ((piecesA s 10).map Value.string)[Lib.countB s ⟨#[10]⟩]? = some (.string x) := by
  rw [List.getElem?_map, List.getElem?_eq_getElem h1, hl, hx]; rfl
 have hgd : (pieces s 10).getD (Lib.countB s ⟨#[10]⟩) ⟨#[0]⟩ = x := by
  rw [List.getD_eq_getElem?_getD, List.getElem?_eq_getElem h2, hx]; rfl
 unfold runP at hq;rw [hgd] at hq
 by_cases c1 : s.size <= 3000
 ·
  by_cases c2 : Lib.countB s ⟨#[10]⟩ <= 50
  ·
   by_cases c3 : x.toList = []
   ·
    rw [if_pos ⟨c1, c2, c3⟩] at hq;cases hq
   · exact run_bad s hs w hG x hgx (.inr (.inr ⟨decide_eq_false (by omega), decide_eq_false (by omega), by cases hq : x.toList with | nil => exact absurd hq c3 | cons _ _ => rfl⟩))
  · exact run_bad s hs w hG x hgx (.inr (.inl ⟨decide_eq_false (by omega), decide_eq_true (by omega)⟩))
 · exact run_bad s hs w hG x hgx (.inl (decide_eq_true (by omega)))
theorem run_any (F : Fns) (hF : Good F) (hI : ImplOk F) (hp0 : F.park [0] = true) (ht0 : F.tab firstT = true) (hD : ∀ w, Calls Tryz.prog 37 #[] w (GotDesk [0] firstT w)) (s : ByteArray) (hs : s.size <= 2000000) (w : World) (hG : Glob w) :
  Calls Tryz.prog 39 #[.string s] w (GotRun (runP F s) w) := by
 have h1 : Lib.countB s ⟨#[10]⟩ < (piecesA s 10).length := by rw [piecesA_length]; omega
 have h2 : Lib.countB s ⟨#[10]⟩ < (pieces s 10).length := by rw [pieces_length]; omega
 have hl := last_pieces s 10 h1 h2
 obtain ⟨x, hx⟩ : ∃ x, x = (pieces s 10)[Lib.countB s ⟨#[10]⟩] := ⟨_, rfl⟩
 have hgx : ((piecesA s 10).map Value.string)[Lib.countB s ⟨#[10]⟩]? = some (.string x) := by
  rw [List.getElem?_map, List.getElem?_eq_getElem h1, hl, hx]; rfl
 have hgd : (pieces s 10).getD (Lib.countB s ⟨#[10]⟩) ⟨#[0]⟩ = x := by
  rw [List.getD_eq_getElem?_getD, List.getElem?_eq_getElem h2, hx]; rfl
 unfold runP;rw [hgd]
 by_cases c1 : s.size <= 3000
 ·
  by_cases c2 : Lib.countB s ⟨#[10]⟩ <= 50
  ·
   by_cases c3 : x.toList = []
   ·
    rw [if_pos ⟨c1, c2, c3⟩];exact run_good F hF hI hp0 ht0 hD s c1 w hG x hgx (by rw [c3]; rfl) c2
   ·
    rw [if_neg (fun h => c3 h.2.2)];exact (run_bad s hs w hG x hgx (.inr (.inr ⟨decide_eq_false (by omega), decide_eq_false (by omega), by cases hq : x.toList with | nil => exact absurd hq c3 | cons _ _ => rfl⟩))).mono fun e w' h => h.got
  ·
   rw [if_neg (fun h => c2 h.2.1)];exact (run_bad s hs w hG x hgx (.inr (.inl ⟨decide_eq_false (by omega), decide_eq_true (by omega)⟩))).mono fun e w' h => h.got
 ·
  rw [if_neg (fun h => c1 h.1)];exact (run_bad s hs w hG x hgx (.inl (decide_eq_true (by omega)))).mono fun e w' h => h.got
end Go.Proofs.YtjdlhefjgceabaaGreatDoor.Hand
