/- The contracts of impl.isPrime and impl.AllPrime by hand: all parking functions, of which slices.DeleteFunc strikes those that are not prime. No condition. -/
import Derived.Test.YtcmpeimpddngbaaPAllx2
import Derived.Test.YtcmpeimpddngbaaPAllx4
import Derived.Test.YtcmpeimpddngbaaHandU
import Derived.Test.YtcmpeimpddngbaaHandC
namespace Go.Proofs.Ytcmpeimpddngbaa.Hand
open Go.RowKit Go.Shelf Go.Lib Go.Sort
set_option linter.unusedVariables false
set_option linter.unusedSimpArgs false
section
variable {P : Program} {ρ : Ren} {α : Type} [Inhabited α]
theorem aside_ {p : Prop} (h : p) : Aside p := h
/-- Called at x in the world W the function value hands back b, and what lay, lies. -/
def Finds (P : Program) (g : Nat) (lb : Array Value) (v : Value) (b : Bool) (W : World) : Prop :=
  Calls P g (#[v] ++ lb) W fun e w' => e = .returned (.bool b) ∧ Below W.heap.size W w'

set_option maxHeartbeats 2000000 in
theorem index_own (L : SlLaysH.n6 P ρ) (enc : α → Value) (p : α → Bool) (g : Nat) (lb : Array Value) (eg : ∀ args w, (callFunc g args).run P w = .ok (.enter g args) w) (b off n c : Nat) (zs : List α) (w : World)
    (hp : ∀ (W : World) (x : α), Below w.heap.size w W → Finds P g lb (enc x) (p x) W) (hz : n ≤ zs.length) (hbig : n ≤ 9223372036854775807) (hb : b < w.heap.size) (hc : ∀ j, j < zs.length → w.cell? ⟨b, off + j, none⟩ = some (enc zs[j]!)) :
    Calls P (ρ.f 6) #[.slice (some ⟨b, off, none⟩) n c, .func (.func g) #[] lb] w fun e w' => e = .returned (.int .i64 (Lib.idxBy (fun _ y => p y) (zs.take n) default)) ∧ Below w.heap.size w w' := by
  have mixed := L.mixed; have t0 := L.t0; have a0 := L.a0; have z0 := L.z0; have v0 := L.v0; have t3 := L.t3; have a3 := L.a3; have z3 := L.z3; have v3 := L.v3; have t4 := L.t4; have a4 := L.a4; have z4 := L.z4; have v4 := L.v4; have t22 := L.t22; have a22 := L.a22; have z22 := L.z22; have v22 := L.v22; have a23 := L.a23; have z23 := L.z23; have t25 := L.t25; have a25 := L.a25; have z25 := L.z25; have v25 := L.v25
  have HP := aside_ hp
  have HB0 := aside_ hb
  clear hp hb
  obtain ⟨_, _, FG⟩ := L.f6
  go_enter FG, SlBodyH.n6_ntmps ρ
  go_wp2
  go_loopg [5, 8] n (fun gg _ s8 wr => ∃ kk : Nat, kk ≤ n ∧ n - kk ≤ gg ∧ s8 = .int .i64 kk ∧ Aside (Below w.heap.size w wr) ∧ Aside (∀ j, j < kk → p zs[j]! = false))
  case atStart => exact ⟨0, Nat.zero_le _, by omega, rfl, aside_ (Below.refl _ _), aside_ fun j hj => absurd hj (Nat.not_lt_zero _)⟩
  case round =>
    obtain ⟨kk, hkk, hg, rfl, B0, A⟩ := hrel
    by_cases hlt : kk < n
    · have hltz : (kk : Int) < (n : Int) := by omega
      have hcell : wr.cell? ⟨b, off + kk, none⟩ = some (enc zs[kk]!) := (B0.out.cell HB0.out).trans (hc kk (by omega))
      clear hc
      generalize hy : zs[kk]! = y at hcell
      have B : Aside (zs[kk]! = y) := hy
      clear hy
      have hcall := HP.out wr y B0.out
      unfold Finds at hcall
      cases hq : p y with
      | true =>
        rw [hq] at hcall
        go_wp2_with (go_at_fn g; refine hcall.mono ?_; rintro e w' ⟨rfl, hbw⟩; have BW := aside_ hbw; clear hbw)
        go_ret
        refine ⟨?_, B0.out.trans (BW.out.mono B0.out.size)⟩
        rw [Lib.idxBy_hit (fun _ y => p y) zs n kk default hlt hz (by show p zs[kk]! = true; rw [B.out]; exact hq) A.out]
        rfl
      | false =>
        rw [hq] at hcall
        go_wp2_with (go_at_fn g; refine hcall.mono ?_; rintro e w' ⟨rfl, hbw⟩; have BW := aside_ hbw; clear hbw)
        go_roundg (n - (kk + 1))
        case measure => omega
        case rel =>
          refine ⟨kk + 1, by omega, by omega, by go_num, aside_ (B0.out.trans (BW.out.mono B0.out.size)), (show Aside _ from aside_ fun j hj => ?_)⟩
          by_cases e : j = kk
          · subst e
            rw [B.out]; exact hq
          · exact A.out j (by omega)
    · have hltz : ¬ (kk : Int) < (n : Int) := by omega
      have : kk = n := by omega
      subst this
      go_wp2
      go_ret
      refine ⟨?_, B0.out⟩
      rw [Lib.idxBy_miss (fun _ y => p y) zs kk default A.out]
      rfl

theorem putRow_block (enc : α → Value) {a b : World} (blk off : Nat) (d : Array α) {k : Nat} (h : a.heap[k]? = b.heap[k]?) : (putRow enc a blk off d).heap[k]? = (putRow enc b blk off d).heap[k]? := by
  simp only [putRow, mapBlock, Array.getElem?_modify]
  rw [h]
theorem putRow_other (enc : α → Value) (a : World) (blk off : Nat) (d : Array α) {k : Nat} (h : k ≠ blk) : (putRow enc a blk off d).heap[k]? = a.heap[k]? := by
  simp only [putRow, mapBlock, Array.getElem?_modify]
  rw [if_neg (fun e => h e.symm)]
theorem putRow_size (enc : α → Value) (a : World) (blk off : Nat) (d : Array α) : (putRow enc a blk off d).heap.size = a.heap.size := by simp [putRow, mapBlock]
theorem holds_below {enc : α → Value} {w V : World} {blk off : Nat} {d : Array α} (hH : Holds enc w blk off d) {B : Nat} (hb : Below B w V) (hlt : blk < B) : Holds enc V blk off d :=
  fun j hj => ⟨(hb.cell (p := ⟨blk, off + j, none⟩) hlt).trans (hH j hj).1, (hb.frozen (p := ⟨blk, off + j, none⟩) hlt).trans (hH j hj).2⟩
/-- What a call laid beside a row that is being written, it laid beside the row as it was. -/
theorem restore {enc : α → Value} {w V w' : World} {blk off : Nat} {d dk : Array α} (hH : Holds enc w blk off d) (hlt : blk < w.heap.size) (hV : Below w.heap.size w V) (hs : dk.size = d.size)
    (hb : Below (putRow enc V blk off dk).heap.size (putRow enc V blk off dk) w') : ∃ V', Below w.heap.size w V' ∧ w' = putRow enc V' blk off dk := by
  have hHV := holds_below hH hV hlt
  have hz := putRow_size enc V blk off dk
  have hVs := hV.size
  have hHk := holds_below (holds_putRow enc V blk off d dk hHV hs) hb (by omega)
  refine ⟨putRow enc w' blk off d, ⟨hb.os.trans hV.os, hb.tape.trans hV.tape, hb.output.trans hV.output, ?_, fun k hk => ?_⟩, ?_⟩
  · rw [putRow_size]
    have := hb.size
    omega
  · rw [putRow_block enc blk off d (hb.block k (by omega)), putRow_putRow enc V blk off dk d hs.symm, putRow_self enc V blk off d hHV]
    exact hV.block k hk
  · rw [putRow_putRow enc w' blk off d dk hs, putRow_self enc w' blk off dk hHk]

set_option maxHeartbeats 4000000 in
set_option maxRecDepth 1000000 in
theorem delete_own (L : SlLaysH.n10 P ρ) (enc : α → Value) (hO : OneCell enc) (p : α → Bool) (g : Nat) (lb : Array Value) (eg : ∀ args w, (callFunc g args).run P w = .ok (.enter g args) w) (zr : α) (v23 : ∀ w, (zeroValue (ρ.t 23)).run P w = .ok (enc zr) w)
    (blk off cap : Nat) (d : Array α) (w : World) (hp : ∀ (V : World) (dk : Array α) (x : α), Below w.heap.size w V → dk.size = d.size → Finds P g lb (enc x) (p x) (putRow enc V blk off dk))
    (hH : Holds enc w blk off d) (hlt0 : blk < w.heap.size) (hsz : d.size ≤ 9223372036854775807) (hcap : d.size ≤ cap) :
    Calls P (ρ.f 10) #[.slice (some ⟨blk, off, none⟩) d.size cap, .func (.func g) #[] lb] w fun e w' => e = .returned (.slice (some ⟨blk, off, none⟩) (d.toList.filter fun x => !p x).length cap) ∧ ∃ V, Below w.heap.size w V ∧ w' = putRow enc V blk off ((d.toList.filter fun x => !p x) ++ List.replicate (d.size - (d.toList.filter fun x => !p x).length) zr).toArray := by
  have mixed := L.mixed; have t0 := L.t0; have a0 := L.a0; have z0 := L.z0; have v0 := L.v0; have t3 := L.t3; have a3 := L.a3; have z3 := L.z3; have v3 := L.v3; have t4 := L.t4; have a4 := L.a4; have z4 := L.z4; have v4 := L.v4; have t22 := L.t22; have a22 := L.a22; have z22 := L.z22; have v22 := L.v22; have a23 := L.a23; have z23 := L.z23; have t25 := L.t25; have a25 := L.a25; have z25 := L.z25; have v25 := L.v25
  have e6 : ∀ args w, (callFunc (ρ.f 6) args).run P w = .ok (.enter (ρ.f 6) args) w := L.f6.enters rfl
  have hcl0 := hO.cells
  simp only [Value.cells] at hcl0
  have hst := hO.store P
  have tl : ∀ j, j < d.size → d.toList[j]! = d[j]! := fun j hj => by rw [getElem!_pos d j hj, getElem!_pos d.toList j (by simpa using hj)]; simp
  have hcI : ∀ j, j < d.toList.length → w.cell? ⟨blk, off + j, none⟩ = some (enc d.toList[j]!) := fun j hj => by
    have hj' : j < d.size := by simpa using hj
    rw [(hH j hj').1, tl j hj']
  have hIF := index_own (P := P) (ρ := ρ) { L with } enc p g lb eg blk off d.size cap d.toList w (fun W x hb => by have := hp W d x hb rfl; rwa [putRow_self enc W blk off d (holds_below hH hb hlt0)] at this) (by simp) hsz hlt0 hcI
  rw [show d.toList.take d.size = d.toList from List.take_of_length_le (by simp)] at hIF
  obtain ⟨kp, HK⟩ : ∃ kp : Nat → Bool, Hid (kp = fun j => !p d[j]!) := ⟨_, rfl⟩
  have hfil : (d.toList.filter fun x => !p x) = keptUpTo kp d d.size := by rw [HK.out]; exact (keptUpTo_filter (fun x => !p x) d).symm
  rw [hfil]
  have HLT := aside_ hlt0
  clear hlt0
  rcases idxByFrom_spec (fun _ y => p y) default d.toList 0 with ⟨e1, hall⟩ | ⟨k0, hk0, e1, ht, hall⟩
  · have e2 : Lib.idxBy (fun _ y => p y) d.toList default = -1 := e1
    rw [e2] at hIF
    have hkeep : ∀ j, j < d.size → kp j = true := fun j hj => by rw [HK.out]; show (!p d[j]!) = true; rw [← tl j hj, hall j (by simpa using hj)]; rfl
    have e3 : keptUpTo kp d d.size = d.toList := by rw [keptUpTo_all kp d _ hkeep, range_map_get]
    have HH : Aside (Holds enc w blk off d) := hH
    clear hH hp
    obtain ⟨_, _, FG⟩ := L.f10
    go_enter FG, SlBodyH.n10_ntmps ρ
    go_wp2_with (go_at_fn (ρ.f 6); refine hIF.mono ?_; rintro e w' ⟨rfl, hbw⟩; have BW := aside_ hbw; clear hbw)
    go_ret
    rw [e3]
    refine ⟨by simp, _, BW.out, ?_⟩
    simp only [Array.length_toList, Nat.sub_self, List.replicate_zero, List.append_nil, Array.toArray_toList]
    exact (putRow_self enc _ blk off d (holds_below HH.out BW.out HLT.out)).symm
  · have hk0' : k0 < d.size := by simpa using hk0
    have e2 : Lib.idxBy (fun _ y => p y) d.toList default = (k0 : Int) := by unfold Lib.idxBy; rw [e1]; simp
    rw [e2] at hIF
    have hkeep : ∀ j, j < k0 → kp j = true := fun j hj => by rw [HK.out]; show (!p d[j]!) = true; rw [← tl j (by omega), hall j hj]; rfl
    have hdrop : kp k0 = false := by rw [HK.out]; show (!p d[k0]!) = false; rw [← tl k0 hk0']; rw [show p d.toList[k0]! = true from ht]; rfl
    have hne1 : ((k0 : Int) == -1) = false := beq_eq_false_iff_ne.2 (by omega)
    have HC := aside_ hp
    have HH : Aside (Holds enc w blk off d) := hH
    clear hp hH hall ht e1 e2 tl
    obtain ⟨_, _, FG⟩ := L.f10
    go_enter FG, SlBodyH.n10_ntmps ρ
    go_wp2_with (go_at_fn (ρ.f 6); refine hIF.mono ?_; rintro e w' ⟨rfl, hbw⟩; have BW := aside_ hbw; clear hbw)
    go_loopg [5, 6, 7] d.size (fun gg s5 s6 _ wr => ∃ (i j : Nat) (V : World) (dk : Array α), s5 = .int .i64 i ∧ s6 = .int .i64 j ∧ j ≤ d.size ∧ d.size - j ≤ gg ∧ wr = putRow enc V blk off dk ∧ Aside (Below w.heap.size w V) ∧ Aside (KeptInv kp d j i dk))
    case atStart => exact ⟨k0, k0 + 1, _, d, rfl, by go_num, by omega, by omega, (putRow_self enc _ blk off d (holds_below HH.out BW.out HLT.out)).symm, BW, aside_ (KeptInv.start hkeep hdrop)⟩
    case round =>
      obtain ⟨i, j, V, dk, rfl, rfl, hjd, hgg, hwr, BV, I2⟩ := hrel
      have hI := I2.out
      have hij := hI.lt
      have hds := hI.size
      have hHk : Holds enc wr blk off dk := by rw [hwr]; exact holds_putRow enc _ blk off d dk (holds_below HH.out BV.out HLT.out) hds
      have W2 : Aside (wr = putRow enc V blk off dk) := hwr
      have HBL : Aside (blk < wr.heap.size) := aside_ (by rw [hwr, putRow_size]; have := BV.out.size; have := HLT.out; omega)
      have HDS := aside_ hds
      by_cases hlt : j < d.size
      · have hltz : (j : Int) < (d.size : Int) := by omega
        obtain ⟨cj, _⟩ := hHk j (by omega)
        obtain ⟨ci, fi⟩ := hHk i (by omega)
        rw [hI.high j (by omega)] at cj
        have hcall := HC.out V dk d[j]! BV.out hds
        unfold Finds at hcall
        rw [← hwr] at hcall
        clear hHk hI hwr
        generalize hu : d[j]! = u at cj hcall
        generalize dk[i]! = old at ci
        have C : Aside (d[j]! = u) := hu
        clear hu
        cases hq : p u with
        | false =>
          rw [hq] at hcall
          go_wp2_with (go_at_fn g; refine hcall.mono ?_; rintro e w' ⟨rfl, hbw⟩; have ci2 := (hbw.cell (p := ⟨blk, off + i, none⟩) HBL.out).trans ci; have fi2 := (hbw.frozen (p := ⟨blk, off + i, none⟩) HBL.out).trans fi; have BW2 := aside_ hbw; clear hbw)
          go_roundg (d.size - (j + 1))
          case measure => omega
          case rel =>
            obtain ⟨V', hV', he'⟩ := restore HH.out HLT.out BV.out HDS.out (by rw [← W2.out]; exact BW2.out)
            refine ⟨i + 1, j + 1, V', dk.setIfInBounds i u, by go_num, by go_num, by omega, Nat.le_refl _, ?_, aside_ hV', aside_ ?_⟩
            · rw [he']
              exact putRow_set enc _ blk off dk i u (by omega)
            · have := I2.out.keep hlt (by rw [HK.out]; show (!p d[j]!) = true; rw [C.out, hq]; rfl)
              rwa [C.out] at this
        | true =>
          rw [hq] at hcall
          go_wp2_with (go_at_fn g; refine hcall.mono ?_; rintro e w' ⟨rfl, hbw⟩; have BW2 := aside_ hbw; clear hbw)
          go_roundg (d.size - (j + 1))
          case measure => omega
          case rel =>
            obtain ⟨V', hV', he'⟩ := restore HH.out HLT.out BV.out HDS.out (by rw [← W2.out]; exact BW2.out)
            exact ⟨i, j + 1, V', dk, rfl, by go_num, by omega, Nat.le_refl _, he', aside_ hV', aside_ (I2.out.skip (by rw [HK.out]; show (!p d[j]!) = false; rw [C.out, hq]; rfl))⟩
      · obtain rfl : j = d.size := by omega
        have hltz : ¬ (d.size : Int) < (d.size : Int) := by omega
        have hcl : ∀ ty, (Builtin.clear_ #[ρ.t 22] ty #[.slice (some ⟨blk, off + i, none⟩) (d.size - i) (cap - i)]).run P wr = .ok (.tuple #[]) (wr.setCells blk (off + i) (List.replicate (d.size - i) (enc zr))) :=
          fun ty => Lib.run_clear_slice wr _ _ ty _ t22 v23 (hO.cells zr) (hO zr) blk (off + i) _ _ (by omega) (fun t ht => by rw [show off + i + t = off + (i + t) by omega, (hHk (i + t) (by omega)).1]; rfl) (fun t ht => by rw [show off + i + t = off + (i + t) by omega]; exact (hHk (i + t) (by omega)).2)
        clear hHk hI hwr
        go_wp2
        go_ret
        have hI := I2.out
        refine ⟨by rw [hI.len]; rfl, V, BV.out, ?_⟩
        rw [hI.len, ← hI.done zr, ← putRow_setCells enc _ blk off _ dk i (by simp; omega), ← W2.out, List.map_replicate]
end
end Go.Proofs.Ytcmpeimpddngbaa.Hand
namespace Go.Proofs.Ytcmpeimpddngbaa.PAll
open Go.RowKit Go.Proofs.Ytcmpeimpddngbaa.Hand Go.Proofs.YtcmpeimpddngbaaW.PrintWords Go.Proofs.YtcmpeimpddngbaaW.PrintLast Go.Proofs.YtcmpeimpddngbaaW.PrintMore
set_option linter.unusedVariables false
set_option linter.unusedSimpArgs false
def impl_isPrime.f (k : Nat) (l0 : List Int) : Option (Bool) := if (l0.length : Int) > 0 then ((impl_cuts.f k l0).bind fun t => (some ((t.length : Int) == 0))) else (some false)
set_option maxHeartbeats 8000000 in
set_option maxRecDepth 100000 in
theorem impl_isPrime.calls (k : Nat) (A0 : Option Addr) (c0 : Nat) (l0 : List Int) (r : Bool) (w : World) (hr0 : Kd.C (Kd.int .i64) w A0 l0.length l0) (hc0 : l0.length ≤ c0) (h : impl_isPrime.f k l0 = some r) :
    Calls Try.prog 86 #[.slice A0 l0.length c0] w fun e w' => e = .returned (.bool r) ∧ Below w.heap.size w w' := by
  have HR0 := Aside0.mk hr0
  have HC0 := Aside0.mk hc0
  clear hr0 hc0
  have H : (if (l0.length : Int) > 0 then ((impl_cuts.f k l0).bind fun t => (some ((t.length : Int) == 0))) else (some false)) = some r := h
  clear h
  by_cases c2 : (l0.length : Int) > 0
  · rw [if_pos c2] at H
    have c2b0 : decide (0 < (l0.length : Int)) = true := decide_eq_true c2
    have c2b1 : decide (0 < l0.length) = true := decide_eq_true (by omega)
    clear c2
    replace H := Option.bind_eq_some_iff.mp H
    obtain ⟨t, A30, H⟩ := H
    have A3 := Aside0.mk A30
    clear A30
    obtain rfl := Option.some.inj H
    go_enter Try.func86, Try.ntmps86
    go_wp2_with (go_at_call 62; refine (impl_cuts.calls k A0 c0 l0 t w HR0.out HC0.out A3.out).mono ?_; rintro e w4 ⟨v, rfl, ho, hb⟩; obtain ⟨Ao, co, hv, _, _⟩ := Kd.R_reads ho; subst hv; have HB := Aside0.mk hb; clear ho hb)
    go_ret
    exact ⟨by first | rfl | (simp [*] <;> rfl), HB.out⟩
  · rw [if_neg c2] at H
    have c2b0 : decide (0 < (l0.length : Int)) = false := decide_eq_false c2
    have c2b1 : decide (0 < l0.length) = false := decide_eq_false (by omega)
    clear c2
    obtain rfl := Option.some.inj H
    go_enter Try.func86, Try.ntmps86
    go_wp2
    go_ret
    exact ⟨rfl, Below.refl _ _⟩
def impl_AllPrime.pr (k : Nat) (l : List Int) : Bool := (impl_isPrime.f k l).getD false
set_option maxHeartbeats 8000000 in
set_option maxRecDepth 100000 in
theorem notPrime_calls (k : Nat) (A0 : Option Addr) (c0 : Nat) (l0 : List Int) (w : World) (hr0 : Kd.C (Kd.int .i64) w A0 l0.length l0) (hc0 : l0.length ≤ c0) (h : impl_isPrime.f k l0 ≠ none) :
    Calls Try.prog 85 #[.slice A0 l0.length c0] w fun e w' => e = .returned (.bool (!impl_AllPrime.pr k l0)) ∧ Below w.heap.size w w' := by
  obtain ⟨b, hb⟩ := Option.ne_none_iff_exists'.1 h
  have hp : impl_AllPrime.pr k l0 = b := by unfold impl_AllPrime.pr; rw [hb]; rfl
  rw [hp]
  have HP := Aside0.mk (impl_isPrime.calls k A0 c0 l0 b w hr0 hc0 hb)
  clear hr0 hc0 hb h hp
  go_enter Try.func85, Try.ntmps85
  go_wp2_with (go_at_call 86; refine HP.out.mono ?_; rintro e w4 ⟨rfl, hb⟩; have HB := Aside0.mk hb; clear hb)
  go_ret
  exact ⟨rfl, HB.out⟩

/-! ### The rows that are kept -/
abbrev Rk : Kd (List Int) := Kd.slice 3 (Kd.int .i64)
def rowV (inner : List Value) (i : Nat) : Value := inner.getD i (.slice none 0 0)
def rowL (L : List (List Int)) (i : Nat) : List Int := L.getD i []
theorem rows_list (L : List (List Int)) : (List.range L.length).map (rowL L) = L := by
  apply List.ext_getElem
  · simp
  · intro i h1 h2
    simp [rowL, h2]
theorem rowL_out {L : List (List Int)} {i : Nat} (h : ¬ i < L.length) : rowL L i = [] := by
  unfold rowL
  rw [List.getD_eq_getElem?_getD, List.getElem?_eq_none (by omega)]
  rfl
theorem rowV_out {inner : List Value} {i : Nat} (h : ¬ i < inner.length) : rowV inner i = .slice none 0 0 := by
  unfold rowV
  rw [List.getD_eq_getElem?_getD, List.getElem?_eq_none (by omega)]
  rfl
/-- Row i, told of its own blocks. -/
theorem row_at {f : Nat → Nat} {w : World} {base g : Nat} {ok : Nat → Prop} {L : List (List Int)} {inner : List Value} (hr : Reps ((Kd.tag f Rk).M w base ok) 1 L.zipIdx inner) (i : Nat) (hi : i < L.length) :
    Rk.M w base (fun k => ok k ∧ f k = i) (rowL L i) [rowV inner i] := by
  have hil : inner.length = L.length := by have := hr.1; rw [List.length_zipIdx] at this; omega
  have h := hr.2 i (rowL L i, i) (by rw [List.getElem?_zipIdx, List.getElem?_eq_getElem hi]; simp [rowL, hi])
  have e : (inner.drop (i * 1)).take 1 = [rowV inner i] := by
    rw [Nat.mul_one, List.drop_eq_getElem_cons (by omega), List.take_succ_cons, List.take_zero]
    simp [rowV, show i < inner.length by omega]
  rw [e] at h
  exact h
theorem row_reads {f : Nat → Nat} {w : World} {base g : Nat} {ok : Nat → Prop} {L : List (List Int)} {inner : List Value} (hr : Reps ((Kd.tag f Rk).M w base (fun k => ok k ∧ k ≠ g)) 1 L.zipIdx inner) (W : World) (hW : ∀ k, k < w.heap.size → k ≠ g → W.heap[k]? = w.heap[k]?) (i : Nat) :
    ∃ A c, rowV inner i = .slice A (rowL L i).length c ∧ (rowL L i).length ≤ c ∧ Kd.C (Kd.int .i64) W A (rowL L i).length (rowL L i) := by
  have hil : inner.length = L.length := by have := hr.1; rw [List.length_zipIdx] at this; omega
  by_cases hi : i < L.length
  · have h1 := Rk.M_move (w1 := W) (fun k hk => hW k hk.2.2.1 hk.1.1.2) (Rk.M_bound (row_at (g := g) hr i hi))
    obtain ⟨A, c, hc, hle, hC⟩ := Rk.K_of_M h1
    exact ⟨A, c, by injection hc, hle, hC⟩
  · rw [rowL_out hi, rowV_out (by omega)]
    exact ⟨none, 0, rfl, Nat.le_refl _, rfl, by decide, fun h => absurd h (by decide)⟩
theorem row_one {f : Nat → Nat} {w : World} {base g : Nat} {ok : Nat → Prop} {L : List (List Int)} {inner : List Value} (hr : Reps ((Kd.tag f Rk).M w base (fun k => ok k ∧ k ≠ g)) 1 L.zipIdx inner) : OneCell (rowV inner) := by
  intro i
  obtain ⟨A, c, h, _, _⟩ := row_reads (g := g) hr w (fun _ _ _ => rfl) i
  rw [h]
  rfl
theorem take_rows {enc : Nat → Value} (cur : Array Value) (ts : List Nat) (h : ts.length ≤ cur.size) : (Go.Sort.putCells enc 0 ts.toArray cur).toList.take ts.length = ts.map enc := by
  apply List.ext_getElem?
  intro j
  by_cases hj : j < ts.length
  · rw [List.getElem?_take_of_lt hj, Array.getElem?_toList]
    simp [Go.Sort.putCells, Array.getElem?_mapIdx, hj, show j < cur.size by omega]
  · rw [List.getElem?_eq_none (by simp; omega), List.getElem?_eq_none (by simp; omega)]
theorem findIdx_at {K : List Nat} (hK : K.Nodup) {j : Nat} (hj : j < K.length) : K.findIdx (· == K[j]) = j := by
  rw [List.findIdx_eq hj]
  refine ⟨by simp, fun i hi => ?_⟩
  have := (List.pairwise_iff_getElem.1 hK) i j (by omega) hj hi
  simpa using this
/-- The row, cut to those that are kept, leads no two of them to one block. -/
theorem kept_S {f : Nat → Nat} {w V : World} {base g cap : Nat} {ok : Nat → Prop} {L : List (List Int)} {inner : List Value} {cur : Array Value} (hg : ok g) (hbase : base ≤ g) (hcur : w.heap[g]? = some (.cells cur 22 (0, 0))) (hcap : L.length ≤ cap) (hmax : cap ≤ maxLen) (hsz : cur.size = cap * 1)
    (hr : Reps ((Kd.tag f Rk).M w base (fun k => ok k ∧ k ≠ g)) 1 L.zipIdx inner) (hV : Below w.heap.size w V) (K : List Nat) (hK : K.Nodup) (hlt : ∀ i ∈ K, i < L.length) (m z : Nat) (hm : K.length + m = L.length) :
    Kd.S Rk 22 (Go.Sort.putRow (rowV inner) V g 0 (K ++ List.replicate m z).toArray) base ok (.slice (some ⟨g, 0, none⟩) K.length cap) (K.map (rowL L)) := by
  have hgl : g < w.heap.size := (Array.getElem?_eq_some_iff.1 hcur).1
  have hown : (Go.Sort.putRow (rowV inner) V g 0 (K ++ List.replicate m z).toArray).ownsRow base 22 1 (.slice (some ⟨g, 0, none⟩) K.length cap) K.length (K.map (rowV inner)) := by
    refine ⟨by simp, .inr ⟨g, cap, Go.Sort.putCells (rowV inner) 0 (K ++ List.replicate m z).toArray cur, rfl, hbase, ?_, by omega, hmax, by simp [Go.Sort.putCells, hsz], ?_⟩⟩
    · simp only [Go.Sort.putRow, Go.Sort.mapBlock, Array.getElem?_modify]
      rw [if_pos trivial, hV.block g hgl, hcur]
      rfl
    · have h := take_rows (enc := rowV inner) cur (K ++ List.replicate m z) (by rw [List.length_append, List.length_replicate]; omega)
      have h2 := congrArg (List.take (K.length * 1)) h
      rw [List.take_take, Nat.min_eq_left (by rw [List.length_append]; omega)] at h2
      rw [h2, List.map_append, List.take_append_of_le_length (by simp), List.take_of_length_le (by simp)]
  refine ⟨fun b => K.findIdx (· == f b), fun k hk => by cases hk; exact hg, K.map (rowV inner), by rw [List.length_zipIdx, List.length_map]; exact hown, by rw [List.length_map, List.length_zipIdx, List.length_map]; exact (Nat.mul_one _).symm, fun j p hj => ?_⟩
  rw [List.getElem?_zipIdx, Nat.zero_add] at hj
  obtain ⟨x, hx, rfl⟩ := Option.map_eq_some_iff.1 hj
  obtain ⟨hjl, rfl⟩ := List.getElem?_eq_some_iff.1 hx
  have hjK : j < K.length := by simpa using hjl
  have hi := hlt _ (List.getElem_mem hjK)
  have e : ((K.map (rowV inner)).drop (j * 1)).take 1 = [rowV inner K[j]] := by
    rw [Nat.mul_one, List.drop_eq_getElem_cons (by simpa using hjK), List.take_succ_cons, List.take_zero, List.getElem_map]
  have hx2 : (K.map (rowL L))[j] = rowL L K[j] := by simp
  show Rk.M _ base (fun k => (ok k ∧ some k ≠ (Value.slice (some ⟨g, 0, none⟩) K.length cap).ownBlock) ∧ K.findIdx (· == f k) = j) ((K.map (rowL L))[j]) (((K.map (rowV inner)).drop (j * 1)).take 1)
  rw [e, hx2]
  have h1 := Rk.M_bound (row_at (g := g) hr K[j] hi)
  have h2 := Rk.M_move (w1 := Go.Sort.putRow (rowV inner) V g 0 (K ++ List.replicate m z).toArray) (fun k hk => by rw [putRow_other _ _ _ _ _ hk.1.1.2]; exact hV.block k hk.2.2.1) h1
  refine Rk.M_mono (fun k hk => ⟨⟨hk.1.1.1, ?_⟩, ?_⟩) h2
  · intro h
    have : k = g := by simpa [Value.ownBlock] using h
    exact hk.1.1.2 this
  · rw [hk.1.2]
    exact findIdx_at hK hjK
theorem enters_notPrime : ∀ args w, (callFunc 85 args).run Try.prog w = .ok (.enter 85 args) w := enters_of Try.func85 (by kernel_rfl) rfl
/-- Struck: those that are not prime. -/
theorem strike (k : Nat) (L : List (List Int)) (h0 : 0 < L.length) (hp : ∀ l ∈ L, impl_isPrime.f k l ≠ none) (v : Value) (base : Nat) (w : World) (hS : Kd.S Rk 22 w base (fun _ => True) v L) :
    Calls Try.prog 84 #[v, .func (.func 85) #[] #[]] w fun e w' => ∃ v' : Value, e = .returned v' ∧ Kd.S Rk 22 w' base (fun _ => True) v' (L.filter (impl_AllPrime.pr k)) ∧ ∃ g, base ≤ g ∧ w.grownBy w' (some g) := by
  obtain ⟨f, hok, inner, ho, hr⟩ := hS
  rw [List.length_zipIdx] at ho
  rcases ho.2 with ⟨_, hz⟩ | ⟨g, cap, cur, rfl, hbase, hcur, h1, h2, h3, h4⟩
  · omega
  have hil : inner.length = L.length := by have := ho.1; rw [this]; exact Nat.mul_one _
  have h3' : cur.size = cap * 1 := h3
  have h4' : cur.toList.take L.length = inner := by have h : cur.toList.take (L.length * 1) = inner := h4; rwa [Nat.mul_one] at h
  have hgl : g < w.heap.size := (Array.getElem?_eq_some_iff.1 hcur).1
  have hr' : Reps ((Kd.tag f Rk).M w base (fun k => True ∧ k ≠ g)) 1 L.zipIdx inner := hr.imp_ fun p c h => (Kd.tag f Rk).M_mono (fun k hk => ⟨trivial, fun e => hk.2 (by rw [e]; rfl)⟩) h
  have hds : (List.range L.length).toArray.size = L.length := by simp
  have hmx : maxLen = 9223372036854775807 := rfl
  have hH : Go.Sort.Holds (rowV inner) w g 0 (List.range L.length).toArray := by
    intro j hj
    have hj' : j < L.length := by rwa [hds] at hj
    refine ⟨?_, by simp [World.frozen?, hcur]⟩
    have e1 : (List.range L.length).toArray[j]! = j := by rw [getElem!_pos _ j hj]; simp
    have e2 : cur[j]? = some (rowV inner j) := by
      rw [← Array.getElem?_toList, ← List.getElem?_take_of_lt hj', h4', List.getElem?_eq_getElem (by omega)]
      simp [rowV, show j < inner.length by omega]
    rw [e1, World.cell?, Nat.zero_add, hcur]
    simp [e2]
  have hcalls : ∀ (V : World) (dk : Array Nat) (x : Nat), Below w.heap.size w V → dk.size = (List.range L.length).toArray.size → Finds Try.prog 85 #[] (rowV inner x) (!impl_AllPrime.pr k (rowL L x)) (Go.Sort.putRow (rowV inner) V g 0 dk) := by
    intro V dk x hV _
    obtain ⟨A, c, he, hle, hC⟩ := row_reads (g := g) hr' (Go.Sort.putRow (rowV inner) V g 0 dk) (fun k hk hne => by rw [putRow_other _ _ _ _ _ hne]; exact hV.block k hk) x
    rw [he]
    refine notPrime_calls k A c (rowL L x) _ hC hle ?_
    by_cases hx : x < L.length
    · exact hp _ (by unfold rowL; rw [List.getD_eq_getElem?_getD, List.getElem?_eq_getElem hx]; exact List.getElem_mem hx)
    · rw [rowL_out hx, impl_isPrime.f, if_neg (by decide)]
      exact Option.some_ne_none _
  have h := delete_own (ρ := Try.laysSlH10_f84_ren) Try.laysSlH10_f84 (rowV inner) (row_one (g := g) hr') (fun x => !impl_AllPrime.pr k (rowL L x)) 85 #[] enters_notPrime L.length
    (fun w => by rw [rowV_out (by omega)]; exact Try.zeroValue22 w) g 0 cap (List.range L.length).toArray w hcalls hH hgl (by rw [hds]; omega) (by rw [hds]; exact h1)
  rw [hds] at h
  refine h.mono ?_
  rintro e w' ⟨rfl, V, hV, rfl⟩
  obtain ⟨K, hK⟩ : ∃ K, K = (List.range L.length).filter fun i => impl_AllPrime.pr k (rowL L i) := ⟨_, rfl⟩
  have hfil : (List.range L.length).toArray.toList.filter (fun x => !(fun x => !impl_AllPrime.pr k (rowL L x)) x) = K := by rw [hK]; simp
  have hkl : K.length ≤ L.length := by rw [hK]; exact Nat.le_trans (List.length_filter_le _ _) (by simp)
  rw [hfil]
  have hres : L.filter (impl_AllPrime.pr k) = K.map (rowL L) := by
    conv => lhs; rw [← rows_list L]
    rw [List.filter_map, hK]
    rfl
  refine ⟨_, rfl, ?_, g, hbase, ⟨hV.os, hV.tape, hV.output, by rw [putRow_size]; exact hV.size, fun j hj hne => ?_⟩⟩
  · rw [hres]
    exact kept_S (f := f) (ok := fun _ => True) trivial hbase hcur h1 h2 h3' hr' hV K (by rw [hK]; exact List.nodup_range.filter _) (fun i hi => by rw [hK] at hi; exact List.mem_range.1 (List.mem_filter.1 hi).1) (L.length - K.length) L.length (by omega)
  · rw [putRow_other _ _ _ _ _ (fun e => hne (by rw [e]))]
    exact hV.block j hj
def impl_AllPrime.f (k : Nat) (a0 : Int) : Option (List (List Int) × Bool) := (impl_between.f a0 1 5).bind fun t => if t = true then ((impl_allParking.f k a0).bind fun L => if 0 < L.length ∧ ∀ l ∈ L, impl_isPrime.f k l ≠ none then some (L.filter (impl_AllPrime.pr k), true) else none) else some ([], false)
set_option maxHeartbeats 8000000 in
set_option maxRecDepth 100000 in
theorem impl_AllPrime.calls (k : Nat) (a0 : Int) (r1 : List (List Int)) (r2 : Bool) (w : World) (h : impl_AllPrime.f k a0 = some (r1, r2)) :
    Calls Try.prog 37 #[.int .i64 a0] w fun e w' => ∃ v0_ : Value, e = .returned (.tuple #[v0_, .bool r2]) ∧ Kd.S (Kd.slice 3 (Kd.int .i64)) 22 w' w.heap.size (fun _ => True) v0_ r1 ∧ Below w.heap.size w w' := by
  unfold impl_AllPrime.f at h
  obtain ⟨t, h1, h2⟩ := Option.bind_eq_some_iff.mp h
  clear h
  have A1 := Aside0.mk h1
  clear h1
  cases t with
  | false =>
    rw [if_neg (by decide)] at h2
    simp only [Option.some.injEq, Prod.mk.injEq] at h2
    obtain ⟨rfl, rfl⟩ := h2
    go_enter Try.func37, Try.ntmps37
    go_wp2_with (go_at_call 63; refine (impl_between.calls a0 1 5 false _ A1.out).mono ?_; rintro e w' ⟨rfl, ⟨nd, rfl⟩⟩)
    go_ret2
    exact ⟨_, rfl, Kd.S_nil _ _ _ _ _, pw_below_drewN (Below.refl _ _) nd⟩
  | true =>
    rw [if_pos rfl] at h2
    obtain ⟨L, h3, h4⟩ := Option.bind_eq_some_iff.mp h2
    clear h2
    by_cases hc : 0 < L.length ∧ ∀ l ∈ L, impl_isPrime.f k l ≠ none
    · rw [if_pos hc] at h4
      simp only [Option.some.injEq, Prod.mk.injEq] at h4
      obtain ⟨rfl, rfl⟩ := h4
      have A2 := Aside0.mk h3
      have HC := Aside0.mk hc
      clear h3 hc
      go_enter Try.func37, Try.ntmps37
      go_wp2_with (first | (go_at_call 63; refine (impl_between.calls a0 1 5 true _ A1.out).mono ?_; rintro e w' ⟨rfl, ⟨nd, rfl⟩⟩) | (go_at_call 77; refine (impl_allParking.calls k a0 L _ A2.out).mono ?_; rintro e w1 ⟨v1, rfl, hS1, hb1⟩; have HS1 := Aside0.mk hS1; have HB1 := Aside0.mk hb1; clear hS1 hb1) | (go_at_call 84; refine (strike k L HC.out.1 HC.out.2 v1 _ w1 HS1.out).mono ?_; rintro e w2 ⟨v2, rfl, hS2, hg2⟩; have HS2 := Aside0.mk hS2; have HG2 := Aside0.mk hg2; clear hS2 hg2))
      go_ret2
      obtain ⟨g, hg, hgb⟩ := HG2.out
      refine ⟨_, rfl, Kd.S_lower HS2.out ?_, ?_⟩
      · exact Nat.le_refl _
      · exact (below_then (pw_below_drewN (Below.refl _ _) nd) (Nat.le_refl _) HB1.out).grown hgb HB1.out.size (fun j hj => by cases hj; exact hg)
    · rw [if_neg hc] at h4
      cases h4
end Go.Proofs.Ytcmpeimpddngbaa.PAll
