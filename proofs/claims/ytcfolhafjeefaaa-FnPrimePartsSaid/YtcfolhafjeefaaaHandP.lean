/- slices.DeleteFunc with a predicate that lays memory: the contract of the shelf's text. Conditions: what each theorem states. -/
import Derived.Test.YtcfolhafjeefaaaHandU
import Derived.Test.YtcfolhafjeefaaaHandC
namespace Go.Proofs.Ytcfolhafjeefaaa.Hand
open Go.RowKit Go.Shelf Go.Lib Go.Sort
set_option linter.unusedVariables false
set_option linter.unusedSimpArgs false
section
variable {P : Program} {ρ : Ren} {α : Type} [Inhabited α]
theorem aside_ {p : Prop} (h : p) : Aside p := h
/-- Called at x in the world W the function value hands back b, and what lay, lies. -/
def Finds (P : Program) (g : Nat) (lb : Array Value) (v : Value) (b : Bool) (W : World) : Prop :=
  Calls P g (#[v] ++ lb) W fun e w' => e = .returned (.bool b) ∧ Below W.heap.size W w'

set_option maxHeartbeats 2000000 in
theorem index_own (L : SlLaysH.n6 P ρ) (enc : α → Value) (p : α → Bool) (g : Nat) (lb : Array Value) (eg : ∀ args w, (callFunc g args).run P w = .ok (.enter g args) w) (b off n c : Nat) (zs : List α) (w : World)
    (hp : ∀ (W : World) (x : α), Below w.heap.size w W → Finds P g lb (enc x) (p x) W) (hz : n ≤ zs.length) (hbig : n ≤ 9223372036854775807) (hb : b < w.heap.size) (hc : ∀ j, j < zs.length → w.cell? ⟨b, off + j, none⟩ = some (enc zs[j]!)) :
    Calls P (ρ.f 6) #[.slice (some ⟨b, off, none⟩) n c, .func (.func g) #[] lb] w fun e w' => e = .returned (.int .i64 (Lib.idxBy (fun _ y => p y) (zs.take n) default)) ∧ Below w.heap.size w w' := by
  have mixed := L.mixed; have t0 := L.t0; have a0 := L.a0; have z0 := L.z0; have v0 := L.v0; have t3 := L.t3; have a3 := L.a3; have z3 := L.z3; have v3 := L.v3; have t4 := L.t4; have a4 := L.a4; have z4 := L.z4; have v4 := L.v4; have t22 := L.t22; have a22 := L.a22; have z22 := L.z22; have v22 := L.v22; have a23 := L.a23; have z23 := L.z23; have t25 := L.t25; have a25 := L.a25; have z25 := L.z25; have v25 := L.v25
  have HP := aside_ hp
  have HB0 := aside_ hb
  clear hp hb
  obtain ⟨_, _, FG⟩ := L.f6
  go_enter FG, SlBodyH.n6_ntmps ρ
  go_wp2
  go_loopg [5, 8] n (fun gg _ s8 wr => ∃ kk : Nat, kk ≤ n ∧ n - kk ≤ gg ∧ s8 = .int .i64 kk ∧ Aside (Below w.heap.size w wr) ∧ Aside (∀ j, j < kk → p zs[j]! = false))
  case atStart => exact ⟨0, Nat.zero_le _, by omega, rfl, aside_ (Below.refl _ _), aside_ fun j hj => absurd hj (Nat.not_lt_zero _)⟩
  case round =>
    obtain ⟨kk, hkk, hg, rfl, B0, A⟩ := hrel
    by_cases hlt : kk < n
    · have hltz : (kk : Int) < (n : Int) := by omega
      have hcell : wr.cell? ⟨b, off + kk, none⟩ = some (enc zs[kk]!) := (B0.out.cell HB0.out).trans (hc kk (by omega))
      clear hc
      generalize hy : zs[kk]! = y at hcell
      have B : Aside (zs[kk]! = y) := hy
      clear hy
      have hcall := HP.out wr y B0.out
      unfold Finds at hcall
      cases hq : p y with
      | true =>
        rw [hq] at hcall
        go_wp2_with (go_at_fn g; refine hcall.mono ?_; rintro e w' ⟨rfl, hbw⟩; have BW := aside_ hbw; clear hbw)
        go_ret
        refine ⟨?_, B0.out.trans (BW.out.mono B0.out.size)⟩
        rw [Lib.idxBy_hit (fun _ y => p y) zs n kk default hlt hz (by show p zs[kk]! = true; rw [B.out]; exact hq) A.out]
        rfl
      | false =>
        rw [hq] at hcall
        go_wp2_with (go_at_fn g; refine hcall.mono ?_; rintro e w' ⟨rfl, hbw⟩; have BW := aside_ hbw; clear hbw)
        go_roundg (n - (kk + 1))
        case measure => omega
        case rel =>
          refine ⟨kk + 1, by omega, by omega, by go_num, aside_ (B0.out.trans (BW.out.mono B0.out.size)), (show Aside _ from aside_ fun j hj => ?_)⟩
          by_cases e : j = kk
          · subst e
            rw [B.out]; exact hq
          · exact A.out j (by omega)
    · have hltz : ¬ (kk : Int) < (n : Int) := by omega
      have : kk = n := by omega
      subst this
      go_wp2
      go_ret
      refine ⟨?_, B0.out⟩
      rw [Lib.idxBy_miss (fun _ y => p y) zs kk default A.out]
      rfl

theorem putRow_block (enc : α → Value) {a b : World} (blk off : Nat) (d : Array α) {k : Nat} (h : a.heap[k]? = b.heap[k]?) : (putRow enc a blk off d).heap[k]? = (putRow enc b blk off d).heap[k]? := by
  simp only [putRow, mapBlock, Array.getElem?_modify]
  rw [h]
theorem putRow_other (enc : α → Value) (a : World) (blk off : Nat) (d : Array α) {k : Nat} (h : k ≠ blk) : (putRow enc a blk off d).heap[k]? = a.heap[k]? := by
  simp only [putRow, mapBlock, Array.getElem?_modify]
  rw [if_neg (fun e => h e.symm)]
theorem putRow_size (enc : α → Value) (a : World) (blk off : Nat) (d : Array α) : (putRow enc a blk off d).heap.size = a.heap.size := by simp [putRow, mapBlock]
theorem holds_below {enc : α → Value} {w V : World} {blk off : Nat} {d : Array α} (hH : Holds enc w blk off d) {B : Nat} (hb : Below B w V) (hlt : blk < B) : Holds enc V blk off d :=
  fun j hj => ⟨(hb.cell (p := ⟨blk, off + j, none⟩) hlt).trans (hH j hj).1, (hb.frozen (p := ⟨blk, off + j, none⟩) hlt).trans (hH j hj).2⟩
/-- What a call laid beside a row that is being written, it laid beside the row as it was. -/
theorem restore {enc : α → Value} {w V w' : World} {blk off : Nat} {d dk : Array α} (hH : Holds enc w blk off d) (hlt : blk < w.heap.size) (hV : Below w.heap.size w V) (hs : dk.size = d.size)
    (hb : Below (putRow enc V blk off dk).heap.size (putRow enc V blk off dk) w') : ∃ V', Below w.heap.size w V' ∧ w' = putRow enc V' blk off dk := by
  have hHV := holds_below hH hV hlt
  have hz := putRow_size enc V blk off dk
  have hVs := hV.size
  have hHk := holds_below (holds_putRow enc V blk off d dk hHV hs) hb (by omega)
  refine ⟨putRow enc w' blk off d, ⟨hb.os.trans hV.os, hb.tape.trans hV.tape, hb.output.trans hV.output, ?_, fun k hk => ?_⟩, ?_⟩
  · rw [putRow_size]
    have := hb.size
    omega
  · rw [putRow_block enc blk off d (hb.block k (by omega)), putRow_putRow enc V blk off dk d hs.symm, putRow_self enc V blk off d hHV]
    exact hV.block k hk
  · rw [putRow_putRow enc w' blk off d dk hs, putRow_self enc w' blk off dk hHk]

set_option maxHeartbeats 4000000 in
set_option maxRecDepth 1000000 in
theorem delete_own (L : SlLaysH.n10 P ρ) (enc : α → Value) (hO : OneCell enc) (p : α → Bool) (g : Nat) (lb : Array Value) (eg : ∀ args w, (callFunc g args).run P w = .ok (.enter g args) w) (zr : α) (v23 : ∀ w, (zeroValue (ρ.t 23)).run P w = .ok (enc zr) w)
    (blk off cap : Nat) (d : Array α) (w : World) (hp : ∀ (V : World) (dk : Array α) (x : α), Below w.heap.size w V → dk.size = d.size → Finds P g lb (enc x) (p x) (putRow enc V blk off dk))
    (hH : Holds enc w blk off d) (hlt0 : blk < w.heap.size) (hsz : d.size ≤ 9223372036854775807) (hcap : d.size ≤ cap) :
    Calls P (ρ.f 10) #[.slice (some ⟨blk, off, none⟩) d.size cap, .func (.func g) #[] lb] w fun e w' => e = .returned (.slice (some ⟨blk, off, none⟩) (d.toList.filter fun x => !p x).length cap) ∧ ∃ V, Below w.heap.size w V ∧ w' = putRow enc V blk off ((d.toList.filter fun x => !p x) ++ List.replicate (d.size - (d.toList.filter fun x => !p x).length) zr).toArray := by
  have mixed := L.mixed; have t0 := L.t0; have a0 := L.a0; have z0 := L.z0; have v0 := L.v0; have t3 := L.t3; have a3 := L.a3; have z3 := L.z3; have v3 := L.v3; have t4 := L.t4; have a4 := L.a4; have z4 := L.z4; have v4 := L.v4; have t22 := L.t22; have a22 := L.a22; have z22 := L.z22; have v22 := L.v22; have a23 := L.a23; have z23 := L.z23; have t25 := L.t25; have a25 := L.a25; have z25 := L.z25; have v25 := L.v25
  have e6 : ∀ args w, (callFunc (ρ.f 6) args).run P w = .ok (.enter (ρ.f 6) args) w := L.f6.enters rfl
  have hcl0 := hO.cells
  simp only [Value.cells] at hcl0
  have hst := hO.store P
  have tl : ∀ j, j < d.size → d.toList[j]! = d[j]! := fun j hj => by rw [getElem!_pos d j hj, getElem!_pos d.toList j (by simpa using hj)]; simp
  have hcI : ∀ j, j < d.toList.length → w.cell? ⟨blk, off + j, none⟩ = some (enc d.toList[j]!) := fun j hj => by
    have hj' : j < d.size := by simpa using hj
    rw [(hH j hj').1, tl j hj']
  have hIF := index_own (P := P) (ρ := ρ) { L with } enc p g lb eg blk off d.size cap d.toList w (fun W x hb => by have := hp W d x hb rfl; rwa [putRow_self enc W blk off d (holds_below hH hb hlt0)] at this) (by simp) hsz hlt0 hcI
  rw [show d.toList.take d.size = d.toList from List.take_of_length_le (by simp)] at hIF
  obtain ⟨kp, HK⟩ : ∃ kp : Nat → Bool, Hid (kp = fun j => !p d[j]!) := ⟨_, rfl⟩
  have hfil : (d.toList.filter fun x => !p x) = keptUpTo kp d d.size := by rw [HK.out]; exact (keptUpTo_filter (fun x => !p x) d).symm
  rw [hfil]
  have HLT := aside_ hlt0
  clear hlt0
  rcases idxByFrom_spec (fun _ y => p y) default d.toList 0 with ⟨e1, hall⟩ | ⟨k0, hk0, e1, ht, hall⟩
  · have e2 : Lib.idxBy (fun _ y => p y) d.toList default = -1 := e1
    rw [e2] at hIF
    have hkeep : ∀ j, j < d.size → kp j = true := fun j hj => by rw [HK.out]; show (!p d[j]!) = true; rw [← tl j hj, hall j (by simpa using hj)]; rfl
    have e3 : keptUpTo kp d d.size = d.toList := by rw [keptUpTo_all kp d _ hkeep, range_map_get]
    have HH : Aside (Holds enc w blk off d) := hH
    clear hH hp
    obtain ⟨_, _, FG⟩ := L.f10
    go_enter FG, SlBodyH.n10_ntmps ρ
    go_wp2_with (go_at_fn (ρ.f 6); refine hIF.mono ?_; rintro e w' ⟨rfl, hbw⟩; have BW := aside_ hbw; clear hbw)
    go_ret
    rw [e3]
    refine ⟨by simp, _, BW.out, ?_⟩
    simp only [Array.length_toList, Nat.sub_self, List.replicate_zero, List.append_nil, Array.toArray_toList]
    exact (putRow_self enc _ blk off d (holds_below HH.out BW.out HLT.out)).symm
  · have hk0' : k0 < d.size := by simpa using hk0
    have e2 : Lib.idxBy (fun _ y => p y) d.toList default = (k0 : Int) := by unfold Lib.idxBy; rw [e1]; simp
    rw [e2] at hIF
    have hkeep : ∀ j, j < k0 → kp j = true := fun j hj => by rw [HK.out]; show (!p d[j]!) = true; rw [← tl j (by omega), hall j hj]; rfl
    have hdrop : kp k0 = false := by rw [HK.out]; show (!p d[k0]!) = false; rw [← tl k0 hk0']; rw [show p d.toList[k0]! = true from ht]; rfl
    have hne1 : ((k0 : Int) == -1) = false := beq_eq_false_iff_ne.2 (by omega)
    have HC := aside_ hp
    have HH : Aside (Holds enc w blk off d) := hH
    clear hp hH hall ht e1 e2 tl
    obtain ⟨_, _, FG⟩ := L.f10
    go_enter FG, SlBodyH.n10_ntmps ρ
    go_wp2_with (go_at_fn (ρ.f 6); refine hIF.mono ?_; rintro e w' ⟨rfl, hbw⟩; have BW := aside_ hbw; clear hbw)
    go_loopg [5, 6, 7] d.size (fun gg s5 s6 _ wr => ∃ (i j : Nat) (V : World) (dk : Array α), s5 = .int .i64 i ∧ s6 = .int .i64 j ∧ j ≤ d.size ∧ d.size - j ≤ gg ∧ wr = putRow enc V blk off dk ∧ Aside (Below w.heap.size w V) ∧ Aside (KeptInv kp d j i dk))
    case atStart => exact ⟨k0, k0 + 1, _, d, rfl, by go_num, by omega, by omega, (putRow_self enc _ blk off d (holds_below HH.out BW.out HLT.out)).symm, BW, aside_ (KeptInv.start hkeep hdrop)⟩
    case round =>
      obtain ⟨i, j, V, dk, rfl, rfl, hjd, hgg, hwr, BV, I2⟩ := hrel
      have hI := I2.out
      have hij := hI.lt
      have hds := hI.size
      have hHk : Holds enc wr blk off dk := by rw [hwr]; exact holds_putRow enc _ blk off d dk (holds_below HH.out BV.out HLT.out) hds
      have W2 : Aside (wr = putRow enc V blk off dk) := hwr
      have HBL : Aside (blk < wr.heap.size) := aside_ (by rw [hwr, putRow_size]; have := BV.out.size; have := HLT.out; omega)
      have HDS := aside_ hds
      by_cases hlt : j < d.size
      · have hltz : (j : Int) < (d.size : Int) := by omega
        obtain ⟨cj, _⟩ := hHk j (by omega)
        obtain ⟨ci, fi⟩ := hHk i (by omega)
        rw [hI.high j (by omega)] at cj
        have hcall := HC.out V dk d[j]! BV.out hds
        unfold Finds at hcall
        rw [← hwr] at hcall
        clear hHk hI hwr
        generalize hu : d[j]! = u at cj hcall
        generalize dk[i]! = old at ci
        have C : Aside (d[j]! = u) := hu
        clear hu
        cases hq : p u with
        | false =>
          rw [hq] at hcall
          go_wp2_with (go_at_fn g; refine hcall.mono ?_; rintro e w' ⟨rfl, hbw⟩; have ci2 := (hbw.cell (p := ⟨blk, off + i, none⟩) HBL.out).trans ci; have fi2 := (hbw.frozen (p := ⟨blk, off + i, none⟩) HBL.out).trans fi; have BW2 := aside_ hbw; clear hbw)
          go_roundg (d.size - (j + 1))
          case measure => omega
          case rel =>
            obtain ⟨V', hV', he'⟩ := restore HH.out HLT.out BV.out HDS.out (by rw [← W2.out]; exact BW2.out)
            refine ⟨i + 1, j + 1, V', dk.setIfInBounds i u, by go_num, by go_num, by omega, Nat.le_refl _, ?_, aside_ hV', aside_ ?_⟩
            · rw [he']
              exact putRow_set enc _ blk off dk i u (by omega)
            · have := I2.out.keep hlt (by rw [HK.out]; show (!p d[j]!) = true; rw [C.out, hq]; rfl)
              rwa [C.out] at this
        | true =>
          rw [hq] at hcall
          go_wp2_with (go_at_fn g; refine hcall.mono ?_; rintro e w' ⟨rfl, hbw⟩; have BW2 := aside_ hbw; clear hbw)
          go_roundg (d.size - (j + 1))
          case measure => omega
          case rel =>
            obtain ⟨V', hV', he'⟩ := restore HH.out HLT.out BV.out HDS.out (by rw [← W2.out]; exact BW2.out)
            exact ⟨i, j + 1, V', dk, rfl, by go_num, by omega, Nat.le_refl _, he', aside_ hV', aside_ (I2.out.skip (by rw [HK.out]; show (!p d[j]!) = false; rw [C.out, hq]; rfl))⟩
      · obtain rfl : j = d.size := by omega
        have hltz : ¬ (d.size : Int) < (d.size : Int) := by omega
        have hcl : ∀ ty, (Builtin.clear_ #[ρ.t 22] ty #[.slice (some ⟨blk, off + i, none⟩) (d.size - i) (cap - i)]).run P wr = .ok (.tuple #[]) (wr.setCells blk (off + i) (List.replicate (d.size - i) (enc zr))) :=
          fun ty => Lib.run_clear_slice wr _ _ ty _ t22 v23 (hO.cells zr) (hO zr) blk (off + i) _ _ (by omega) (fun t ht => by rw [show off + i + t = off + (i + t) by omega, (hHk (i + t) (by omega)).1]; rfl) (fun t ht => by rw [show off + i + t = off + (i + t) by omega]; exact (hHk (i + t) (by omega)).2)
        clear hHk hI hwr
        go_wp2
        go_ret
        have hI := I2.out
        refine ⟨by rw [hI.len]; rfl, V, BV.out, ?_⟩
        rw [hI.len, ← hI.done zr, ← putRow_setCells enc _ blk off _ dk i (by simp; omega), ← W2.out, List.map_replicate]
end
end Go.Proofs.Ytcfolhafjeefaaa.Hand
