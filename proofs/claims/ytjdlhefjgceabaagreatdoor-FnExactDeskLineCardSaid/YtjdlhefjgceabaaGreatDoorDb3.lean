/- The reference's texts of lists and tables, walked. Conditions: lists of at most 10000 numbers from 0 on; tables. -/
import Derived.Test.YtjdlhefjgceabaaGreatDoorPm3
import Derived.Test.YtjdlhefjgceabaaGreatDoorPl3
import Derived.Test.YtjdlhefjgceabaaGreatDoorPAllA3
import Derived.Test.YtjdlhefjgceabaaGreatDoorDa3
import Derived.Test.YtjdlhefjgceabaaGreatDoorHm3
import Derived.BigRegion
import Derived.Test.YtjdlhefjgceabaaGreatDoorPAllC3
import Derived.Test.YtjdlhefjgceabaaGreatDoorPAllE3
import Derived.Test.YtjdlhefjgceabaaGreatDoorPAllD3
import Derived.Test.YtjdlhefjgceabaaGreatDoorPAllB3
import Derived.Test.YtjdlhefjgceabaaGreatDoorCc3
import Derived.Test.YtjdlhefjgceabaaGreatDoorCa3
import Derived.Test.YtjdlhefjgceabaaGreatDoorCb3
import Derived.Deep.RegionWith
import Derived.Test.YtjdlhefjgceabaaGreatDoorBs3
namespace Go.Proofs.YtjdlhefjgceabaaGreatDoor.Hand
open Go.RowKit Go.Proofs.YtjdlhefjgceabaaGreatDoorW.PrintWords Go.Proofs.YtjdlhefjgceabaaGreatDoorW.PrintLast Go.Proofs.YtjdlhefjgceabaaGreatDoorW.PrintMore Go.Proofs.YtjdlhefjgceabaaGreatDoor.PAll
set_option linter.unusedVariables false
set_option linter.unusedSimpArgs false
set_option maxRecDepth 100000
set_option maxHeartbeats 4000000
theorem num_any (n:Int) (w:World) (h0:0<=n) (h:I64 n):Calls Tryz.prog 86 #[.int .i64 n] w (GotS (itoaB n) w):=by
 obtain ⟨k,hk⟩:=Plain.numI_ev n h0 h;exact spec_l1Num.calls k n _ w (hk k (Nat.le_refl _))
theorem bapp (a b:List UInt8):(⟨(a ++ b).toArray⟩:ByteArray) = ⟨a.toArray⟩ ++ ⟨b.toArray⟩:=by
 apply ByteArray.ext;simp
theorem joinB_nil (sep:ByteArray):joinB [] sep = ⟨#[]⟩:=rfl
theorem joinB_one (p sep:ByteArray):joinB [p] sep = ⟨#[]⟩ ++ p:=by
 unfold joinB;rw [List.map_singleton,Lib.join_one,Array.toArray_toList];apply ByteArray.ext;simp
theorem joinB_snoc (xs:List ByteArray) (p sep:ByteArray) (h:xs ≠ []):joinB (xs ++ [p]) sep = joinB xs sep ++ sep ++ p:=by
 cases xs with
 | nil=>exact absurd rfl h
 | cons x r =>
  unfold joinB;rw [List.cons_append,List.map_cons,List.map_cons,Lib.join_cons,Lib.join_cons,List.map_append,List.map_singleton]
  have e:Lib.joinTail sep.data.toList (r.map (·.data.toList) ++ [p.data.toList]) = Lib.joinTail sep.data.toList (r.map (·.data.toList)) ++ (sep.data.toList ++ p.data.toList):=by
   unfold Lib.joinTail;rw [List.map_append,List.map_singleton,List.flatten_append];simp
  rw [e,<- List.append_assoc,<- List.append_assoc,bapp,bapp,Array.toArray_toList,Array.toArray_toList]
theorem joinB_le (m:Nat) (sep:ByteArray) (hs:sep.size<=1) (xs:List ByteArray) (h:∀ x ∈ xs,x.size<=m):(joinB xs sep).size<=xs.length * (m + 1):=by
 have e:∀ y:ByteArray,y.data.toList.length = y.size:=fun y=>Array.length_toList
 have:=join_le sep.data.toList m (by rw [e];exact hs) (xs.map (·.data.toList)) (fun x hx=>by
  obtain ⟨y,hy,rfl⟩:=List.mem_map.1 hx;have:=h y hy;rw [e]
  exact this)
 rw [List.length_map] at this;show (Lib.join (xs.map (·.data.toList)) sep.data.toList).toArray.size<=_;rw [List.size_toArray];exact this
theorem itoa_size {n:Int} (h:I64 n):(itoaB n).size<=20:=by
 have:=itoa_length n h;simpa [itoaB,ByteArray.size] using this
theorem itoa_pos (n:Int):0 < (itoaB n).size:=by
 have:=itoa_ne n;have h:=List.length_pos_iff.2 this;simpa [itoaB,ByteArray.size] using h
def soFar (f:Int->ByteArray) (sep:ByteArray) (l:List Int) (i:Nat):ByteArray:=joinB ((l.take i).map f) sep
theorem soFar_first (f:Int->ByteArray) (sep:ByteArray) (l:List Int) (h:0 < l.length):soFar f sep l 1 = soFar f sep l 0 ++ f (rd l 0):=by
 unfold soFar;rw [show (1:Nat) = 0 + 1 from rfl,List.take_succ_eq_append_getElem h,List.take_zero,List.nil_append,List.map_singleton,joinB_one,List.map_nil,joinB_nil,<- rd_at l 0 h];rfl
theorem soFar_next (f:Int->ByteArray) (sep:ByteArray) (l:List Int) (i:Nat) (h0:0 < i) (h:i < l.length):soFar f sep l (i + 1) = soFar f sep l i ++ sep ++ f (rd l (i:Int)):=by
 unfold soFar;rw [List.take_succ_eq_append_getElem h,List.map_append,List.map_singleton,joinB_snoc _ _ _ (fun e=>by have:=congrArg List.length e;rw [List.length_map,List.length_take,List.length_nil] at this;omega),rd_at l i h]
theorem soFar_le (f:Int->ByteArray) (sep:ByteArray) (l:List Int) (i:Nat) (hs:sep.size<=1) (hl:l.length<=10000) (h:∀ x ∈ l,(f x).size<=20):(soFar f sep l i).size<=210000:=by
 have h1:=joinB_le 20 sep hs ((l.take i).map f) (fun y hy=>by
  obtain ⟨x,hx,rfl⟩:=List.mem_map.1 hy
  exact h x (List.mem_of_mem_take hx))
 rw [List.length_map,List.length_take] at h1;unfold soFar;omega
theorem dash_eq (l:List Int):dashB l = if (soFar itoaB ⟨#[44]⟩ l l.length).toList = [] then ⟨#[45]⟩ else soFar itoaB ⟨#[44]⟩ l l.length:=by
 by_cases h0:l = []
 ·
  subst h0;rw [if_pos (ba_nil rfl)];rfl
 ·
  have e:soFar itoaB ⟨#[44]⟩ l l.length = numsB l ⟨#[44]⟩:=by
   unfold soFar numsB;rw [List.take_length]
  unfold dashB;rw [if_neg h0,e,if_neg];intro h;have e2:=ba_nil' h
  cases l with
  | nil=>exact h0 rfl
  | cons x r =>
   have h3:(numsB (x :: r) ⟨#[44]⟩).size = ((itoaB x).data.toList ++ Lib.joinTail [44] ((r.map itoaB).map (·.data.toList))).length:=by
    unfold numsB joinB;rw [List.map_cons,List.map_cons,Lib.join_cons];rfl
   rw [h3,List.length_append] at e2;have h4:=itoa_pos x;have h5:(itoaB x).data.toList.length = (itoaB x).size:=Array.length_toList;omega
theorem text_spec (A0:Option Addr) (c0:Nat) (l:List Int) (w:World) (hL:Lst w A0 c0 l) (hf:Few l) (hp:∀ x ∈ l,0<=x) :
  Calls Tryz.prog 89 #[.slice A0 l.length c0] w (GotS (dashB l) w):=by
 have HL:Aside0 (l.length<=10000):=⟨hf.1⟩
 have HN:=am_ fun x hx=>(⟨hp x hx,hf.2 x hx⟩:0<=x/\I64 x)
 have HR0:=am_ hL;have HS:=am_ fun i=>soFar_le itoaB ⟨#[44]⟩ l i (by decide) hf.1 (fun x hx=>itoa_size (hf.2 x hx));have HB:=am_ (Below.refl w.heap.size w);clear hL hf hp;go_enter Tryz.func89,Tryz.ntmps89;go_wp2
 go_loopg [3,8] l.length (fun kq v3 v8 w'=>∃ (i:Nat) (iz:Int) (J:ByteArray),v8 = .int .i64 iz/\v3 = .string J/\Aside0 (iz = (i:Int))/\Aside0 (i + kq = l.length)/\Aside0 (J = soFar itoaB ⟨#[44]⟩ l i)/\Aside0 (Below w.heap.size w w'))
 case atStart=>exact ⟨0,0,_,rfl,rfl,⟨rfl⟩,⟨by omega⟩,⟨rfl⟩,HB⟩
 case round =>
  clear HB;obtain ⟨i,iz,J,rfl,rfl,NI,NK,HJ,HB⟩:=hrel
  cases gk with
  | zero =>
   have hi:i = l.length:=by have:=NK.out;omega
   subst hi;have q1:decide (iz < (l.length:Int)) = false:=decide_eq_false (by have:=NI.out;omega);have hd:=dash_eq l;rw [<- HJ.out] at hd
   by_cases hz:J.toList = []
   ·
    have q2:J.toList.isEmpty = true:=by rw [hz];rfl
    rw [if_pos hz] at hd;have HD:=am_ hd;clear hz hd;go_wp2;go_ret;exact ⟨by rw [HD.out];rfl,HB.out⟩
   ·
    have q2:J.toList.isEmpty = false:=by cases hq:J.toList with
     | nil=>exact absurd hq hz
     | cons a r=>rfl
    rw [if_neg hz] at hd;have HD:=am_ hd;clear hz hd;go_wp2;go_ret;exact ⟨by rw [HD.out];rfl,HB.out⟩
  | succ d =>
   have hi0:0<=iz:=by have:=NI.out;omega
   have hin:iz < (l.length:Int):=by have:=NI.out;have:=NK.out;omega
   have q1:decide (iz < (l.length:Int)) = true:=decide_eq_true hin;obtain ⟨ad0,e0,hx⟩:=Kd.at_int (Kd.C_below HR0.out.1 HB.out) iz hi0 hin;cases e0
   have hi1:i < l.length:=by have:=NK.out;omega
   have HX:=am_ (HN.out (rd l iz) (by rw [NI.out,rd_at l i hi1];exact List.getElem_mem _));have HI:=am_ (show wrap64 (iz + 1) = ((i + 1:Nat):Int) by rw [NI.out];have:=NK.out;have:=HL.out;rw [wrap64_in _ (by omega) (by omega)];omega)
   obtain ⟨x,hxx⟩:∃ x,x = rd l iz:=⟨_,rfl⟩
   have HC:=am_ fun W=>num_any x W (by rw [hxx];exact HX.out.1) (by rw [hxx];exact HX.out.2)
   obtain ⟨p,hpp⟩:∃ p,p = itoaB x:=⟨_,rfl⟩
   have hps:p.size<=20:=by rw [hpp,hxx];exact itoa_size HX.out.2
   have hJs:J.size<=210000:=by rw [HJ.out];exact HS.out i
   rw [<- hpp] at HC
   have HE:=am_ (show soFar itoaB ⟨#[44]⟩ l (i + 1) = if i = 0 then J ++ p else J ++ ⟨#[44]⟩ ++ p by
    rw [HJ.out,hpp,hxx,NI.out]
    split
    · rename_i h;subst h;exact soFar_first _ _ _ hi1
    · exact soFar_next _ _ _ _ (by omega) hi1)
   rw [<- hxx] at hx;clear hxx hpp;replace hi0:=eq_true hi0;replace hin:=eq_true hin
   by_cases hz:i = 0
   ·
    have q3:decide (iz > 0) = false:=decide_eq_false (by have:=NI.out;omega);have q5:(9223372036854775807 < J.size + p.size) = False:=eq_false (by omega);have q6:(J.size + p.size<=9223372036854775807) = True:=eq_true (by omega);rw [if_pos hz] at HE;clear hps hJs hi1 hz
    go_wp2_with (go_at_call 86;go_loud (refine (HC.out _).mono ?_;rintro e w1 ⟨rfl,hb⟩;have HB1:=am_ (below_step (show Below w.heap.size w _ from bw_) hb);clear HB hb;have HB:=HB1;clear HB1))
    go_roundg d
    case measure=>omega
    case rel=>exact ⟨i + 1,_,_,rfl,rfl,HI,⟨by have:=NK.out;omega⟩,⟨HE.out.symm⟩,⟨bw_⟩⟩
   ·
    have q3:decide (iz > 0) = true:=decide_eq_true (by have:=NI.out;omega);have q5:(9223372036854775807 < J.size + 1) = False:=eq_false (by omega);have q6:(9223372036854775807 < J.size + 1 + p.size) = False:=eq_false (by omega);have q7:(J.size + 1<=9223372036854775807) = True:=eq_true (by omega);have q8:(J.size + 1 + p.size<=9223372036854775807) = True:=eq_true (by omega);rw [if_neg hz] at HE;clear hps hJs hi1 hz
    go_wp2_with (go_at_call 86;go_loud (refine (HC.out _).mono ?_;rintro e w1 ⟨rfl,hb⟩;have HB1:=am_ (below_step (show Below w.heap.size w _ from bw_) hb);clear HB hb;have HB:=HB1;clear HB1))
    go_roundg d
    case measure=>omega
    case rel=>exact ⟨i + 1,_,_,rfl,rfl,HI,⟨by have:=NK.out;omega⟩,⟨HE.out.symm⟩,⟨bw_⟩⟩
theorem cell_size {k:Int} (h:I64 k):(cellB k).size<=20:=by
 unfold cellB
 split
 · decide
 · exact itoa_size h
theorem table_spec (A0:Option Addr) (c0:Nat) (l:List Int) (w:World) (hL:Lst w A0 c0 l) (hl:l.length<=10000) (hp:∀ x ∈ l,-1<=x/\x<=999) :
  Calls Tryz.prog 135 #[.agg #[.slice A0 l.length c0]] w (GotS (textB l) w):=by
 have hu:=Tryz.underlying34
 have hI:∀ x ∈ l,I64 x:=fun x hx=>by have:=hp x hx;unfold I64;omega
 have HL:Aside0 (l.length<=10000):=⟨hl⟩
 have HN:=am_ fun x hx=>(⟨hp x hx,hI x hx⟩:(-1<=x/\x<=999)/\I64 x)
 have HR0:=am_ hL;have HS:=am_ fun i=>soFar_le cellB ⟨#[32]⟩ l i (by decide) hl (fun x hx=>cell_size (hI x hx));have HB:=am_ (below_alloc (Below.refl w.heap.size w) (.cells #[.slice A0 l.length c0] 34));clear hL hl hp hI;go_enter Tryz.func135,Tryz.ntmps135;go_wp2
 go_loopg [3,9] l.length (fun kq v3 v9 w'=>∃ (i:Nat) (iz:Int) (J:ByteArray),v9 = .int .i64 iz/\v3 = .string J/\Aside0 (iz = (i:Int))/\Aside0 (i + kq = l.length)/\Aside0 (J = soFar cellB ⟨#[32]⟩ l i)/\Aside0 (Below w.heap.size w w'))
 case atStart=>exact ⟨0,0,_,rfl,rfl,⟨rfl⟩,⟨by omega⟩,⟨rfl⟩,HB⟩
 case round =>
  clear HB;obtain ⟨i,iz,J,rfl,rfl,NI,NK,HJ,HB⟩:=hrel
  cases gk with
  | zero =>
   have hi:i = l.length:=by have:=NK.out;omega
   subst hi;have q1:decide (iz < (l.length:Int)) = false:=decide_eq_false (by have:=NI.out;omega);have HD:=am_ (show textB l = J by rw [HJ.out];unfold soFar textB;rw [List.take_length]);go_wp2;go_ret;exact ⟨by rw [HD.out];rfl,HB.out⟩
  | succ d =>
   have hi0:0<=iz:=by have:=NI.out;omega
   have hin:iz < (l.length:Int):=by have:=NI.out;have:=NK.out;omega
   have q1:decide (iz < (l.length:Int)) = true:=decide_eq_true hin;obtain ⟨ad0,e0,hx⟩:=Kd.at_int (Kd.C_below HR0.out.1 HB.out) iz hi0 hin;cases e0
   have hi1:i < l.length:=by have:=NK.out;omega
   have HX:=am_ (HN.out (rd l iz) (by rw [NI.out,rd_at l i hi1];exact List.getElem_mem _));have HI:=am_ (show wrap64 (iz + 1) = ((i + 1:Nat):Int) by rw [NI.out];have:=NK.out;have:=HL.out;rw [wrap64_in _ (by omega) (by omega)];omega)
   obtain ⟨x,hxx⟩:∃ x,x = rd l iz:=⟨_,rfl⟩
   have hJs:J.size<=210000:=by rw [HJ.out];exact HS.out i
   have hps:(cellB x).size<=20:=by rw [hxx];exact cell_size HX.out.2
   have HE:=am_ (show soFar cellB ⟨#[32]⟩ l (i + 1) = if i = 0 then J ++ cellB x else J ++ ⟨#[32]⟩ ++ cellB x by
    rw [HJ.out,hxx,NI.out]
    split
    · rename_i h;subst h;exact soFar_first _ _ _ hi1
    · exact soFar_next _ _ _ _ (by omega) hi1)
   rw [<- hxx] at hx HX;clear hxx;replace hi0:=eq_true hi0;replace hin:=eq_true hin;have q5:(9223372036854775807 < J.size + 1) = False:=eq_false (by omega);have q7:(J.size + 1<=9223372036854775807) = True:=eq_true (by omega)
   by_cases hk:x = -1
   ·
    subst hk;have e46:cellB (-1) = ⟨#[46]⟩:=rfl;rw [e46] at HE;have q6:(9223372036854775807 < J.size + 1 + 1) = False:=eq_false (by omega);have q8:(J.size + 1 + 1<=9223372036854775807) = True:=eq_true (by omega);have q6':(9223372036854775807 < J.size + 2) = False:=eq_false (by omega);have q8':(J.size + 2<=9223372036854775807) = True:=eq_true (by omega)
    by_cases hz:i = 0
    ·
     have q3:decide (iz > 0) = false:=decide_eq_false (by have:=NI.out;omega);rw [if_pos hz] at HE;clear hps hJs hi1 hz e46;go_wp2
     go_roundg d
     case measure=>omega
     case rel=>exact ⟨i + 1,_,_,rfl,rfl,HI,⟨by have:=NK.out;omega⟩,⟨HE.out.symm⟩,⟨bw_⟩⟩
    ·
     have q3:decide (iz > 0) = true:=decide_eq_true (by have:=NI.out;omega);rw [if_neg hz] at HE;clear hps hJs hi1 hz e46;go_wp2
     go_roundg d
     case measure=>omega
     case rel=>exact ⟨i + 1,_,_,rfl,rfl,HI,⟨by have:=NK.out;omega⟩,⟨HE.out.symm⟩,⟨bw_⟩⟩
   ·
    have q2:(x == (-1:Int)) = false:=beq_eq_false_iff_ne.2 hk
    have h0:0<=x:=by have:=HX.out.1;omega
    have HC:=am_ fun W=>num_any x W h0 HX.out.2
    have e46:cellB x = itoaB x:=by unfold cellB;rw [if_neg (by omega)]
    rw [e46] at HE hps
    obtain ⟨p,hpp⟩:∃ p,p = itoaB x:=⟨_,rfl⟩
    rw [<- hpp] at HC HE hps;have q6:(9223372036854775807 < J.size + 1 + p.size) = False:=eq_false (by omega);have q8:(J.size + 1 + p.size<=9223372036854775807) = True:=eq_true (by omega);have q9:(9223372036854775807 < J.size + p.size) = False:=eq_false (by omega);have q10:(J.size + p.size<=9223372036854775807) = True:=eq_true (by omega)
    by_cases hz:i = 0
    ·
     have q3:decide (iz > 0) = false:=decide_eq_false (by have:=NI.out;omega);rw [if_pos hz] at HE;clear hps hJs hi1 hz e46 hpp h0 hk
     go_wp2_with (go_at_call 86;go_loud (refine (HC.out _).mono ?_;rintro e w1 ⟨rfl,hb⟩;have HB1:=am_ (below_step (show Below w.heap.size w _ from bw_) hb);clear HB hb;have HB:=HB1;clear HB1))
     go_roundg d
     case measure=>omega
     case rel=>exact ⟨i + 1,_,_,rfl,rfl,HI,⟨by have:=NK.out;omega⟩,⟨HE.out.symm⟩,⟨bw_⟩⟩
    ·
     have q3:decide (iz > 0) = true:=decide_eq_true (by have:=NI.out;omega);rw [if_neg hz] at HE;clear hps hJs hi1 hz e46 hpp h0 hk
     go_wp2_with (go_at_call 86;go_loud (refine (HC.out _).mono ?_;rintro e w1 ⟨rfl,hb⟩;have HB1:=am_ (below_step (show Below w.heap.size w _ from bw_) hb);clear HB hb;have HB:=HB1;clear HB1))
     go_roundg d
     case measure=>omega
     case rel=>exact ⟨i + 1,_,_,rfl,rfl,HI,⟨by have:=NK.out;omega⟩,⟨HE.out.symm⟩,⟨bw_⟩⟩
open Go.Shelf Go.Maps
set_option maxHeartbeats 2000000
def dbk (back:Int) (l:List Int):Bool:=((impl_driveBack.f 60 l 3 back).getD ([],false)).2
def trip (j:Nat):List Int:=[((j / 9:Nat):Int),((j / 3 % 3:Nat):Int),((j % 3:Nat):Int)]
def cntB (back:Int):Nat->Int
 | 0=>0
 | j + 1=>cntB back j + if dbk back (trip j) = true then 1 else 0
theorem dbk_fin:∀ (k:Fin 9) (j:Fin 27),(impl_driveBack.f 60 (trip j.1) 3 (k.1:Int)).isSome = true:=by decide +kernel
theorem cntB_fin:∀ k:Fin 9,cntB (k.1:Int) 27 = rd Plain.backT (k.1:Int):=by decide +kernel
theorem cntB_in (back:Int) (j:Nat):0<=cntB back j/\cntB back j<=(j:Int):=by
 induction j with
 | zero=>simp [cntB]
 | succ j ih=>rw [cntB];split <;> omega
theorem drive_i {back:Int} (h0:0<=back) (h8:back<=8) {j:Nat} (hj:j < 27) (A:Option Addr) (c:Nat) (w:World) (hr:Kd.C (Kd.int .i64) w A 3 (trip j)) (hc:3<=c) :
  Calls Tryz.prog 215 #[.slice A 3 c,.int .i64 3,.int .i64 back] w fun e w'=>(∃ v,e = .returned (.tuple #[v,.bool (dbk back (trip j))]))/\Below w.heap.size w w':=by
 have h:=dbk_fin ⟨back.toNat,by omega⟩ ⟨j,hj⟩
 have e:((back.toNat:Nat):Int) = back:=by omega
 simp only [e] at h;obtain ⟨r,hr2⟩:=Option.isSome_iff_exists.1 h
 have hd:dbk back (trip j) = r.2:=by unfold dbk;rw [hr2];rfl
 rw [hd]
 refine (impl_driveBack.calls 60 A c (trip j) 3 back r.1 r.2 w hr hc hr2).mono ?_
 rintro e w' ⟨v,rfl,_,hb⟩;exact ⟨⟨v,rfl⟩,hb⟩
def Row3 (w:World) (g:Nat) (x y z:Int):Prop:=∃ cs:Array Value,w.heap[g]? = some (.cells cs 3 (0,0))/\cs[0]? = some (.int .i64 x)/\cs[1]? = some (.int .i64 y)/\cs[2]? = some (.int .i64 z)
section
variable {w w1:World} {g:Nat} {x y z:Int}
theorem Row3.after (h:Row3 w g x y z) (hb:Below w.heap.size w w1):Row3 w1 g x y z:=by
 obtain ⟨cs,h1,h2⟩:=h;exact ⟨cs,blk_below h1 hb,h2⟩
theorem Row3.alloc (h:Row3 w g x y z) (o:Obj):Row3 (w.alloc o) g x y z:=by
 obtain ⟨cs,h1,h2⟩:=h;exact ⟨cs,blk_alloc h1 o,h2⟩
theorem Row3.lt (h:Row3 w g x y z):g < w.heap.size:=by
 obtain ⟨cs,h1,h2⟩:=h;exact blk_lt h1
theorem Row3.far (h:Row3 w g x y z) {p:Addr} (hp:g ≠ p.block) (u:Value):Row3 (w.setCell p u) g x y z:=by
 obtain ⟨cs,h1,h2⟩:=h;exact ⟨cs,blk_far h1 hp u,h2⟩
theorem Row3.c0 (h:Row3 w g x y z):w.cell? ⟨g,0,none⟩ = some (.int .i64 x)/\w.frozen? ⟨g,0,none⟩ = false:=by
 obtain ⟨cs,h1,h2⟩:=h;exact ⟨(blk_cell h1 0).trans h2.1,blk_frozen h1 0⟩
theorem Row3.c1 (h:Row3 w g x y z):w.cell? ⟨g,1,none⟩ = some (.int .i64 y)/\w.frozen? ⟨g,1,none⟩ = false:=by
 obtain ⟨cs,h1,h2⟩:=h;exact ⟨(blk_cell h1 1).trans h2.2.1,blk_frozen h1 1⟩
theorem Row3.c2 (h:Row3 w g x y z):w.cell? ⟨g,2,none⟩ = some (.int .i64 z)/\w.frozen? ⟨g,2,none⟩ = false:=by
 obtain ⟨cs,h1,h2⟩:=h;exact ⟨(blk_cell h1 2).trans h2.2.2,blk_frozen h1 2⟩
theorem cs_lt {cs:Array Value} {i:Nat} {v:Value} (h:cs[i]? = some v):i < cs.size:=(Array.getElem?_eq_some_iff.1 h).1
theorem Row3.s0 (h:Row3 w g x y z) (u:Int):Row3 (w.setCell ⟨g,0,none⟩ (.int .i64 u)) g u y z:=by
 obtain ⟨cs,h1,h2,h3,h4⟩:=h;exact ⟨_,blk_set h1 0 _,by rw [Array.getElem?_setIfInBounds_self_of_lt (cs_lt h2)],by rw [Array.getElem?_setIfInBounds_ne (by decide),h3],by rw [Array.getElem?_setIfInBounds_ne (by decide),h4]⟩
theorem Row3.s1 (h:Row3 w g x y z) (u:Int):Row3 (w.setCell ⟨g,1,none⟩ (.int .i64 u)) g x u z:=by
 obtain ⟨cs,h1,h2,h3,h4⟩:=h;exact ⟨_,blk_set h1 1 _,by rw [Array.getElem?_setIfInBounds_ne (by decide),h2],by rw [Array.getElem?_setIfInBounds_self_of_lt (cs_lt h3)],by rw [Array.getElem?_setIfInBounds_ne (by decide),h4]⟩
theorem Row3.s2 (h:Row3 w g x y z) (u:Int):Row3 (w.setCell ⟨g,2,none⟩ (.int .i64 u)) g x y u:=by
 obtain ⟨cs,h1,h2,h3,h4⟩:=h;exact ⟨_,blk_set h1 2 _,by rw [Array.getElem?_setIfInBounds_ne (by decide),h2],by rw [Array.getElem?_setIfInBounds_ne (by decide),h3],by rw [Array.getElem?_setIfInBounds_self_of_lt (cs_lt h4)]⟩
theorem Row3.reads (h:Row3 w g x y z):Kd.C (Kd.int .i64) w (some ⟨g,0,none⟩) 3 [x,y,z]:=by
 refine ⟨rfl,by decide,fun _=>⟨_,rfl,fun j p hj=>⟨[.int .i64 p],rfl,rfl,fun i u hi=>?_⟩⟩⟩
 cases i with
 | succ i=>simp at hi
 | zero =>
  obtain rfl:Value.int .i64 p = u:=by simpa using hi
  match j,hj with
  | 0,hj=>exact (show x = p by simpa using hj) ▸ h.c0.1
  | 1,hj=>exact (show y = p by simpa using hj) ▸ h.c1.1
  | 2,hj=>exact (show z = p by simpa using hj) ▸ h.c2.1
  | j + 3,hj=>simp at hj
theorem Row3.of {b:Nat} {ok:Nat->Prop} {v:Value} (h:Kd.R (Kd.int .i64) 3 w b ok v [x,y,z]):∃ g cap,v = .slice (some ⟨g,0,none⟩) 3 cap/\b<=g/\3<=cap/\Row3 w g x y z:=by
 obtain ⟨_,h2⟩:=Kd.own_of_R h
 rcases h2 with ⟨_,h3⟩ | ⟨g,cap,cur,rfl,hg,hh,hc,hm,hs,ht⟩
 · simp at h3
 ·
  have hc3:3<=cap:=hc
  have hcur:∀ i,i < 3->cur[i]? = (encs (Value.int .i64) [x,y,z])[i]?:=fun i hi=>by
   rw [<- ht,List.getElem?_take_of_lt (by simpa using hi),Array.getElem?_toList]
  exact ⟨g,cap,rfl,hg,hc3,cur,hh,(hcur 0 (by decide)).trans rfl,(hcur 1 (by decide)).trans rfl,(hcur 2 (by decide)).trans rfl⟩
end
structure Vars (w0:World) (gN gK gM:Nat) (back many:Int) (w:World):Prop where
 below:Below w0.heap.size w0 w
 bN:w.heap[gN]? = some (.cells #[.int .i64 3] 3 (0,0))
 bK:w.heap[gK]? = some (.cells #[.int .i64 back] 3 (0,0))
 bM:w.heap[gM]? = some (.cells #[.int .i64 many] 3 (0,0))
 far:w0.heap.size<=gM/\gN ≠ gM/\gK ≠ gM
section
variable {w0 w w1:World} {gN gK gM:Nat} {back many:Int}
theorem Vars.after (h:Vars w0 gN gK gM back many w) (hb:Below w.heap.size w w1):Vars w0 gN gK gM back many w1:=⟨below_step h.below hb,blk_below h.bN hb,blk_below h.bK hb,blk_below h.bM hb,h.far⟩
theorem Vars.drewN (h:Vars w0 gN gK gM back many w) (n:Nat):Vars w0 gN gK gM back many (w.drewN n):=⟨pw_below_drewN h.below n,blk_drewN h.bN n,blk_drewN h.bK n,blk_drewN h.bM n,h.far⟩
theorem Vars.drew (h:Vars w0 gN gK gM back many w):Vars w0 gN gK gM back many w.drew:=⟨below_drew1 h.below,blk_drew h.bN,blk_drew h.bK,blk_drew h.bM,h.far⟩
theorem Vars.alloc (h:Vars w0 gN gK gM back many w) (o:Obj):Vars w0 gN gK gM back many (w.alloc o):=⟨below_alloc h.below o,blk_alloc h.bN o,blk_alloc h.bK o,blk_alloc h.bM o,h.far⟩
theorem Vars.away (h:Vars w0 gN gK gM back many w) {p:Addr} (h0:w0.heap.size<=p.block) (hN:gN ≠ p.block) (hK:gK ≠ p.block) (hM:gM ≠ p.block) (u:Value):Vars w0 gN gK gM back many (w.setCell p u):=⟨h.below.setCell h0 _,blk_far h.bN hN u,blk_far h.bK hK u,blk_far h.bM hM u,h.far⟩
theorem Vars.put (h:Vars w0 gN gK gM back many w) (u:Int):Vars w0 gN gK gM back u (w.setCell ⟨gM,0,none⟩ (.int .i64 u)):=⟨h.below.setCell h.far.1 _,blk_far h.bN (p:=⟨gM,0,none⟩) h.far.2.1 _,blk_far h.bK (p:=⟨gM,0,none⟩) h.far.2.2 _,blk_put h.bM 0 _ rfl,h.far⟩
theorem Vars.cN (h:Vars w0 gN gK gM back many w):w.cell? ⟨gN,0,none⟩ = some (.int .i64 3):=(blk_cell h.bN 0).trans rfl
theorem Vars.cK (h:Vars w0 gN gK gM back many w):w.cell? ⟨gK,0,none⟩ = some (.int .i64 back):=(blk_cell h.bK 0).trans rfl
theorem Vars.cM (h:Vars w0 gN gK gM back many w):w.cell? ⟨gM,0,none⟩ = some (.int .i64 many)/\w.frozen? ⟨gM,0,none⟩ = false:=⟨(blk_cell h.bM 0).trans rfl,blk_frozen h.bM 0⟩
end
structure Ring (w0:World) (g0 g1 gL gN gK gM:Nat) (x y z back many:Int) (w:World):Prop where
 vars:Vars w0 gN gK gM back many w
 low:Row3 w g0 0 0 0
 high:Row3 w g1 2 2 2
 row:Row3 w gL x y z
 farL:w0.heap.size<=gL/\g0 ≠ gL/\g1 ≠ gL/\gN ≠ gL/\gK ≠ gL/\gM ≠ gL
 farM:g0 ≠ gM/\g1 ≠ gM
section
variable {w0 w w1:World} {g0 g1 gL gN gK gM:Nat} {x y z back many:Int}
theorem Ring.after (h:Ring w0 g0 g1 gL gN gK gM x y z back many w) (hb:Below w.heap.size w w1):Ring w0 g0 g1 gL gN gK gM x y z back many w1:=⟨h.vars.after hb,h.low.after hb,h.high.after hb,h.row.after hb,h.farL,h.farM⟩
theorem Ring.drewN (h:Ring w0 g0 g1 gL gN gK gM x y z back many w) (n:Nat):Ring w0 g0 g1 gL gN gK gM x y z back many (w.drewN n):=⟨h.vars.drewN n,h.low,h.high,h.row,h.farL,h.farM⟩
theorem Ring.drew (h:Ring w0 g0 g1 gL gN gK gM x y z back many w):Ring w0 g0 g1 gL gN gK gM x y z back many w.drew:=⟨h.vars.drew,h.low,h.high,h.row,h.farL,h.farM⟩
theorem Ring.put (h:Ring w0 g0 g1 gL gN gK gM x y z back many w) (u:Int):Ring w0 g0 g1 gL gN gK gM x y z back u (w.setCell ⟨gM,0,none⟩ (.int .i64 u)):=⟨h.vars.put u,h.low.far h.farM.1 _,h.high.far h.farM.2 _,h.row.far (p:=⟨gM,0,none⟩) (fun e=>h.farL.2.2.2.2.2 e.symm) _,h.farL,h.farM⟩
theorem Ring.s (h:Ring w0 g0 g1 gL gN gK gM x y z back many w) {i:Nat} {u:Value} {x' y' z':Int} (hr:Row3 (w.setCell ⟨gL,i,none⟩ u) gL x' y' z'):Ring w0 g0 g1 gL gN gK gM x' y' z' back many (w.setCell ⟨gL,i,none⟩ u) :=
 ⟨h.vars.away (p:=⟨gL,i,none⟩) h.farL.1 h.farL.2.2.2.1 h.farL.2.2.2.2.1 h.farL.2.2.2.2.2 _,h.low.far (p:=⟨gL,i,none⟩) h.farL.2.1 _,h.high.far (p:=⟨gL,i,none⟩) h.farL.2.2.1 _,hr,h.farL,h.farM⟩
theorem rg_ {P:Prop} (h:P:=by repeat (first | (with_reducible first | exact HG.out | apply Ring.drewN | apply Ring.drew | apply Ring.put) | exact HG.out)):P:=h
theorem back1_any (h0:0<=back) (h8:back<=8) {j:Nat} (hj:j < 27) {cL:Nat} (hc:3<=cL) {a b c:Int} (he:trip j = [a,b,c]) (hm:0<=many/\many<=26) (hG:Ring w0 g0 g1 gL gN gK gM a b c back many w) :
  Calls Tryz.prog 214 #[.slice (some ⟨gL,0,none⟩) 3 cL,.pointer (some ⟨gN,0,none⟩),.pointer (some ⟨gK,0,none⟩),.pointer (some ⟨gM,0,none⟩)] w fun e w'=>e = .returned (.tuple #[])/\Ring w0 g0 g1 gL gN gK gM a b c back (many + if dbk back (trip j) = true then 1 else 0) w':=by
 have HD:=am_ fun W (h:Kd.C (Kd.int .i64) W (some ⟨gL,0,none⟩) 3 (trip j))=>drive_i h0 h8 hj (some ⟨gL,0,none⟩) cL W h hc;rw [he] at HD ⊢;have HG:=am_ hG;have hcN:=hG.vars.cN;have hcK:=hG.vars.cK
 have hw:IntKind.i64.wrap (many + 1) = many + 1:=by rw [i64_w,wrap64_in _ (by omega) (by omega)]
 have HW:=am_ hw;clear h0 h8 hj hc he hG hm;cases hq:dbk back [a,b,c]
 all_goals
  rw [hq] at HD;clear hq;go_enter Tryz.func214,Tryz.ntmps214
  go_wp2_with (go_at_call 215;go_loud (refine (HD.out _ (Ring.row (show Ring w0 g0 g1 gL gN gK gM a b c back many _ from rg_)).reads).mono ?_;rintro e w1 ⟨⟨v,rfl⟩,hb⟩;have HG1:=am_ (Ring.after (show Ring w0 g0 g1 gL gN gK gM a b c back many _ from rg_) hb);clear HG hb hcN hcK;have HG:=HG1;clear HG1;obtain ⟨hcM,hfM⟩:=HG.out.vars.cM))
  go_end0
  all_goals first
   | (refine ⟨rfl,?_⟩;first | exact HG.out.put _ | exact HG.out | (rw [Int.add_zero];exact HG.out))
   | exact absurd h (by decide)
end
def Turn (a b c i x y z:Int):Prop:=(i = 2/\x = a/\y = b/\z = c) \/ (i = 1/\c = 2/\x = a/\y = b/\z = 0) \/ (i = 0/\c = 2/\b = 2/\x = a/\y = 0/\z = 0) \/ (i = -1/\c = 2/\b = 2/\a = 2/\x = 0/\y = 0/\z = 0)
theorem cnt27 {back:Int} (h0:0<=back) (h8:back<=8):cntB back 27 = rd Plain.backT back:=by
 have h:=cntB_fin ⟨back.toNat,by omega⟩;simp only [show ((back.toNat:Nat):Int) = back by omega] at h;exact h
theorem all_any {w0 w:World} {gN gK gM g0 g1 c0 c1:Nat} {back:Int} (h0:0<=back) (h8:back<=8) (hV:Vars w0 gN gK gM back 0 w) (hl:Row3 w g0 0 0 0) (hh:Row3 w g1 2 2 2) (hf:g0 ≠ gM/\g1 ≠ gM) (hc0:3<=c0) (hc1:3<=c1) :
  Calls Tryz.prog 240 #[.slice (some ⟨g0,0,none⟩) 3 c0,.slice (some ⟨g1,0,none⟩) 3 c1,.func (.func 214) #[] #[.pointer (some ⟨gN,0,none⟩),.pointer (some ⟨gK,0,none⟩),.pointer (some ⟨gM,0,none⟩)]] w fun e w'=>e = .returned (.tuple #[])/\Vars w0 gN gK gM back (rd Plain.backT back) w':=by
 have eg:∀ args w,(callFunc 214 args).run Tryz.prog w = .ok (.enter 214 args) w:=enters_of Tryz.func214 (by kernel_rfl) rfl;have HCL:=am_ (slices_Clone_int_int.calls (some ⟨g0,0,none⟩) c0 [0,0,0] [0,0,0] w hl.reads hc0 rfl);have HV:=am_ hV;have HL:=am_ hl;have HH:=am_ hh;have HF:=am_ hf;have H8:=am_ (And.intro h0 h8);clear h0 h8 hV hl hh hf hc0 hc1;go_enter Tryz.func240,Tryz.ntmps240
 go_wp2_with (go_at_call 53;go_loud (refine HCL.out.mono ?_;rintro e w1 ⟨v,rfl,hv,hb⟩;obtain ⟨gL,cL,rfl,hgL,hcL,hr⟩:=Row3.of hv;have HG:=am_ (show Ring w0 g0 g1 gL gN gK gM 0 0 0 back 0 w1 from ⟨HV.out.after hb,HL.out.after hb,HH.out.after hb,hr,⟨Nat.le_trans HV.out.below.size hgL,Nat.ne_of_lt (Nat.lt_of_lt_of_le HL.out.lt hgL),Nat.ne_of_lt (Nat.lt_of_lt_of_le HH.out.lt hgL),Nat.ne_of_lt (Nat.lt_of_lt_of_le (blk_lt HV.out.bN) hgL),Nat.ne_of_lt (Nat.lt_of_lt_of_le (blk_lt HV.out.bK) hgL),Nat.ne_of_lt (Nat.lt_of_lt_of_le (blk_lt HV.out.bM) hgL)⟩,HF.out⟩);have HCC:=am_ hcL;clear hv hb hr hgL hcL HV HL HH HF HCL))
 go_loopg [7] 26 (fun kq v7 w'=>∃ (j:Nat) (a b c many:Int),Aside0 (j + kq = 26/\trip j = [a,b,c]/\many = cntB back j)/\Aside0 (Ring w0 g0 g1 gL gN gK gM a b c back many w'))
 case atStart=>exact ⟨0,0,0,0,0,⟨rfl,rfl,rfl⟩,HG⟩
 case round =>
  clear HG;obtain ⟨j,a,b,c,many,HJ,HG⟩:=hrel
  obtain ⟨gg,hgg⟩:∃ gg:Nat,gg = gk:=⟨_,rfl⟩
  have HGG:=am_ hgg
  obtain ⟨m1,hm1⟩:∃ m1,m1 = cntB back (j + 1):=⟨_,rfl⟩
  have HC:Aside0 (∀ W,Ring w0 g0 g1 gL gN gK gM a b c back many W->Calls Tryz.prog 214 #[.slice (some ⟨gL,0,none⟩) 3 cL,.pointer (some ⟨gN,0,none⟩),.pointer (some ⟨gK,0,none⟩),.pointer (some ⟨gM,0,none⟩)] W fun e w'=>e = .returned (.tuple #[])/\Ring w0 g0 g1 gL gN gK gM a b c back m1 w'):=⟨fun W h=>by
   have hj:=HJ.out;have hin:=cntB_in back j;have h1:=back1_any H8.out.1 H8.out.2 (j:=j) (by omega) HCC.out hj.2.1 (by rw [hj.2.2];omega) h
   rwa [hj.2.2,show cntB back j + (if dbk back (trip j) = true then 1 else 0) = m1 from hm1.symm] at h1⟩
  have HM1:=am_ hm1;clear hgg hm1
  go_wp2_with (go_at_fn 214;refine (HC.out _ (show Ring w0 g0 g1 gL gN gK gM a b c back many _ from rg_)).mono ?_;rintro e w2 ⟨rfl,hG⟩;have HG2:=am_ hG;clear HG HC hG)
  go_loopg [7] 3 (fun kq v7 w'=>∃ (i x y z:Int),v7 = .int .i64 i/\Aside0 (Turn a b c i x y z/\i + 1<=(kq:Int))/\Aside0 (Ring w0 g0 g1 gL gN gK gM x y z back m1 w'))
  case atStart=>exact ⟨2,a,b,c,rfl,⟨.inl ⟨rfl,rfl,rfl,rfl⟩,by omega⟩,HG2⟩
  case round =>
   clear HG2;obtain ⟨i,x,y,z,rfl,HS,HG⟩:=hrel;have hj:=HJ.out;have e1:=List.cons.inj hj.2.1;have e2:=List.cons.inj e1.2;have e3:=List.cons.inj e2.2;have HE:=am_ (show ((j / 9:Nat):Int) = a/\((j / 3 % 3:Nat):Int) = b/\((j % 3:Nat):Int) = c/\j + gg = 26 from ⟨e1.1,e2.1,e3.1,by have:=HGG.out;omega⟩);clear e1 e2 e3 hj
   rcases HS.out.1 with ⟨rfl,ex,ey,ez⟩ | ⟨rfl,ec,ex,ey,ez⟩ | ⟨rfl,ec,eb,ex,ey,ez⟩ | ⟨rfl,ec,eb,ea,ex,ey,ez⟩
   ·
    obtain ⟨hx,hfx⟩:=HG.out.row.c2;obtain ⟨hh,_⟩:=HG.out.high.c2;obtain ⟨hl,_⟩:=HG.out.low.c2;have HS1:=am_ (⟨ex,ey,ez⟩:x = a/\y = b/\z = c)
    by_cases hz:z = 2
    ·
     have HS2:=am_ (hz.symm.trans ez).symm;subst hz;clear ex ey ez;go_wp2
     go_big_region
     all_goals
      go_wp2
      go_roundg 2
      case measure=>have:=HS.out.2;omega
      case rel=>exact ⟨1,x,y,0,rfl,⟨.inr (.inl ⟨rfl,HS2.out,HS1.out.1,HS1.out.2.1,rfl⟩),by decide⟩,⟨by first | exact (HG.out.s (HG.out.row.s2 0)).drew | exact HG.out.s (HG.out.row.s2 0)⟩⟩
    ·
     have q1:(z == 2) = false:=beq_eq_false_iff_ne.2 hz;have q2:decide (z = 2) = false:=decide_eq_false hz;have HZ:=am_ hz
     have hw:IntKind.i64.wrap (z + 1) = z + 1:=by rw [i64_w,wrap64_in _ (by have:=HE.out;omega) (by have:=HE.out;omega)]
     clear ex ey ez;go_wp2
     go_big_region
     all_goals
      go_wp2
      go_roundg (gg - 1)
      case measure=>have:=HE.out;have:=HGG.out;have:=HS1.out;have:=HZ.out;omega
      case rel =>
       have h1:=HE.out;have h2:=HS1.out;have h3:=HZ.out;refine ⟨j + 1,x,y,z + 1,m1,⟨by omega,?_,HM1.out⟩,⟨by first | exact (HG.out.s (HG.out.row.s2 _)).drew | exact HG.out.s (HG.out.row.s2 _)⟩⟩;unfold trip;rw [show (((j + 1) / 9:Nat):Int) = x by omega,show (((j + 1) / 3 % 3:Nat):Int) = y by omega,show (((j + 1) % 3:Nat):Int) = z + 1 by omega]
   ·
    obtain ⟨hx,hfx⟩:=HG.out.row.c1;obtain ⟨hh,_⟩:=HG.out.high.c1;obtain ⟨hl,_⟩:=HG.out.low.c1;have HS1:=am_ (⟨ex,ey,ez,ec⟩:x = a/\y = b/\z = 0/\c = 2)
    by_cases hz:y = 2
    ·
     have HS2:=am_ (hz.symm.trans ey).symm;subst hz;clear ex ey ez ec;go_wp2
     go_big_region
     all_goals
      go_wp2
      go_roundg 1
      case measure=>have:=HS.out.2;omega
      case rel=>exact ⟨0,x,0,z,rfl,⟨.inr (.inr (.inl ⟨rfl,HS1.out.2.2.2,HS2.out,HS1.out.1,rfl,HS1.out.2.2.1⟩)),by decide⟩,⟨by first | exact (HG.out.s (HG.out.row.s1 0)).drew | exact HG.out.s (HG.out.row.s1 0)⟩⟩
    ·
     have q1:(y == 2) = false:=beq_eq_false_iff_ne.2 hz;have q2:decide (y = 2) = false:=decide_eq_false hz;have HZ:=am_ hz
     have hw:IntKind.i64.wrap (y + 1) = y + 1:=by rw [i64_w,wrap64_in _ (by have:=HE.out;omega) (by have:=HE.out;omega)]
     clear ex ey ez ec;go_wp2
     go_big_region
     all_goals
      go_wp2
      go_roundg (gg - 1)
      case measure=>have:=HE.out;have:=HGG.out;have:=HS1.out;have:=HZ.out;omega
      case rel =>
       have h1:=HE.out;have h2:=HS1.out;have h3:=HZ.out;refine ⟨j + 1,x,y + 1,z,m1,⟨by omega,?_,HM1.out⟩,⟨by first | exact (HG.out.s (HG.out.row.s1 _)).drew | exact HG.out.s (HG.out.row.s1 _)⟩⟩;unfold trip;rw [show (((j + 1) / 9:Nat):Int) = x by omega,show (((j + 1) / 3 % 3:Nat):Int) = y + 1 by omega,show (((j + 1) % 3:Nat):Int) = z by omega]
   ·
    obtain ⟨hx,hfx⟩:=HG.out.row.c0;obtain ⟨hh,_⟩:=HG.out.high.c0;obtain ⟨hl,_⟩:=HG.out.low.c0;have HS1:=am_ (⟨ex,ey,ez,ec,eb⟩:x = a/\y = 0/\z = 0/\c = 2/\b = 2)
    by_cases hz:x = 2
    ·
     have HS2:=am_ (hz.symm.trans ex).symm;subst hz;clear ex ey ez ec eb;go_wp2
     go_big_region
     all_goals
      go_wp2
      go_roundg 0
      case measure=>have:=HS.out.2;omega
      case rel=>exact ⟨-1,0,y,z,rfl,⟨.inr (.inr (.inr ⟨rfl,HS1.out.2.2.2.1,HS1.out.2.2.2.2,HS2.out,rfl,HS1.out.2.1,HS1.out.2.2.1⟩)),by decide⟩,⟨by first | exact (HG.out.s (HG.out.row.s0 0)).drew | exact HG.out.s (HG.out.row.s0 0)⟩⟩
    ·
     have q1:(x == 2) = false:=beq_eq_false_iff_ne.2 hz;have q2:decide (x = 2) = false:=decide_eq_false hz;have HZ:=am_ hz
     have hw:IntKind.i64.wrap (x + 1) = x + 1:=by rw [i64_w,wrap64_in _ (by have:=HE.out;omega) (by have:=HE.out;omega)]
     clear ex ey ez ec eb;go_wp2
     go_big_region
     all_goals
      go_wp2
      go_roundg (gg - 1)
      case measure=>have:=HE.out;have:=HGG.out;have:=HS1.out;have:=HZ.out;omega
      case rel =>
       have h1:=HE.out;have h2:=HS1.out;have h3:=HZ.out;refine ⟨j + 1,x + 1,y,z,m1,⟨by omega,?_,HM1.out⟩,⟨by first | exact (HG.out.s (HG.out.row.s0 _)).drew | exact HG.out.s (HG.out.row.s0 _)⟩⟩;unfold trip;rw [show (((j + 1) / 9:Nat):Int) = x + 1 by omega,show (((j + 1) / 3 % 3:Nat):Int) = y by omega,show (((j + 1) % 3:Nat):Int) = z by omega]
   ·
    have hm:m1 = rd Plain.backT back:=by
     have h1:=HE.out;rw [HM1.out,show j + 1 = 27 by omega,cnt27 H8.out.1 H8.out.2]
    have HM2:=am_ hm;clear ex ey ez ea eb ec hm;go_wp2
    go_big_region
    all_goals
     go_wp2
     refine bodyPost_ret (results_none rfl _ _ _) rfl ?_
     have h3:=HG.out.vars;rw [HM2.out] at h3
     first | exact ⟨rfl,h3.drew⟩ | exact ⟨rfl,h3⟩
theorem Row3.new (w:World):Row3 (w.alloc (.cells (madeCells #[.int .i64 0] 3) 3)) w.heap.size 0 0 0:=by
 have e:madeCells #[Value.int .i64 0] 3 = #[.int .i64 0,.int .i64 0,.int .i64 0]:=(madeN 3).trans rfl;exact ⟨_,blk_new _ _,by rw [e];rfl,by rw [e];rfl,by rw [e];rfl⟩
theorem new2 (w:World) (o o':Obj):((w.alloc o).alloc o').heap[w.heap.size + 1]? = some o':=by
 have hz:(w.alloc o).heap.size = w.heap.size + 1:=by simp
 have hn:=blk_new (w.alloc o) o'
 rwa [hz] at hn
theorem Row3.new2 (w:World) (o:Obj):Row3 ((w.alloc o).alloc (.cells (madeCells #[.int .i64 0] 3) 3)) (w.heap.size + 1) 0 0 0:=by
 have hz:(w.alloc o).heap.size = w.heap.size + 1:=by simp
 have hn:=Row3.new (w.alloc o)
 rwa [hz] at hn
theorem Row3.drew {w:World} {g:Nat} {x y z:Int} (h:Row3 w g x y z):Row3 w.drew g x y z:=h
theorem repeat3 (ad:Addr) (c0:Nat) (w:World) (hx:w.cell? ad = some (.int .i64 2)):Calls Tryz.prog 106 #[.slice (some ad) 1 c0,.int .i64 3] w fun e w'=>(∃ g cap,e = .returned (.slice (some ⟨g,0,none⟩) 3 cap)/\w.heap.size<=g/\3<=cap/\Row3 w' g 2 2 2)/\Below w.heap.size w w':=by
 refine (repeat_any 3 (by decide) (by decide) ad c0 2 w hx).mono ?_
 rintro e w' ⟨v,rfl,hv,hb⟩;obtain ⟨g,cap,rfl,h1,h2,h3⟩:=Row3.of (x:=2) (y:=2) (z:=2) hv;exact ⟨⟨g,cap,rfl,h1,h2,h3⟩,hb⟩
theorem lists_any {w0 w:World} {gN gK gM:Nat} {back:Int} (h0:0<=back) (h8:back<=8) (hV:Vars w0 gN gK gM back 0 w) :
  Calls Tryz.prog 213 #[.int .i64 3,.func (.func 214) #[] #[.pointer (some ⟨gN,0,none⟩),.pointer (some ⟨gK,0,none⟩),.pointer (some ⟨gM,0,none⟩)]] w fun e w'=>e = .returned (.tuple #[])/\Vars w0 gN gK gM back (rd Plain.backT back) w':=by
 have hmk:∀ W:World,(Instr.makeSlice 22 (.int .i64 3) (.int .i64 3)).run Tryz.prog W = .ok (.slice (some ⟨W.heap.size,0,none⟩) 3 3) (W.alloc (.cells (madeCells #[.int .i64 0] 3) 3)):=fun W=>print_make (P:=Tryz.prog) 22 3 .i64 8 Tryz.underlying22 info_int (by decide) 3 (by decide) W;have HV:=am_ hV;have HA:=am_ fun (W:World) (g0 g1 c0 c1:Nat)=>@all_any w0 W gN gK gM g0 g1 c0 c1 back h0 h8;clear h0 h8 hV;go_enter Tryz.func213,Tryz.ntmps213;have HM:=am_ (blk_lt HV.out.bM);go_wp2
 go_region_held3 (fun W:World=>True) (trivial) (first
  | (go_at_call 106;go_loud (refine (repeat3 _ _ _ (by refine (blk_cell (cs:=#[.int .i64 2]) (t:=3) ?_ 0).trans rfl;first | (with_reducible exact blk_drew (blk_new _ _)) | (with_reducible exact blk_drew (blk_alloc (blk_new _ _) _)) | (with_reducible exact blk_drew (new2 _ _ _)))).mono ?_;rintro e w1 ⟨⟨g1,c1,rfl,hg1,hc1,hr1⟩,hb⟩;have HV1:Aside0 (Vars w0 gN gK gM back 0 w1):=⟨Vars.after (by with_reducible first | exact (HV.out.alloc _).drew | exact ((HV.out.alloc _).alloc _).drew) hb⟩;have HR1:=am_ hr1;have HC1:=am_ hc1;have HM1:Aside0 (gM < w1.heap.size/\g1 ≠ gM):=⟨by have h1:=HM.out;have h2:=hb.size;simp at h2 hg1;omega⟩;(try (have HL1:Aside0 (Row3 w1 w.heap.size 0 0 0):=⟨Row3.after (by with_reducible exact Row3.drew ((Row3.new w).alloc _)) hb⟩));(try (have HL2:Aside0 (Row3 w1 (w.heap.size + 1) 0 0 0):=⟨Row3.after (by with_reducible exact Row3.drew (Row3.new2 w _)) hb⟩));clear hr1 hc1 hg1 hb))
  | (go_at_call 240;go_loud (first
    | refine (HA.out _ _ _ _ _ HV1.out HL1.out HR1.out ⟨Nat.ne_of_gt HM.out,HM1.out.2⟩ (by decide) HC1.out).mono ?_
    | refine (HA.out _ _ _ _ _ HV1.out HL2.out HR1.out ⟨Nat.ne_of_gt (Nat.lt_succ_of_lt HM.out),HM1.out.2⟩ (by decide) HC1.out).mono ?_
    | refine (HA.out _ _ _ _ _ (HV1.out.alloc _) (Row3.new w1) (HR1.out.alloc _) ⟨Nat.ne_of_gt HM1.out.1,HM1.out.2⟩ (by decide) HC1.out).mono ?_);rintro e w2 ⟨rfl,hV2⟩;have HV2:=am_ hV2;clear hV2))
 all_goals
  go_wp2
  go_end0
  first | exact ⟨rfl,HV2.out⟩ | exact ⟨rfl,HV2.out.drew⟩
theorem Vars.start (w:World) (back:Int):Vars w w.heap.size (w.heap.size + 1) (w.heap.size + 2) back 0 (((w.alloc (.cells #[.int .i64 3] 3)).alloc (.cells #[.int .i64 back] 3)).alloc (.cells #[.int .i64 0] 3)):=by
 have h1:=new2 w (.cells #[.int .i64 3] 3) (.cells #[.int .i64 back] 3);have hn:=blk_new ((w.alloc (.cells #[.int .i64 3] 3)).alloc (.cells #[.int .i64 back] 3)) (.cells #[.int .i64 0] 3)
 have hz:((w.alloc (.cells #[.int .i64 3] 3)).alloc (.cells #[.int .i64 back] 3)).heap.size = w.heap.size + 2:=by simp
 rw [hz] at hn;exact ⟨below_alloc (below_alloc (below_alloc (Below.refl _ _) _) _) _,blk_alloc (blk_alloc (blk_new w _) _) _,blk_alloc h1 _,hn,⟨by omega,by omega,by omega⟩⟩
theorem isTried_3 (w:World):Calls Tryz.prog 211 #[.int .i64 3] w fun e w'=>e = .returned (.bool true)/\Drawn0 w w':=impl_isTried.calls 3 true w rfl
theorem isBack_i (n:Int) (w:World):Calls Tryz.prog 212 #[.int .i64 n] w fun e w'=>e = .returned (.bool (decide (0<=n/\n<=8)))/\Drawn0 w w':=impl_isBack.calls n _ w (by
 unfold impl_isBack.f impl_between.f
 by_cases h:0<=n/\n<=8
 · simp [h]
 · simp [h];omega)
theorem back_any (n:Int) (hn:0<=n) (w:World):Calls Tryz.prog 152 #[.int .i64 3,.int .i64 n] w (GotNum (Plain.backL n) w):=by
 have hi:=isBack_i n;have HT:=am_ isTried_3
 by_cases h:0<=n/\n<=8
 ·
  rw [decide_eq_true h] at hi;have HI:=am_ hi;have HV:=am_ (Vars.start w n);have HL:=am_ fun (W:World)=>@lists_any w W w.heap.size (w.heap.size + 1) (w.heap.size + 2) n h.1 h.2;rw [show Plain.backL n = some (rd Plain.backT n) by unfold Plain.backL;rw [if_pos h]]
  obtain ⟨r,hr⟩:∃ r,r = rd Plain.backT n:=⟨_,rfl⟩
  rw [<- hr] at HL ⊢;have hcN:((w.alloc (.cells #[.int .i64 3] 3)).alloc (.cells #[.int .i64 n] 3)).cell? ⟨w.heap.size,0,none⟩ = some (.int .i64 3):=(blk_cell (blk_alloc (blk_new w _) _) 0).trans rfl;have hcK:((w.alloc (.cells #[.int .i64 3] 3)).alloc (.cells #[.int .i64 n] 3)).cell? ⟨w.heap.size + 1,0,none⟩ = some (.int .i64 n):=(blk_cell (new2 w _ _) 0).trans rfl;have hcV:=HV.out.cN;clear h hi hr hn;go_enter Tryz.func152,Tryz.ntmps152
  go_wp2_with (first
   | (go_at_call 211;go_loud (refine (HT.out _).mono ?_;rintro e w1 ⟨rfl,⟨q,rfl⟩⟩))
   | (go_at_call 212;go_loud (refine (HI.out _).mono ?_;rintro e w1 ⟨rfl,⟨q,rfl⟩⟩))
   | (go_at_call 213;go_loud (refine (HL.out _ (by first | exact HV.out.drewN _ | exact (HV.out.drewN _).drewN _)).mono ?_;rintro e w2 ⟨rfl,hV⟩;have HV2:=am_ hV;obtain ⟨hcM,hfM⟩:=hV.cM;clear hV)))
  go_ret2;exact ⟨_,rfl,fun m h=>Option.some.inj h,HV2.out.below⟩
 ·
  rw [decide_eq_false h] at hi;have HI:=am_ hi;rw [show Plain.backL n = none by unfold Plain.backL;rw [if_neg h]];have hcN:((w.alloc (.cells #[.int .i64 3] 3)).alloc (.cells #[.int .i64 n] 3)).cell? ⟨w.heap.size,0,none⟩ = some (.int .i64 3):=(blk_cell (blk_alloc (blk_new w _) _) 0).trans rfl;have hcK:((w.alloc (.cells #[.int .i64 3] 3)).alloc (.cells #[.int .i64 n] 3)).cell? ⟨w.heap.size + 1,0,none⟩ = some (.int .i64 n):=(blk_cell (new2 w _ _) 0).trans rfl;have HB:=am_ (below_alloc (below_alloc (Below.refl w.heap.size w) (.cells #[.int .i64 3] 3)) (.cells #[.int .i64 n] 3));clear h hi hn;go_enter Tryz.func152,Tryz.ntmps152
  go_wp2_with (first
   | (go_at_call 211;go_loud (refine (HT.out _).mono ?_;rintro e w1 ⟨rfl,⟨q,rfl⟩⟩))
   | (go_at_call 212;go_loud (refine (HI.out _).mono ?_;rintro e w1 ⟨rfl,⟨q,rfl⟩⟩)))
  go_ret2;exact ⟨_,rfl,fun m h=>(by cases h),by first | exact pw_below_drewN HB.out _ | exact pw_below_drewN (pw_below_drewN HB.out _) _⟩
end Go.Proofs.YtjdlhefjgceabaaGreatDoor.Hand
namespace Go.Proofs.YtjdlhefjgceabaaGreatDoor.Hand
open Go.RowKit Go.Proofs.YtjdlhefjgceabaaGreatDoorW.PrintWords Go.Proofs.YtjdlhefjgceabaaGreatDoorW.PrintLast Go.Proofs.YtjdlhefjgceabaaGreatDoorW.PrintMore Go.Proofs.YtjdlhefjgceabaaGreatDoor.PAll
set_option linter.unusedVariables false
section
variable {w w':World} {e:Ending}
theorem got_list {o:Option (List Int)} (h:∃ v0_,e = .returned (.tuple #[v0_,.bool (Plain.rowO o).2])/\Kd.R (Kd.int .i64) 3 w' w.heap.size (fun _=>True) v0_ (Plain.rowO o).1/\Below w.heap.size w w'):GotList o w e w':=by
 obtain ⟨v,rfl,h1,h2⟩:=h;exact ⟨v,_,rfl,h1,fun m hm=>by subst hm;rfl,h2⟩
theorem got_num {o:Option Int} (h:e = .returned (.tuple #[.int .i64 (Plain.numO o).1,.bool (Plain.numO o).2])/\Below w.heap.size w w'):GotNum o w e w':=by
 obtain ⟨rfl,h2⟩:=h;exact ⟨_,rfl,fun m hm=>by subst hm;rfl,h2⟩
theorem got_table {o:Option (List Int)} (h:∃ v0_,e = .returned (.tuple #[.agg #[v0_],.bool (Plain.rowO o).2])/\Kd.R (Kd.int .i64) 3 w' w.heap.size (fun _=>True) v0_ (Plain.rowO o).1/\Below w.heap.size w w'):GotTable o w e w':=by
 obtain ⟨v,rfl,h1,h2⟩:=h;exact ⟨v,_,rfl,h1,fun m hm=>by subst hm;rfl,h2⟩
theorem got_find {o:Option (Int × Int)} (h:e = .returned (.tuple #[.int .i64 (Plain.findO o).1,.int .i64 (Plain.findO o).2.1,.bool (Plain.findO o).2.2])/\Below w.heap.size w w'):GotFind o w e w':=by
 obtain ⟨rfl,h2⟩:=h;exact ⟨_,_,rfl,fun m hm=>by subst hm;rfl,h2⟩
theorem got_class {l:List Int} (h:∃ v0_,e = .returned (.tuple #[v0_,.int .i64 (Plain.clsR l).2.1,.bool (Plain.clsR l).2.2])/\Kd.R (Kd.int .i64) 3 w' w.heap.size (fun _=>True) v0_ (Plain.clsR l).1/\Below w.heap.size w w'):GotClass (Plain.clsO l) w e w':=by
 obtain ⟨v,rfl,h1,h2⟩:=h;exact ⟨v,_,_,rfl,h1,fun m hm=>by unfold Plain.clsR;rw [hm];rfl,h2⟩
theorem got_ins {t:List Int} (ht:Plain.table t = true) {n:Int} (h:∃ v0_,e = .returned (.tuple #[.agg #[v0_],.int .i64 (Plain.insO (Plain.insL t n)).2.1,.bool (Plain.insO (Plain.insL t n)).2.2])/\Kd.R (Kd.int .i64) 3 w' w.heap.size (fun _=>True) v0_ (Plain.insO (Plain.insL t n)).1/\Below w.heap.size w w'):GotIns (Plain.insL t n) w e w':=by
 obtain ⟨v,rfl,h1,h2⟩:=h;refine ⟨v,_,_,rfl,h1,fun m hm=>by rw [hm];rfl,?_,h2⟩
 cases hq:Plain.insL t n with
 | none=>decide
 | some m=>exact (Plain.ins_ok ht (t':=m.1) (a:=m.2) hq).2
theorem got_below {r:Value} (h:e = .returned r/\Drawn0 w w'):e = .returned r/\Below w.heap.size w w':=⟨h.1,h.2.below⟩
end
theorem impl_ok:ImplOk Plain.dom where
 isPark A c l w hL _:=by
  obtain ⟨k,hk⟩:=Plain.isParking_ev l;exact impl_isParking.calls k A c l _ w hL.1 hL.2 (hk k (Nat.le_refl _))
 next A c l w hL hp:=by
  obtain ⟨k,hk⟩:=Plain.implNext_ev hp;exact (impl_NextParking.calls k A c l _ _ w hL.1 hL.2 (hk k (Nat.le_refl _))).mono fun e w' h=>got_list h
 at_ n r w _ _ _ _:=by
  obtain ⟨k,hk⟩:=Plain.implAt_ev n r;exact (impl_ParkingAt.calls k n r _ _ w (hk k (Nat.le_refl _))).mono fun e w' h=>got_list h
 cars A c l own w hL hp ho:=by
  subst ho;obtain ⟨k,hk⟩:=Plain.implCars_ev hp;exact (impl_DriveCars.calls k A c l _ _ _ w hL.1 hL.2 (hk k (Nat.le_refl _))).mono fun e w' h=>got_list (o:=some (Plain.sdrive (l.length:Int) [] l)) h
 far A c l own w hL hp ho:=by
  subst ho;obtain ⟨k,hk⟩:=Plain.implFar_ev hp;exact (impl_DistancesOf.calls k A c l _ _ _ w hL.1 hL.2 (hk k (Nat.le_refl _))).mono fun e w' h=>got_list (o:=some (Plain.dists l)) h
 cuts A c l w hL hp:=by
  obtain ⟨k,hk⟩:=Plain.implCuts_ev hp;exact (impl_CutsOf.calls k A c l _ _ w hL.1 hL.2 (hk k (Nat.le_refl _))).mono fun e w' h=>got_list (o:=some (Plain.cutsL l)) h
 rank A c l w hL hp:=by
  obtain ⟨k,hk⟩:=Plain.implRankParking_ev hp;exact (impl_RankParking.calls k A c l _ _ w hL.1 hL.2 (hk k (Nat.le_refl _))).mono fun e w' h=>got_num (o:=some (Plain.rankL l)) h
 join A c l A' c' m w hL hM hp _:=by
  obtain ⟨k,hk⟩:=Plain.implJoin_ev hp m;exact (impl_JoinParking.calls k A c l A' c' m _ _ w hL.1 hL.2 hM.1 hM.2 (hk k (Nat.le_refl _))).mono fun e w' h=>got_list h
 cls A c l w hL _:=by
  obtain ⟨k,hk⟩:=Plain.implCls_ev l;exact (impl_ParkingOfClass.calls k A c l _ _ _ w hL.1 hL.2 (hk k (Nat.le_refl _))).mono fun e w' h=>got_class h
 count n w _ _:=by
  obtain ⟨k,hk⟩:=Plain.implCount_ev n;exact (impl_CountParking.calls k n _ _ w (hk k (Nat.le_refl _))).mono fun e w' h=>got_num h
 back n w h0 _:=back_any n h0 w
 empty n w _ _:=emptyT_any n w
 ins A c t n w hL ht _ _:=by
  obtain ⟨k,hk⟩:=Plain.implInsert_ev ht n;exact (impl_InsertKey.calls k A c t n _ _ _ w hL.1 hL.2 (hk k (Nat.le_refl _))).mono fun e w' h=>got_ins ht h
 rem A c t n w hL ht _ _:=rem_any ht w hL
 find A c t n w hL ht _ _:=by
  obtain ⟨k,hk⟩:=Plain.implFind_ev ht n;exact (impl_FindKey.calls k A c t n _ _ _ w hL.1 hL.2 (hk k (Nat.le_refl _))).mono fun e w' h=>got_find h
 cost A c t w hL ht:=costOf_any ht w hL
theorem tab_in {t:List Int} (ht:Plain.table t = true):t.length<=12/\∀ x ∈ t,-1<=x/\x<=999:=Plain.dom_good.tab t ht
theorem spec_ok:SpecOk Plain.dom where
 split32 s w hs:=by
  obtain ⟨k,hk⟩:=Plain.split_ev s 32 (by omega);exact spec_l1Split.calls k s _ _ w (hk k (Nat.le_refl _))
 split10 s w hs:=by
  obtain ⟨k,hk⟩:=Plain.split_ev s 10 (by omega);exact spec_l1Split.calls k s _ _ w (hk k (Nat.le_refl _))
 shape s w:=by
  obtain ⟨k,hk⟩:=Plain.shape_ev s;exact (spec_coShape.calls k s _ w (hk k (Nat.le_refl _))).mono fun e w' h=>got_below h
 read s w hs:=by
  obtain ⟨k,hk⟩:=Plain.read_ev s;exact (spec_l1Read.calls k s _ w (hk k (Nat.le_refl _))).mono fun e w' h=>got_below h
 parse s w hs:=by
  obtain ⟨k,hk⟩:=Plain.coParse_ev s (by omega);exact (spec_coParse.calls k s _ _ w (hk k (Nat.le_refl _))).mono fun e w' h=>got_list (o:=told s) h
 park A c l w hL _:=by
  obtain ⟨k,hk⟩:=Plain.paParking_ev l;exact spec_paParking.calls k A c l _ w hL.1 hL.2 (hk k (Nat.le_refl _))
 next A c l w hL hp:=by
  obtain ⟨k,hk⟩:=Plain.specNext_ev hp;exact (spec_NextParking.calls k A c l _ _ w hL.1 hL.2 (hk k (Nat.le_refl _))).mono fun e w' h=>got_list h
 at_ n r w _ _ _ _:=by
  obtain ⟨k,hk⟩:=Plain.specAt_ev n r;exact (spec_ParkingAt.calls k n r _ _ w (hk k (Nat.le_refl _))).mono fun e w' h=>got_list h
 join A c l A' c' m w hL hM hp _:=by
  obtain ⟨k,hk⟩:=Plain.specJoin_ev hp m;exact (spec_JoinParking.calls k A c l A' c' m _ _ w hL.1 hL.2 hM.1 hM.2 (hk k (Nat.le_refl _))).mono fun e w' h=>got_list h
 empty n w _ _:=by
  obtain ⟨k,hk⟩:=Plain.specEmpty_ev n;exact (spec_EmptyTable.calls k n _ _ w (hk k (Nat.le_refl _))).mono fun e w' h=>got_table h
 ins A c t n w hL ht _ _:=by
  obtain ⟨k,hk⟩:=Plain.specInsert_ev ht n;exact (spec_InsertKey.calls k A c t n _ _ _ w hL.1 hL.2 (hk k (Nat.le_refl _))).mono fun e w' h=>got_ins ht h
 rem A c t n w hL ht _ _:=srem_any ht w hL
 num n w h0 h:=num_any n w h0 h
 text A c l w hL hf hp:=text_spec A c l w hL hf hp
 cars A c l w hL hp:=by
  obtain ⟨k,hk⟩:=Plain.specCars_ev hp;exact spec_paDrive.calls k A c l _ _ w hL.1 hL.2 (hk k (Nat.le_refl _))
 far A c l w hL hp:=by
  obtain ⟨k,hk⟩:=Plain.specFar_ev hp;exact spec_paDistances.calls k A c l _ _ w hL.1 hL.2 (hk k (Nat.le_refl _))
 cuts A c l w hL hp:=by
  obtain ⟨k,hk⟩:=Plain.paCuts_ev l (by have:=Plain.parking_cars hp;omega);exact spec_paCuts.calls k A c l _ w hL.1 hL.2 (hk k (Nat.le_refl _))
 rank A c l w hL hp:=by
  obtain ⟨k,hk⟩:=Plain.specRank_ev hp;exact (spec_RankParking.calls k A c l _ _ w hL.1 hL.2 (hk k (Nat.le_refl _))).mono fun e w' h=>got_num (o:=some (Plain.rankL l)) h
 count n w _ _:=by
  obtain ⟨k,hk⟩:=Plain.specCount_ev n;exact (spec_CountParking.calls k n _ _ w (hk k (Nat.le_refl _))).mono fun e w' h=>got_num (got_below h)
 back n w _ _:=by
  obtain ⟨k,hk⟩:=Plain.specBack_ev n;exact (spec_CountBack.calls k 3 n _ _ w (hk k (Nat.le_refl _))).mono fun e w' h=>got_num h
 cls A c l w hL _:=by
  obtain ⟨k,hk⟩:=Plain.specCls_ev l;exact (spec_ParkingOfClass.calls k A c l _ _ _ w hL.1 hL.2 (hk k (Nat.le_refl _))).mono fun e w' h=>got_class h
 cost A c t w hL ht:=by
  obtain ⟨k,hk⟩:=Plain.specCostOf_ev ht;exact (spec_CostOf.calls k A c t _ _ w hL.1 hL.2 (hk k (Nat.le_refl _))).mono fun e w' h=>got_num (o:=some (Plain.costL t)) h
 find A c t n w hL ht _ _:=by
  obtain ⟨k,hk⟩:=Plain.specFind_ev ht n;exact (spec_FindKey.calls k A c t n _ _ _ w hL.1 hL.2 (hk k (Nat.le_refl _))).mono fun e w' h=>got_find h
 table A c t w hL ht:=table_spec A c t w hL (by have:=tab_in ht;omega) (tab_in ht).2
set_option linter.unusedSimpArgs false
set_option maxRecDepth 100000
set_option maxHeartbeats 1000000
theorem bq_ {P:Prop} (h:P:=by repeat (first | exact Below.refl _ _ | apply below_drew1 | apply pw_below_drewN | refine below_set ?_ (Nat.le_refl _) | apply below_alloc)):P:=h
section
variable {w W:World} {b i j:Nat} {a:Addr} {v u x:Value}
theorem ka_ (h:w.cell? a = some v) (o:Obj):(w.alloc o).cell? a = some v:=cell_b h (below_alloc (Below.refl _ _) _)
theorem kb_ (h:w.cell? a = some v) (o:Obj):((w.alloc o).setCell ⟨w.heap.size,i,none⟩ u).cell? a = some v:=cell_b h (below_set (below_alloc (Below.refl _ _) _) (Nat.le_refl _))
theorem kc_ (h:w.cell? a = some v) (o:Obj):(((w.alloc o).setCell ⟨w.heap.size,i,none⟩ u).setCell ⟨w.heap.size,j,none⟩ x).cell? a = some v:=cell_b h (below_set (below_set (below_alloc (Below.refl _ _) _) (Nat.le_refl _)) (Nat.le_refl _))
theorem kd_ (h:w.cell? a = some v) (hb:Aside0 (Below w.heap.size w W)):(W.setCell ⟨w.heap.size,i,none⟩ u).cell? a = some v:=cell_b h (below_set hb.out (Nat.le_refl _))
theorem ke_ (h:w.cell? a = some v) (hb:Aside0 (Below w.heap.size w W)):((W.setCell ⟨w.heap.size,i,none⟩ u).setCell ⟨w.heap.size,j,none⟩ x).cell? a = some v:=cell_b h (below_set (below_set hb.out (Nat.le_refl _)) (Nat.le_refl _))
end
theorem own_desk {l t:List Int} (hl:l.length<=2000000) (ht:t.length<=2000000) (w:World) (A:Option Addr) (c:Nat) (A':Option Addr) (c':Nat) (h0:Lst w A c l) (h1:Lst w A' c' t):Calls Tryz.prog 41 #[.agg #[.slice A l.length c,.slice A' t.length c']] w (GotDesk l t w):=by
 have b1:=below_alloc (Below.refl w.heap.size w) (.cells #[.slice A l.length c,.slice A' t.length c'] 36);have k1:(w.alloc (.cells #[.slice A l.length c,.slice A' t.length c'] 36)).heap[w.heap.size]? = some (.cells #[.slice A l.length c,.slice A' t.length c'] 36 (0,0)):=blk_new _ _
 have z1:(w.alloc (.cells #[.slice A l.length c,.slice A' t.length c'] 36)).heap.size = w.heap.size + 1:=by simp
 obtain ⟨Wb,hWb⟩:∃ W,W = (w.alloc (.cells #[.slice A l.length c,.slice A' t.length c'] 36)).alloc (.cells #[.slice none 0 0,.slice none 0 0] 36):=⟨_,rfl⟩
 have HW:=am_ hWb;have HKB:=am_ (show Wb.heap[w.heap.size]? = some (.cells #[.slice A l.length c,.slice A' t.length c'] 36 (0,0)) by rw [hWb];exact blk_alloc k1 _);have HKR:=am_ (show Wb.heap[w.heap.size + 1]? = some (.cells #[.slice none 0 0,.slice none 0 0] 36 (0,0)) by rw [hWb,<- z1];exact blk_new _ _);have HB:=am_ (show Below w.heap.size w Wb by rw [hWb];exact below_alloc b1 _);have HL0:=am_ (h0.below HB.out);have HL1:=am_ (h1.below HB.out);have HO0:=am_ fun (W:World) (h:Lst W A c l)=>spec_l1Own.calls A c l l W h.1 h.2 (Plain.own_eq l (by omega));have HO1:=am_ fun (W:World) (h:Lst W A' c' t)=>spec_l1Own.calls A' c' t t W h.1 h.2 (Plain.own_eq t (by omega));have hu36:=Tryz.underlying36;have hu34:=Tryz.underlying34;have r0:Wb.cell? ⟨w.heap.size,0,none⟩ = some (.slice A l.length c):=blk_cell HKB.out 0;have r1:Wb.cell? ⟨w.heap.size,1,none⟩ = some (.slice A' t.length c'):=blk_cell HKB.out 1;clear h0 h1 hl ht b1 k1 z1 hWb;go_enter Tryz.func41,Tryz.ntmps41;go_wp2;rw [<- HW.out]
 go_region_held3 (fun W:World=>W.cell? ⟨w.heap.size,0,none⟩ = some (.slice A l.length c)/\W.cell? ⟨w.heap.size,1,none⟩ = some (.slice A' t.length c')) (first | exact ⟨s0,s1⟩ | exact ⟨blk_cell (blk_far (blk_far QB.out (Nat.ne_of_lt (Nat.lt_succ_self _)) _) (Nat.ne_of_lt (Nat.lt_succ_self _)) _) 0,blk_cell (blk_far (blk_far QB.out (Nat.ne_of_lt (Nat.lt_succ_self _)) _) (Nat.ne_of_lt (Nat.lt_succ_self _)) _) 1⟩ | exact ⟨q0,q3⟩ | exact ⟨r0,r1⟩)
  (first
   | (go_at_call 70;refine (HO0.out _ (HL0.out.below bq_)).mono ?_;rintro e w2 ⟨v2,rfl,hr,hb⟩;obtain ⟨B0,d0,rfl⟩:=Kd.R_slice hr;have hb2:=below_step (show Below Wb.heap.size Wb _ from bq_) hb;have HR0:=am_ (Kd.R_lower hr (below_size (below_step HB.out (show Below Wb.heap.size Wb _ from bq_))));have HB2:=am_ (below_step HB.out hb2);replace HKR:=am_ (blk_below HKR.out hb2);replace HKB:=am_ (blk_below HKB.out hb2);replace HL1:=am_ (HL1.out.below hb2);have q0:=cell_b r0 hb2;have q3:=cell_b r1 hb2;clear hr hb hb2)
   | (go_at_call 70;refine (HO1.out _ (HL1.out.below bq_)).mono ?_;rintro e w3 ⟨v3,rfl,hr,hb⟩;obtain ⟨B1,d1,rfl⟩:=Kd.R_slice hr;have hb2:=below_step (show Below w2.heap.size w2 _ from bq_) hb;have HNE:=am_ (show NeRow (.slice B0 l.length d0) (.slice B1 t.length d1) from fun k h5 h6=>Nat.lt_irrefl k (Nat.lt_of_lt_of_le (Kd.R_lt HR0.out k h5) (Kd.R_base hr k h6)));have HR1:=am_ (Kd.R_lower hr (below_size (below_step HB2.out (show Below w2.heap.size w2 _ from bq_))));replace HR0:=am_ (Kd.R_below HR0.out hb2);replace HB2:=am_ (below_step HB2.out hb2);replace HKR:=am_ (blk_below HKR.out hb2);have QB:=am_ (blk_below HKB.out hb2);have s0:=cell_b q0 hb2;have s1:=cell_b q3 hb2;have p0:=blk_cell HKR.out 0;have p1:=blk_cell HKR.out 1;have f0:=blk_frozen HKR.out 0;have f1:=blk_frozen HKR.out 1;clear hr hb hb2))
 go_wp2;exact bodyPost_ret (v:=.agg #[.slice B0 l.length d0,.slice B1 t.length d1]) (by simp [results,Tryz.results41,go_sem,p0,p1]) rfl ⟨_,_,rfl,set2 HKR.out HR0.out (by decide),set2 HKR.out HR1.out (by decide),HNE.out,below_set (below_set HB2.out (Nat.le_succ _)) (Nat.le_succ _)⟩
end Go.Proofs.YtjdlhefjgceabaaGreatDoor.Hand
namespace Go.Proofs.YtjdlhefjgceabaaGreatDoor.Hand
open Go.RowKit Go.Proofs.YtjdlhefjgceabaaGreatDoorW.PrintWords Go.Proofs.YtjdlhefjgceabaaGreatDoorW.PrintLast Go.Proofs.YtjdlhefjgceabaaGreatDoorW.PrintMore
set_option linter.unusedVariables false
set_option linter.unusedSimpArgs false
def lineP (F:Fns) (l t:List Int) (s:ByteArray):Option Res:=if F.park l = true/\F.tab t = true/\s.size<=3000/\Lib.countB s ⟨#[10]⟩ = 0 then some (executeP F l t s) else none
def noRes:Res:=⟨[],[],⟨#[]⟩⟩
def GotLine (o:Option Res) (w:World) (e:Ending) (w':World):Prop:=∃ v0 v1,e = .returned (.tuple #[.agg #[v0,v1],.string (o.getD noRes).r,.bool o.isSome])/\Kd.R (Kd.int .i64) 3 w' w.heap.size (fun _=>True) v0 (o.getD noRes).l/\Kd.R (Kd.int .i64) 3 w' w.heap.size (fun _=>True) v1 (o.getD noRes).t/\NeRow v0 v1/\Below w.heap.size w w'
open Go.Proofs.YtjdlhefjgceabaaGreatDoor.PAll
set_option maxRecDepth 100000
set_option maxHeartbeats 1000000
theorem spec_line_bad {F:Fns} (hS:SpecOk F) (g:Bool) (l t:List Int) (A:Option Addr) (c:Nat) (A':Option Addr) (c':Nat) (s:ByteArray) (w:World) (h0:Lst w A c l) (h1:Lst w A' c' t)
  (hC:∀ W,Lst W A c l->Lst W A' c' t->Calls Tryz.prog 47 #[.agg #[.slice A l.length c,.slice A' t.length c']] W fun e w'=>e = .returned (.bool g)/\Below W.heap.size W w')
  (hq:g = false \/ g = true/\decide ((s.size:Int) > 3000) = true \/ g = true/\decide ((s.size:Int) > 3000) = false/\s.size<=2000000/\0 < Lib.countB s ⟨#[10]⟩) :
  Calls Tryz.prog 25 #[.agg #[.slice A l.length c,.slice A' t.length c'],.string s] w (GotLine none w):=by
 have b1:=below_alloc (Below.refl w.heap.size w) (.cells #[.slice A l.length c,.slice A' t.length c'] 36)
 have z1:(w.alloc (.cells #[.slice A l.length c,.slice A' t.length c'] 36)).heap.size = w.heap.size + 1:=by simp
 obtain ⟨Wb,hWb⟩:∃ W,W = (w.alloc (.cells #[.slice A l.length c,.slice A' t.length c'] 36)).alloc (.cells #[.slice none 0 0,.slice none 0 0] 36):=⟨_,rfl⟩
 have HW:=am_ hWb;have HKR:=am_ (show Wb.heap[w.heap.size + 1]? = some (.cells #[.slice none 0 0,.slice none 0 0] 36 (0,0)) by rw [hWb,<- z1];exact blk_new _ _);have HWB:=am_ (show Below w.heap.size w Wb by rw [hWb];exact below_alloc b1 _);have HGD:=am_ (hC Wb (h0.below HWB.out) (h1.below HWB.out));have HSP:=am_ fun W (hs:s.size<=2000000)=>hS.split10 s W hs;have HPL:=am_ (pieces_length s 10);clear h0 h1 hC hS b1 z1 hWb
 rcases hq with rfl | ⟨rfl,q1⟩ | ⟨rfl,q1,hs,q2⟩
 rotate_left
 rotate_left
 ·
  have HSZ:=am_ hs;replace q2:decide (1 < ((Lib.countB s ⟨#[10]⟩:Nat):Int) + 1) = true:=decide_eq_true (by omega);clear hs;go_enter Tryz.func25,Tryz.ntmps25
  go_wp2_with (first
   | (go_at_call 47;go_loud (rw [<- HW.out];refine HGD.out.mono ?_;rintro e w1 ⟨rfl,hb⟩;have HB:=am_ (below_step HWB.out hb);replace HKR:=am_ (blk_below HKR.out hb);clear hb))
   | (go_at_call 48;go_loud (refine (HSP.out _ HSZ.out).mono ?_;rintro e w2 ⟨v2,rfl,hr,hb⟩;obtain ⟨A2,c2,rfl⟩:=Kd.R_slice hr;rw [HPL.out];have HF:=am_ (below_step HB.out hb);have hk:=blk_below HKR.out hb;have p0:=blk_cell hk 0;have p1:=blk_cell hk 1;have f0:=blk_frozen hk 0;have f1:=blk_frozen hk 1;clear hr hb hk)))
  exact bodyPost_ret (v:=.tuple #[.agg #[.slice none 0 0,.slice none 0 0],.string ⟨#[]⟩,.bool false]) (by simp [results,Tryz.results25,go_sem,p0,p1]) rfl ⟨_,_,rfl,Kd.R_nil _ _ _ _ _,Kd.R_nil _ _ _ _ _,fun k h=>(by cases h),below_set (below_set HF.out (Nat.le_succ _)) (Nat.le_succ _)⟩
 all_goals
  go_enter Tryz.func25,Tryz.ntmps25
  go_wp2_with (go_at_call 47;go_loud (rw [<- HW.out];refine HGD.out.mono ?_;rintro e w1 ⟨rfl,hb⟩;have HF:=am_ (below_step HWB.out hb);have hk:=blk_below HKR.out hb;have p0:=blk_cell hk 0;have p1:=blk_cell hk 1;have f0:=blk_frozen hk 0;have f1:=blk_frozen hk 1;clear hb hk))
  exact bodyPost_ret (v:=.tuple #[.agg #[.slice none 0 0,.slice none 0 0],.string ⟨#[]⟩,.bool false]) (by simp [results,Tryz.results25,go_sem,p0,p1]) rfl ⟨_,_,rfl,Kd.R_nil _ _ _ _ _,Kd.R_nil _ _ _ _ _,fun k h=>(by cases h),below_set (below_set HF.out (Nat.le_succ _)) (Nat.le_succ _)⟩
theorem spec_line_ok {F:Fns} {B:Nat} {l t:List Int} {A:Option Addr} {c:Nat} {A':Option Addr} {c':Nat} {w:World} (h:StepOn F B l t A c A' c' w) (s:ByteArray)
  (hC:∀ W,Lst W A c l->Lst W A' c' t->Calls Tryz.prog 47 #[.agg #[.slice A l.length c,.slice A' t.length c']] W fun e w'=>e = .returned (.bool true)/\Below W.heap.size W w')
  (hs:s.size<=3000) (hn:Lib.countB s ⟨#[10]⟩ = 0) :
  Calls Tryz.prog 25 #[.agg #[.slice A l.length c,.slice A' t.length c'],.string s] w (GotLine (some (executeP F l t s)) w):=by
 have b1:=below_alloc (Below.refl w.heap.size w) (.cells #[.slice A l.length c,.slice A' t.length c'] 36);have k1:(w.alloc (.cells #[.slice A l.length c,.slice A' t.length c'] 36)).heap[w.heap.size]? = some (.cells #[.slice A l.length c,.slice A' t.length c'] 36 (0,0)):=blk_new _ _
 have z1:(w.alloc (.cells #[.slice A l.length c,.slice A' t.length c'] 36)).heap.size = w.heap.size + 1:=by simp
 obtain ⟨Wb,hWb⟩:∃ W,W = (w.alloc (.cells #[.slice A l.length c,.slice A' t.length c'] 36)).alloc (.cells #[.slice none 0 0,.slice none 0 0] 36):=⟨_,rfl⟩
 have HW:=am_ hWb;have HKB:=am_ (show Wb.heap[w.heap.size]? = some (.cells #[.slice A l.length c,.slice A' t.length c'] 36 (0,0)) by rw [hWb];exact blk_alloc k1 _);have HKR:=am_ (show Wb.heap[w.heap.size + 1]? = some (.cells #[.slice none 0 0,.slice none 0 0] 36 (0,0)) by rw [hWb,<- z1];exact blk_new _ _);have HWB:=am_ (show Below w.heap.size w Wb by rw [hWb];exact below_alloc b1 _);have HON:=am_ (h.below HWB.out);have HGD:=am_ (hC Wb ⟨(Kd.R_reads' HON.out.list).2.2,(Kd.R_reads' HON.out.list).2.1⟩ ⟨(Kd.R_reads' HON.out.table).2.2,(Kd.R_reads' HON.out.table).2.1⟩);have HSP:=am_ fun W=>h.spec.split10 s W (by omega);have HPL:=am_ (show (pieces s 10).length = 1 by rw [pieces_length,hn]);have q1:decide ((s.size:Int) > 3000) = false:=decide_eq_false (by omega);have HSZ:=am_ hs
 obtain ⟨x,hx⟩:∃ x,x = executeP F l t s:=⟨_,rfl⟩
 have hxl:=executeP_ok h.good h.park h.tab s;rw [<- hx] at hxl;have HO:=am_ (own_desk (l:=x.l) (t:=x.t) (by have:=(h.good.park _ hxl.1).1;omega) (by have:=(h.good.tab _ hxl.2).1;omega));have HX:=am_ hx;rw [<- hx];clear h hC hs hn b1 k1 z1 hWb hx hxl;go_enter Tryz.func25,Tryz.ntmps25
 go_wp2_with (first
  | (go_at_call 47;go_loud (rw [<- HW.out];refine HGD.out.mono ?_;rintro e w1 ⟨rfl,hb⟩;have HB:=am_ (below_step HWB.out hb);replace HKR:=am_ (blk_below HKR.out hb);replace HKB:=am_ (blk_below HKB.out hb);replace HON:=am_ (HON.out.below hb);clear hb))
  | (go_at_call 48;go_loud (refine (HSP.out _).mono ?_;rintro e w2 ⟨v2,rfl,hr,hb⟩;obtain ⟨A2,c2,rfl⟩:=Kd.R_slice hr;rw [HPL.out];replace HB:=am_ (below_step HB.out hb);replace HKR:=am_ (blk_below HKR.out hb);have hk:=blk_below HKB.out hb;have r0:w2.cell? ⟨w.heap.size,0,none⟩ = some (.slice A l.length c):=blk_cell hk 0;have r1:w2.cell? ⟨w.heap.size,1,none⟩ = some (.slice A' t.length c'):=blk_cell hk 1;replace HON:=am_ (HON.out.below hb);clear hr hb hk))
  | (go_at_call 49;go_loud (refine (step_any HON.out s HSZ.out).mono ?_;rintro e w3 ⟨u0,u1,rfl,hr0,hr1,hne,hb⟩;rw [<- HX.out] at hr0 hr1 ⊢;obtain ⟨B2,d2,rfl⟩:=Kd.R_slice hr0;obtain ⟨B3,d3,rfl⟩:=Kd.R_slice hr1;have L0:=am_ (show Lst w3 B2 d2 x.l from ⟨(Kd.R_reads' hr0).2.2,(Kd.R_reads' hr0).2.1⟩);have L1:=am_ (show Lst w3 B3 d3 x.t from ⟨(Kd.R_reads' hr1).2.2,(Kd.R_reads' hr1).2.1⟩);replace HB:=am_ (below_step HB.out hb);replace HKR:=am_ (blk_below HKR.out hb);clear hr0 hr1 hne hb))
  | (go_at_call 41;go_loud (refine (HO.out _ _ _ _ _ (Lst.below L0.out (below_alloc (Below.refl _ _) _)) (Lst.below L1.out (below_alloc (Below.refl _ _) _))).mono ?_;rintro e w4 ⟨u0,u1,rfl,k0,k1,hne,hb⟩;obtain ⟨E0,e0,rfl⟩:=Kd.R_slice k0;obtain ⟨E1,e1,rfl⟩:=Kd.R_slice k1;have HNE:=am_ hne;have hba:=below_alloc HB.out (.cells #[.slice B2 x.l.length d2,.slice B3 x.t.length d3] 36);have R0:=am_ (Kd.R_mono (Kd.R_lower k0 (below_size hba)) (fun _ _=>trivial));have R1:=am_ (Kd.R_mono (Kd.R_lower k1 (below_size hba)) (fun _ _=>trivial));have hk:=blk_below (blk_alloc HKR.out (.cells #[.slice B2 x.l.length d2,.slice B3 x.t.length d3] 36)) hb;have HKF:=am_ hk;have HB2:=am_ (below_step hba hb);have p0:=blk_cell hk 0;have p1:=blk_cell hk 1;have f0:=blk_frozen hk 0;have f1:=blk_frozen hk 1;clear hb k0 k1 hba hk hne)))
 exact bodyPost_ret (v:=.tuple #[.agg #[.slice E0 x.l.length e0,.slice E1 x.t.length e1],.string x.r,.bool true]) (by simp [results,Tryz.results25,go_sem,p0,p1]) rfl ⟨_,_,rfl,set2 HKF.out R0.out (by decide),set2 HKF.out R1.out (by decide),HNE.out,below_set (below_set HB2.out (Nat.le_succ _)) (Nat.le_succ _)⟩
set_option maxHeartbeats 8000000
theorem has_byte (s:ByteArray) (c:UInt8):decide (0<=Lib.indexByte s.data.toList c) = decide (0 < Lib.countB s ⟨#[c]⟩):=by
 have e:Lib.countB s ⟨#[c]⟩ = s.data.toList.count c:=Lib.count_one _ _;rw [e];have h:=Lib.indexByte_ge s.data.toList c
 by_cases hi:Lib.indexByte s.data.toList c = -1
 ·
  have hn:c ∉ s.data.toList:=fun hm=>by
   obtain ⟨k,hk,he⟩:=List.mem_iff_getElem.1 hm;exact Lib.indexByte_none hi k (by rw [List.getElem?_eq_getElem hk,he])
  rw [hi,List.count_eq_zero.2 hn];rfl
 ·
  have h1:=(Lib.indexByte_some (l:=s.data.toList) (c:=c) (o:=(Lib.indexByte s.data.toList c).toNat) (by omega)).1;have h2:=List.count_pos_iff.2 (List.mem_of_getElem? h1);rw [decide_eq_true (by omega),decide_eq_true h2]
theorem impl_line_bad (g:Bool) (l t:List Int) (A:Option Addr) (c:Nat) (A':Option Addr) (c':Nat) (s:ByteArray) (w:World) (h0:Lst w A c l) (h1:Lst w A' c' t)
  (hC:∀ W,Lst W A c l->Lst W A' c' t->Calls Tryz.prog 31 #[.agg #[.slice A l.length c,.slice A' t.length c']] W fun e w'=>e = .returned (.bool g)/\Below W.heap.size W w')
  (hq:g = false \/ g = true/\decide ((s.size:Int) > 3000) = true \/ g = true/\decide ((s.size:Int) > 3000) = false/\decide (0<=Lib.indexByte s.data.toList 10) = true) :
  Calls Tryz.prog 27 #[.agg #[.slice A l.length c,.slice A' t.length c'],.string s] w (GotLine none w):=by
 have b1:=below_alloc (Below.refl w.heap.size w) (.cells #[.slice A l.length c,.slice A' t.length c'] 36)
 have z1:(w.alloc (.cells #[.slice A l.length c,.slice A' t.length c'] 36)).heap.size = w.heap.size + 1:=by simp
 obtain ⟨Wb,hWb⟩:∃ W,W = (w.alloc (.cells #[.slice A l.length c,.slice A' t.length c'] 36)).alloc (.cells #[.slice none 0 0,.slice none 0 0] 36):=⟨_,rfl⟩
 have HW:=am_ hWb;have HKR:=am_ (show Wb.heap[w.heap.size + 1]? = some (.cells #[.slice none 0 0,.slice none 0 0] 36 (0,0)) by rw [hWb,<- z1];exact blk_new _ _);have HWB:=am_ (show Below w.heap.size w Wb by rw [hWb];exact below_alloc b1 _);have HGD:=am_ (hC Wb (h0.below HWB.out) (h1.below HWB.out));have HSC:=am_ fun W=>Tryz.strings_Contains_one s 10 W;clear h0 h1 hC b1 z1 hWb
 rcases hq with rfl | ⟨rfl,q1⟩ | ⟨rfl,q1,q2⟩
 all_goals
  go_enter Tryz.func27,Tryz.ntmps27
  go_wp2_with (first
   | (go_at_call 31;go_loud (rw [<- HW.out];refine HGD.out.mono ?_;rintro e w1 ⟨rfl,hb⟩;have HF:=am_ (below_step HWB.out hb);have hk:=blk_below HKR.out hb;have p0:=blk_cell hk 0;have p1:=blk_cell hk 1;have f0:=blk_frozen hk 0;have f1:=blk_frozen hk 1;clear hb hk))
   | (go_at_call 52;go_loud (refine (HSC.out _).mono ?_;rintro e w2 ⟨rfl,hw⟩;replace hw:=hw.symm;subst hw;rw [q2])))
  exact bodyPost_ret (v:=.tuple #[.agg #[.slice none 0 0,.slice none 0 0],.string ⟨#[]⟩,.bool false]) (by simp [results,Tryz.results27,go_sem,p0,p1]) rfl ⟨_,_,rfl,Kd.R_nil _ _ _ _ _,Kd.R_nil _ _ _ _ _,fun k h=>(by cases h),below_set (below_set HF.out (Nat.le_succ _)) (Nat.le_succ _)⟩
theorem desk_put {W:World} {B g:Nat} {l t:List Int} {v0 v1:Value} (hk:W.heap[g]? = some (.cells #[.slice none 0 0,.slice none 0 0] 36 (0,0))) (h0:Kd.R (Kd.int .i64) 3 W B (fun _=>True) v0 l) (h1:Kd.R (Kd.int .i64) 3 W B (fun _=>True) v1 t) (hn:NeRow v0 v1) (hB:B<=g):DeskAt ((W.setCell ⟨g,0,none⟩ v0).setCell ⟨g,1,none⟩ v1) B g l t :=
 ⟨hB,v0,v1,blk_put (blk_put hk 0 _ rfl) 1 _ rfl,set2 hk h0 (by decide),set2 hk h1 (by decide),hn⟩
def LineW (w:World) (g:Nat) (l t:List Int) (W:World):Prop:=DeskAt W w.heap.size g l t/\W.heap[w.heap.size + 1]? = some (.cells #[.slice none 0 0,.slice none 0 0] 36 (0,0))/\w.heap.size + 1 < g/\Below w.heap.size w W
theorem line_put {w W:World} {g:Nat} {l t:List Int} {v0 v1:Value} (hk:W.heap[g]? = some (.cells #[.slice none 0 0,.slice none 0 0] 36 (0,0))) (h0:Kd.R (Kd.int .i64) 3 W w.heap.size (fun _=>True) v0 l) (h1:Kd.R (Kd.int .i64) 3 W w.heap.size (fun _=>True) v1 t) (hn:NeRow v0 v1) (hg:w.heap.size + 1 < g) (hr:W.heap[w.heap.size + 1]? = some (.cells #[.slice none 0 0,.slice none 0 0] 36 (0,0))) (hb:Below w.heap.size w W):LineW w g l t ((W.setCell ⟨g,0,none⟩ v0).setCell ⟨g,1,none⟩ v1) :=
 ⟨desk_put hk h0 h1 hn (by omega),blk_far (blk_far hr (p:=⟨g,0,none⟩) (by show w.heap.size + 1 ≠ g;omega) _) (p:=⟨g,1,none⟩) (by show w.heap.size + 1 ≠ g;omega) _,hg,below_set (below_set hb (by omega)) (by omega)⟩
theorem line_new {w W:World} {l t:List Int} {v0 v1:Value} (h0:Kd.R (Kd.int .i64) 3 W w.heap.size (fun _=>True) v0 l) (h1:Kd.R (Kd.int .i64) 3 W w.heap.size (fun _=>True) v1 t) (hn:NeRow v0 v1) (hr:W.heap[w.heap.size + 1]? = some (.cells #[.slice none 0 0,.slice none 0 0] 36 (0,0))) (hb:Below w.heap.size w W):LineW w W.heap.size l t (W.alloc (.cells #[v0,v1] 36)) :=
 ⟨⟨below_size hb,v0,v1,blk_new W _,Kd.R_alloc h0 _,Kd.R_alloc h1 _,hn⟩,blk_alloc hr _,blk_lt hr,below_alloc hb _⟩
theorem gen_ {G:Exit->Act->World->Prop} {x:Exit} {a:Act} {w:World} (p:World->Prop) (h:p w) (k:∀ W,p W->G x a W):G x a w:=k w h
theorem impl_line_ok {F:Fns} (hF:Good F) (hI:ImplOk F) (l t:List Int) (A:Option Addr) (c:Nat) (A':Option Addr) (c':Nat) (s:ByteArray) (w:World) (h0:Lst w A c l) (h1:Lst w A' c' t) (hp:F.park l = true) (ht:F.tab t = true) (hG:Glob w)
  (hC:∀ W,Lst W A c l->Lst W A' c' t->Calls Tryz.prog 31 #[.agg #[.slice A l.length c,.slice A' t.length c']] W fun e w'=>e = .returned (.bool true)/\Below W.heap.size W w')
  (hs:s.size<=3000) (hn:decide (0<=Lib.indexByte s.data.toList 10) = false) :
  Calls Tryz.prog 27 #[.agg #[.slice A l.length c,.slice A' t.length c'],.string s] w (GotLine (some (executeP F l t s)) w):=by
 have b1:=below_alloc (Below.refl w.heap.size w) (.cells #[.slice A l.length c,.slice A' t.length c'] 36);have k1:(w.alloc (.cells #[.slice A l.length c,.slice A' t.length c'] 36)).heap[w.heap.size]? = some (.cells #[.slice A l.length c,.slice A' t.length c'] 36 (0,0)):=blk_new _ _
 have z1:(w.alloc (.cells #[.slice A l.length c,.slice A' t.length c'] 36)).heap.size = w.heap.size + 1:=by simp
 obtain ⟨Wb,hWb⟩:∃ W,W = (w.alloc (.cells #[.slice A l.length c,.slice A' t.length c'] 36)).alloc (.cells #[.slice none 0 0,.slice none 0 0] 36):=⟨_,rfl⟩
 have HW:=am_ hWb;have HKB:=am_ (show Wb.heap[w.heap.size]? = some (.cells #[.slice A l.length c,.slice A' t.length c'] 36 (0,0)) by rw [hWb];exact blk_alloc k1 _);have HKR:=am_ (show Wb.heap[w.heap.size + 1]? = some (.cells #[.slice none 0 0,.slice none 0 0] 36 (0,0)) by rw [hWb,<- z1];exact blk_new _ _);have HWB:=am_ (show Below w.heap.size w Wb by rw [hWb];exact below_alloc b1 _);have HL0:=am_ (h0.below HWB.out);have HL1:=am_ (h1.below HWB.out);have HGD:=am_ (hC Wb HL0.out HL1.out);have HSC:=am_ fun W=>Tryz.strings_Contains_one s 10 W;have HCL:=am_ fun (W:World) (h:Lst W A c l)=>slices_Clone_int_int.calls A c l l W h.1 h.2 (by unfold slices_Clone_int_int.f;rw [if_pos (by have:=(hF.park l hp).1;omega)]);have HCP:=am_ fun (W:World) (h:Lst W A' c' t)=>impl_Table_copied.calls A' c' t t W h.1 h.2 (by unfold impl_Table_copied.f slices_Clone_int_int.f;rw [if_pos (by have:=(hF.tab t ht).1;omega)];rfl);have q1:decide ((s.size:Int) > 3000) = false:=decide_eq_false (by omega);have HSZ:=am_ hs;have HG:=am_ hG;have HP:=am_ hp;have HT:=am_ ht;have HF:=am_ hF;have HI:=am_ hI;have HN:=am_ hn
 obtain ⟨x,hx⟩:∃ x,x = executeP F l t s:=⟨_,rfl⟩
 have HX:=am_ hx;rw [<- hx];clear h0 h1 hC hs hn b1 k1 z1 hWb hx hG hp ht hF hI;have hu36:=Tryz.underlying36;have hu34:=Tryz.underlying34;go_enter Tryz.func27,Tryz.ntmps27
 go_wp2_with (first
  | (go_at_call 31;go_loud (rw [<- HW.out];refine HGD.out.mono ?_;rintro e w1 ⟨rfl,hb⟩;have HB:=am_ (below_step HWB.out hb);replace HKR:=am_ (blk_below HKR.out hb);replace HKB:=am_ (blk_below HKB.out hb);replace HL0:=am_ (HL0.out.below hb);replace HL1:=am_ (HL1.out.below hb);have r0:w1.cell? ⟨w.heap.size,0,none⟩ = some (.slice A l.length c):=blk_cell HKB.out 0;have r1:w1.cell? ⟨w.heap.size,1,none⟩ = some (.slice A' t.length c'):=blk_cell HKB.out 1;clear hb))
  | (go_at_call 52;go_loud (refine (HSC.out _).mono ?_;rintro e w2 ⟨rfl,hw⟩;replace hw:=hw.symm;subst hw;rw [HN.out])))
 go_region_held3 (fun W:World=>W.cell? ⟨w.heap.size,0,none⟩ = some (.slice A l.length c)/\W.cell? ⟨w.heap.size,1,none⟩ = some (.slice A' t.length c')) (first | exact ⟨s0,s1⟩ | exact ⟨ka_ s0 _,ka_ s1 _⟩ | exact ⟨kb_ s0 _,kb_ s1 _⟩ | exact ⟨kc_ s0 _,kc_ s1 _⟩ | exact ⟨kd_ q0 HB3,kd_ q3 HB3⟩ | exact ⟨ke_ q0 HB3,ke_ q3 HB3⟩ | exact ⟨kd_ r0 HB13,kd_ r1 HB13⟩ | exact ⟨ke_ r0 HB13,ke_ r1 HB13⟩ | exact ⟨q0,q3⟩ | exact ⟨ka_ q0 _,ka_ q3 _⟩ | exact ⟨r0,r1⟩ | exact ⟨ka_ r0 _,ka_ r1 _⟩)
  (first
   | (go_at_call 53;refine (HCL.out _ (HL0.out.below bq_)).mono ?_;rintro e w2 ⟨v2,rfl,hr,hb⟩;obtain ⟨B0,d0,rfl⟩:=Kd.R_slice hr;have HKC:=am_ (show w2.heap[w1.heap.size]? = some (.cells #[.slice none 0 0,.slice none 0 0] 36 (0,0)) from blk_below (blk_drew (blk_new w1 _)) hb);have HGC:=am_ (blk_lt HKR.out);have hb2:=below_step (show Below w1.heap.size w1 _ from bq_) hb;have HB12:=am_ hb2;have HR0:=am_ (Kd.R_lower hr (below_size (below_step HB.out (show Below w1.heap.size w1 _ from bq_))));have HB2:=am_ (below_step HB.out hb2);replace HKR:=am_ (blk_below HKR.out hb2);replace HL1:=am_ (HL1.out.below hb2);have q0:w2.cell? ⟨w.heap.size,0,none⟩ = some (.slice A l.length c):=cell_b r0 hb2;have q3:w2.cell? ⟨w.heap.size,1,none⟩ = some (.slice A' t.length c'):=cell_b r1 hb2;clear hr hb hb2)
   | (go_at_call 53;refine (HCL.out _ (HL0.out.below bq_)).mono ?_;rintro e w2 ⟨v2,rfl,hr,hb⟩;obtain ⟨B0,d0,rfl⟩:=Kd.R_slice hr;have hb2:=below_step (show Below w1.heap.size w1 _ from bq_) hb;have HB12:=am_ hb2;have HR0:=am_ (Kd.R_lower hr (below_size (below_step HB.out (show Below w1.heap.size w1 _ from bq_))));have HB2:=am_ (below_step HB.out hb2);replace HKR:=am_ (blk_below HKR.out hb2);replace HL1:=am_ (HL1.out.below hb2);have q0:w2.cell? ⟨w.heap.size,0,none⟩ = some (.slice A l.length c):=cell_b r0 hb2;have q3:w2.cell? ⟨w.heap.size,1,none⟩ = some (.slice A' t.length c'):=cell_b r1 hb2;clear hr hb hb2)
   | (go_at_call 54;refine (HCP.out _ (HL1.out.below bq_)).mono ?_;rintro e w3 ⟨v3,rfl,hr,hb⟩;obtain ⟨B1,d1,rfl⟩:=Kd.R_slice hr;have hb2:=below_step (show Below w2.heap.size w2 _ from bq_) hb;have HKN:=am_ (blk_below HKC.out hb2);have HGN:=HGC;have HB13:=am_ (below_step HB12.out hb2);have HNE:=am_ (show NeRow (.slice B0 l.length d0) (.slice B1 t.length d1) from fun k h5 h6=>Nat.lt_irrefl k (Nat.lt_of_lt_of_le (Kd.R_lt HR0.out k h5) (Kd.R_base hr k h6)));have p2:=blk_cell HKN.out 0;have p3:=blk_cell HKN.out 1;have f2:=blk_frozen HKN.out 0;have f3:=blk_frozen HKN.out 1;have HR1:=am_ (Kd.R_lower hr (below_size (below_step HB2.out (show Below w2.heap.size w2 _ from bq_))));replace HR0:=am_ (Kd.R_below HR0.out hb2);replace HB2:=am_ (below_step HB2.out hb2);replace HKR:=am_ (blk_below HKR.out hb2);have s0:w3.cell? ⟨w.heap.size,0,none⟩ = some (.slice A l.length c):=cell_b q0 hb2;have s1:w3.cell? ⟨w.heap.size,1,none⟩ = some (.slice A' t.length c'):=cell_b q3 hb2;clear hr hb hb2)
   | (go_at_call 54;refine (HCP.out _ (HL1.out.below bq_)).mono ?_;rintro e w3 ⟨v3,rfl,hr,hb⟩;obtain ⟨B1,d1,rfl⟩:=Kd.R_slice hr;have HKN:=am_ (show w3.heap[w2.heap.size]? = some (.cells #[.slice none 0 0,.slice none 0 0] 36 (0,0)) from by have h:=blk_below (blk_new _ _) hb;exact h);have hb2:=below_step (show Below w2.heap.size w2 _ from bq_) hb;have HGN:=am_ (blk_lt HKR.out);have HB3:=am_ hb2;have HNE:=am_ (show NeRow (.slice B0 l.length d0) (.slice B1 t.length d1) from fun k h5 h6=>Nat.lt_irrefl k (Nat.lt_of_lt_of_le (Kd.R_lt HR0.out k h5) (Nat.le_trans (Below.size (below_alloc (Below.refl w2.heap.size w2) _)) (Kd.R_base hr k h6))));have p2:=blk_cell HKN.out 0;have p3:=blk_cell HKN.out 1;have f2:=blk_frozen HKN.out 0;have f3:=blk_frozen HKN.out 1;have HR1:=am_ (Kd.R_lower hr (below_size (below_step HB2.out (show Below w2.heap.size w2 _ from bq_))));replace HR0:=am_ (Kd.R_below HR0.out hb2);replace HB2:=am_ (below_step HB2.out hb2);replace HKR:=am_ (blk_below HKR.out hb2);have s0:w3.cell? ⟨w.heap.size,0,none⟩ = some (.slice A l.length c):=cell_b q0 hb2;have s1:w3.cell? ⟨w.heap.size,1,none⟩ = some (.slice A' t.length c'):=cell_b q3 hb2;clear hr hb hb2)
   | (go_at_call 54;refine (HCP.out _ (HL1.out.below bq_)).mono ?_;rintro e w3 ⟨v3,rfl,hr,hb⟩;obtain ⟨B1,d1,rfl⟩:=Kd.R_slice hr;have hb2:=below_step (show Below w2.heap.size w2 _ from bq_) hb;have hkn:=blk_new w3 (.cells #[.slice none 0 0,.slice none 0 0] 36);have HNE:=am_ (show NeRow (.slice B0 l.length d0) (.slice B1 t.length d1) from fun k h5 h6=>Nat.lt_irrefl k (Nat.lt_of_lt_of_le (Kd.R_lt HR0.out k h5) (Kd.R_base hr k h6)));have p2:=blk_cell hkn 0;have p3:=blk_cell hkn 1;have f2:=blk_frozen hkn 0;have f3:=blk_frozen hkn 1;clear hkn;have HR1:=am_ (Kd.R_lower hr (below_size (below_step HB2.out (show Below w2.heap.size w2 _ from bq_))));replace HR0:=am_ (Kd.R_below HR0.out hb2);replace HB2:=am_ (below_step HB2.out hb2);replace HKR:=am_ (blk_below HKR.out hb2);have s0:w3.cell? ⟨w.heap.size,0,none⟩ = some (.slice A l.length c):=cell_b q0 hb2;have s1:w3.cell? ⟨w.heap.size,1,none⟩ = some (.slice A' t.length c'):=cell_b q3 hb2;clear hr hb hb2))
 all_goals
  first
   | refine gen_ (LineW w w1.heap.size l t) (line_put HKN.out HR0.out HR1.out HNE.out HGN.out HKR.out HB2.out) ?_
   | refine gen_ (LineW w w2.heap.size l t) (line_put HKN.out HR0.out HR1.out HNE.out HGN.out HKR.out HB2.out) ?_
   | refine gen_ (LineW w w3.heap.size l t) (line_new HR0.out HR1.out HNE.out HKR.out HB2.out) ?_
  rintro W ⟨hd,hk,hg,hb⟩;have HD:=am_ hd;have HK:=am_ hk;have HGT:=am_ hg;have HBW:=am_ hb;clear hd hk hg hb
  go_wp2_with (go_at_call 55;go_loud (refine (execute_any (F:=F) (B:=w.heap.size) (l:=l) (t:=t) ⟨HF.out,HI.out,HD.out,HP.out,HT.out,HG.out.below HBW.out,below_size HBW.out,HG.out.big⟩ s HSZ.out).mono ?_;rintro e w4 ⟨rfl,hd,hg⟩;rw [<- HX.out] at hd ⊢;obtain ⟨hlo,u0,u1,g1,g2,g3,hne⟩:=hd;obtain ⟨E0,e0,rfl⟩:=Kd.R_slice g2;obtain ⟨E1,e1,rfl⟩:=Kd.R_slice g3;have hk:=blk_grown HK.out hg (fun h=>by have:=Option.some.inj h;have:=HGT.out;omega);have HKF:=am_ hk;have HX0:=am_ g2;have HX1:=am_ g3;have HNF:=am_ hne;have HE:=am_ (pw_below_grown HBW.out _ (below_size HBW.out) hg (fun k hk=>by cases hk;exact hlo));have t0:=blk_cell g1 0;have t1:=blk_cell g1 1;have p0:=blk_cell hk 0;have p1:=blk_cell hk 1;have f0:=blk_frozen hk 0;have f1:=blk_frozen hk 1;clear hk g1 g2 g3 hg hne hlo))
  exact bodyPost_ret (v:=.tuple #[.agg #[.slice E0 x.l.length e0,.slice E1 x.t.length e1],.string x.r,.bool true]) (by simp [results,Tryz.results27,go_sem,p0,p1]) rfl ⟨_,_,rfl,set2 HKF.out HX0.out (by decide),set2 HKF.out HX1.out (by decide),HNF.out,below_set (below_set HE.out (Nat.le_succ _)) (Nat.le_succ _)⟩
set_option maxHeartbeats 1000000
theorem eq_ints {w:World} {A B:Option Addr} {c d:Nat} {l:List Int} (h:Lst w A c l) (k:Lst w B d l) (hl:l.length<=2000000):Calls Tryz.prog 11 #[.slice A l.length c,.slice B l.length d] w fun e w'=>e = .returned (.bool true)/\Below w.heap.size w w':=by
 obtain ⟨n,hn⟩:=Plain.eqIntS_same l (by omega)
 exact (laws_eqIntS.calls n A c l B d l true w h.1 h.2 k.1 k.2 (hn n (Nat.le_refl _))).mono fun e w' h=>⟨h.1,h.2.below⟩
theorem eq_table {w:World} {A B:Option Addr} {c d:Nat} {l:List Int} (h:Lst w A c l) (k:Lst w B d l) (hl:l.length<=2000000):Calls Tryz.prog 42 #[.agg #[.slice A l.length c],.agg #[.slice B l.length d]] w fun e w'=>e = .returned (.bool true)/\Below w.heap.size w w':=by
 have hu:=Tryz.underlying34;have HB:=am_ (Below.refl w.heap.size w);have H:=am_ h;have K:=am_ k;have HL:=am_ hl;clear h k hl;go_enter Tryz.func42,Tryz.ntmps42
 go_wp2_with (go_at_call 11;go_loud (refine (eq_ints (H.out.below bw_) (K.out.below bw_) HL.out).mono ?_;rintro e w1 ⟨rfl,hb⟩;replace HB:=am_ (below_step (show Below w.heap.size w _ from bw_) hb);clear hb))
 go_ret;exact ⟨rfl,HB.out⟩
theorem eq_desk {w:World} {A0 A1 B0 B1:Option Addr} {c0 c1 d0 d1:Nat} {l t:List Int} (h0:Lst w A0 c0 l) (h1:Lst w A1 c1 t) (k0:Lst w B0 d0 l) (k1:Lst w B1 d1 t) (hl:l.length<=2000000) (ht:t.length<=2000000):Calls Tryz.prog 21 #[.agg #[.slice A0 l.length c0,.slice A1 t.length c1],.agg #[.slice B0 l.length d0,.slice B1 t.length d1]] w fun e w'=>e = .returned (.bool true)/\Below w.heap.size w w':=by
 have hu:=Tryz.underlying34;have hu36:=Tryz.underlying36
 have z1:(w.alloc (.cells #[.slice A0 l.length c0,.slice A1 t.length c1] 36)).heap.size = w.heap.size + 1:=by simp
 have q0:=am_ (blk_alloc (blk_new w (.cells #[.slice A0 l.length c0,.slice A1 t.length c1] 36)) (.cells #[.slice B0 l.length d0,.slice B1 t.length d1] 36));have q1:=blk_new (w.alloc (.cells #[.slice A0 l.length c0,.slice A1 t.length c1] 36)) (.cells #[.slice B0 l.length d0,.slice B1 t.length d1] 36);rw [z1] at q1;have Q1:=am_ q1;have HB:=am_ (Below.refl w.heap.size w);have H:=am_ (And.intro (And.intro h0 h1) (And.intro k0 k1));have HL:=am_ (And.intro hl ht);clear h0 h1 k0 k1 hl ht z1 q1;go_enter Tryz.func21,Tryz.ntmps21
 go_wp2_with (first
  | (go_at_call 11;go_loud (refine (eq_ints (H.out.1.1.below bw_) (H.out.2.1.below bw_) HL.out.1).mono ?_;rintro e w1 ⟨rfl,hb⟩;have p0:=blk_cell (blk_below q0.out hb) 1;have p1:=blk_cell (blk_below Q1.out hb) 1;replace HB:=am_ (below_step (show Below w.heap.size w _ from bw_) hb);clear hb))
  | (go_at_call 42;go_loud (refine (eq_table (H.out.1.2.below HB.out) (H.out.2.2.below HB.out) HL.out.2).mono ?_;rintro e w2 ⟨rfl,hb⟩;replace HB:=am_ (below_step HB.out hb);clear hb)))
 go_ret;exact ⟨rfl,HB.out⟩
structure DeskV (W:World) (b g:Nat) (v0 v1:Value) (l t:List Int):Prop where
 blk:W.heap[g]? = some (.cells #[v0,v1] 36 (0,0))
 one:Kd.R (Kd.int .i64) 3 W b (fun _=>True) v0 l
 two:Kd.R (Kd.int .i64) 3 W b (fun _=>True) v1 t
 ne:NeRow v0 v1
section
variable {W W' w0:World} {b g:Nat} {v0 v1:Value} {A0 A1:Option Addr} {n0 n1 c0 c1:Nat} {l t:List Int}
theorem DeskV.below (h:DeskV W b g v0 v1 l t) (hb:Below W.heap.size W W'):DeskV W' b g v0 v1 l t:=⟨blk_below h.blk hb,Kd.R_below h.one hb,Kd.R_below h.two hb,h.ne⟩
theorem DeskV.made (h0:Kd.R (Kd.int .i64) 3 W b (fun _=>True) v0 l) (h1:Kd.R (Kd.int .i64) 3 W b (fun _=>True) v1 t) (hn:NeRow v0 v1):DeskV (W.alloc (.cells #[v0,v1] 36)) b W.heap.size v0 v1 l t:=⟨blk_new W _,Kd.R_alloc h0 _,Kd.R_alloc h1 _,hn⟩
theorem DeskV.k0 (h:DeskV W b g v0 v1 l t):W.cell? ⟨g,0,none⟩ = some v0:=blk_cell h.blk 0
theorem DeskV.k1 (h:DeskV W b g v0 v1 l t):W.cell? ⟨g,1,none⟩ = some v1:=blk_cell h.blk 1
theorem DeskV.s0 (h:DeskV W b g (.slice A0 n0 c0) v1 l t):Lst W A0 c0 l:=⟨(Kd.R_reads' h.one).2.2,(Kd.R_reads' h.one).1 ▸ (Kd.R_reads' h.one).2.1⟩
theorem DeskV.s1 (h:DeskV W b g v0 (.slice A1 n1 c1) l t):Lst W A1 c1 t:=⟨(Kd.R_reads' h.two).2.2,(Kd.R_reads' h.two).1 ▸ (Kd.R_reads' h.two).2.1⟩
theorem DeskV.kept {S:Nat->Prop} (h:DeskV W b g v0 v1 l t) (hk:Kept W W' S) (hg:¬ S g) (hr:∀ k,b<=k->¬ S k):DeskV W' b g v0 v1 l t :=
 ⟨blk_kept h.blk hk hg,Kd.R_mono (Kd.R_kept (Kd.R_bound h.one) hk fun k q=>hr k q.2.1) (fun _ _=>trivial),Kd.R_mono (Kd.R_kept (Kd.R_bound h.two) hk fun k q=>hr k q.2.1) (fun _ _=>trivial),h.ne⟩
end
def OwnOf (v0 v1:Value) (k:Nat):Prop:=v0.ownBlock = some k \/ v1.ownBlock = some k
theorem own_R {w:World} {b:Nat} {v:Value} {l:List Int} (h:Kd.R (Kd.int .i64) 3 w b (fun _=>True) v l):Kd.R (Kd.int .i64) 3 w b (fun q=>v.ownBlock = some q) v l:=Kd.R_of_own (Kd.own_of_R h) (fun _ h=>h)
theorem mark_ints {w0 w:World} {A:Option Addr} {c:Nat} {l:List Int} {k:Int} (h0:0<=k) (h1:k<=2000001) (hB:Below w0.heap.size w0 w) (h:Kd.R (Kd.int .i64) 3 w w0.heap.size (fun _=>True) (.slice A l.length c) l) (hl:l.length<=2000000):Calls Tryz.prog 12 #[.slice A l.length c,.int .i64 k] w fun e w'=>e = .returned (.int .i64 (k + (l.length:Int)))/\Kd.R (Kd.int .i64) 3 w' w0.heap.size (fun _=>True) (.slice A l.length c) (Plain.iota k l.length)/\Below w0.heap.size w0 w'/\Kept w w' (fun q=>(Value.slice A l.length c).ownBlock = some q):=by
 obtain ⟨n,hn⟩:=Plain.markIntS_ev l k h0 (by omega) (by omega)
 exact (laws_markIntS.calls n (fun q=>(Value.slice A l.length c).ownBlock = some q) _ l k _ _ w0 w hB (own_R h) (hn n (Nat.le_refl _))).mono fun e w' h'=>⟨h'.1,Kd.R_mono h'.2.1 (fun _ _=>trivial),h'.2.2.1,h'.2.2.2⟩
theorem mark_table {w0 w:World} {A:Option Addr} {c:Nat} {l:List Int} {k:Int} (h0:0<=k) (h1:k<=2000001) (hB:Below w0.heap.size w0 w) (h:Kd.R (Kd.int .i64) 3 w w0.heap.size (fun _=>True) (.slice A l.length c) l) (hl:l.length<=2000000):Calls Tryz.prog 43 #[.agg #[.slice A l.length c],.int .i64 k] w fun e w'=>e = .returned (.int .i64 (k + (l.length:Int)))/\Kd.R (Kd.int .i64) 3 w' w0.heap.size (fun _=>True) (.slice A l.length c) (Plain.iota k l.length)/\Below w0.heap.size w0 w'/\Kept w w' (fun q=>(Value.slice A l.length c).ownBlock = some q):=by
 have hu:=Tryz.underlying34;have HC:=am_ (mark_ints h0 h1 (below_alloc hB (.cells #[.slice A l.length c] 34)) (Kd.R_alloc h _) hl);have HK:=am_ (Kept.of_below (below_alloc (Below.refl w.heap.size w) (.cells #[.slice A l.length c] 34)) (fun q=>(Value.slice A l.length c).ownBlock = some q));clear h0 h1 hB h hl;go_enter Tryz.func43,Tryz.ntmps43
 go_wp2_with (go_at_call 12;go_loud (refine HC.out.mono ?_;rintro e w1 ⟨rfl,hr,hb,hk⟩;have HR:=am_ hr;have HB:=am_ hb;replace HK:=am_ (HK.out.then_ hk (fun _ h=>.inl h));clear hr hb hk))
 go_ret;exact ⟨rfl,HR.out,HB.out,HK.out⟩
theorem mark_desk {w0 w:World} {g:Nat} {A0 A1:Option Addr} {c0 c1:Nat} {l t:List Int} (hB:Below w0.heap.size w0 w) (h:DeskV w w0.heap.size g (.slice A0 l.length c0) (.slice A1 t.length c1) l t) (hl:l.length<=2000000) (ht:t.length<=2000000):Calls Tryz.prog 22 #[.agg #[.slice A0 l.length c0,.slice A1 t.length c1],.int .i64 1] w fun e w'=>e = .returned (.int .i64 (1 + (l.length:Int) + (t.length:Int)))/\DeskV w' w0.heap.size g (.slice A0 l.length c0) (.slice A1 t.length c1) (Plain.iota 1 l.length) (Plain.iota (1 + (l.length:Int)) t.length)/\Below w0.heap.size w0 w'/\Kept w w' (OwnOf (.slice A0 l.length c0) (.slice A1 t.length c1)):=by
 have hu:=Tryz.underlying34;have hu36:=Tryz.underlying36;have hg0:=Kd.R_ne h.one h.blk (by decide);have hg1:=Kd.R_ne h.two h.blk (by decide);have hb:=below_alloc (Below.refl w.heap.size w) (.cells #[.slice A0 l.length c0,.slice A1 t.length c1] 36);have HC:=am_ (mark_ints (k:=1) (by decide) (by decide) (below_alloc hB (.cells #[.slice A0 l.length c0,.slice A1 t.length c1] 36)) (Kd.R_alloc h.one _) hl);have HKB:=am_ (blk_new w (.cells #[.slice A0 l.length c0,.slice A1 t.length c1] 36));have HT:=am_ fun W hB hR=>mark_table (w0:=w0) (w:=W) (A:=A1) (c:=c1) (l:=t) (k:=1 + (l.length:Int)) (by omega) (by omega) hB hR ht;have HNB:=am_ (show ¬ (Value.slice A0 l.length c0).ownBlock = some w.heap.size from fun e=>Nat.lt_irrefl _ (Kd.R_lt h.one _ e));have HD:=am_ h;have HK:=am_ (Kept.of_below hb (OwnOf (.slice A0 l.length c0) (.slice A1 t.length c1)));have HG:=am_ (show ¬ OwnOf (.slice A0 l.length c0) (.slice A1 t.length c1) g from fun q=>q.elim (fun q=>hg0 q.symm) (fun q=>hg1 q.symm));have HR2:=am_ (Kd.R_alloc (own_R h.two) (.cells #[.slice A0 l.length c0,.slice A1 t.length c1] 36));clear hB hl ht hg0 hg1 hb h;go_enter Tryz.func22,Tryz.ntmps22
 go_wp2_with (first
  | (go_at_call 12;go_loud (refine HC.out.mono ?_;rintro e w1 ⟨rfl,hr,hb,hk⟩;have HR:=am_ hr;have HB:=am_ hb;have p1:=blk_cell (blk_kept HKB.out hk HNB.out) 1;replace HK:=am_ (HK.out.then_ hk (fun _ h=>.inl (.inl h)));replace HR2:=am_ (Kd.R_kept HR2.out hk (fun k h1 h2=>HD.out.ne k h2 h1));clear hr hb hk))
  | (go_at_call 43;go_loud (refine (HT.out _ HB.out (Kd.R_mono HR2.out (fun _ _=>trivial))).mono ?_;rintro e w2 ⟨rfl,hr,hb,hk⟩;have HR3:=am_ hr;replace HB:=am_ hb;replace HK:=am_ (HK.out.then_ hk (fun _ h=>.inl (.inr h)));replace HR:=am_ (Kd.R_kept (own_R HR.out) hk (fun k h1 h2=>HD.out.ne k h1 h2));clear hr hb hk)))
 go_ret;exact ⟨rfl,⟨blk_kept HD.out.blk HK.out HG.out,Kd.R_mono HR.out (fun _ _=>trivial),HR3.out,HD.out.ne⟩,HB.out,HK.out⟩
theorem held_ints {w:World} {A:Option Addr} {c n:Nat} {k:Int} (h0:0<=k) (h1:k<=2000001) (h:Lst w A c (Plain.iota k n)) (hn:n<=2000000):Calls Tryz.prog 13 #[.slice A n c,.int .i64 k] w fun e w'=>e = .returned (.int .i64 (k + (n:Int)))/\Below w.heap.size w w':=by
 obtain ⟨m,hm⟩:=Plain.heldIntS_ev k n h0 (by omega) (by omega);have hc:=laws_heldIntS.calls m A c (Plain.iota k n) k _ w h.1 h.2 (hm m (Nat.le_refl _));rw [Plain.iota_length] at hc
 exact hc.mono fun e w' h=>⟨h.1,h.2.below⟩
theorem held_table {w:World} {A:Option Addr} {c n:Nat} {k:Int} (h0:0<=k) (h1:k<=2000001) (h:Lst w A c (Plain.iota k n)) (hn:n<=2000000) (hz:decide (k + (n:Int) < 0) = false):Calls Tryz.prog 44 #[.agg #[.slice A n c],.int .i64 k] w fun e w'=>e = .returned (.int .i64 (k + (n:Int)))/\Below w.heap.size w w':=by
 have hu:=Tryz.underlying34;have HB:=am_ (below_alloc (Below.refl w.heap.size w) (.cells #[.slice A n c] 34));have HC:=am_ (held_ints h0 h1 (h.below HB.out) hn)
 obtain ⟨z,ez⟩:∃ z,z = k + (n:Int):=⟨_,rfl⟩
 rw [<- ez] at HC hz ⊢;clear h0 h1 h hn ez;go_enter Tryz.func44,Tryz.ntmps44
 go_wp2_with (go_at_call 13;go_loud (refine HC.out.mono ?_;rintro e w1 ⟨rfl,hb⟩;replace HB:=am_ (below_step HB.out hb);clear hb))
 go_ret;exact ⟨rfl,HB.out⟩
theorem held_desk {w:World} {A0 A1:Option Addr} {c0 c1 n m:Nat} (h0:Lst w A0 c0 (Plain.iota 1 n)) (h1:Lst w A1 c1 (Plain.iota (1 + (n:Int)) m)) (hn:n<=2000000) (hm:m<=2000000):Calls Tryz.prog 23 #[.agg #[.slice A0 n c0,.slice A1 m c1],.int .i64 1] w fun e w'=>e = .returned (.int .i64 (1 + (n:Int) + (m:Int)))/\Below w.heap.size w w':=by
 have hu:=Tryz.underlying34;have hu36:=Tryz.underlying36;have HB:=am_ (below_alloc (Below.refl w.heap.size w) (.cells #[.slice A0 n c0,.slice A1 m c1] 36));have HKB:=am_ (blk_new w (.cells #[.slice A0 n c0,.slice A1 m c1] 36));have HC:=am_ (held_ints (k:=1) (by decide) (by decide) (h0.below HB.out) hn);have HT:=am_ fun W hb=>held_table (w:=W) (k:=1 + (n:Int)) (by omega) (by omega) (h1.below hb) hm (decide_eq_false (by omega))
 obtain ⟨z,ez⟩:∃ z,z = 1 + (n:Int):=⟨_,rfl⟩
 have qz:decide (z < 0) = false:=decide_eq_false (by omega);rw [<- ez] at HC HT ⊢
 obtain ⟨y,ey⟩:∃ y,y = z + (m:Int):=⟨_,rfl⟩
 have qy:decide (y < 0) = false:=decide_eq_false (by omega);rw [<- ey] at HT ⊢;clear h0 h1 hn hm ez ey;go_enter Tryz.func23,Tryz.ntmps23
 go_wp2_with (first
  | (go_at_call 13;go_loud (refine HC.out.mono ?_;rintro e w1 ⟨rfl,hb⟩;have p1:=blk_cell (blk_below HKB.out hb) 1;replace HB:=am_ (below_step HB.out hb);clear hb))
  | (go_at_call 44;go_loud (refine (HT.out _ HB.out).mono ?_;rintro e w2 ⟨rfl,hb⟩;replace HB:=am_ (below_step HB.out hb);clear hb)))
 go_ret;exact ⟨rfl,HB.out⟩
set_option maxHeartbeats 8000000
theorem to_desk {l t:List Int} (hl:l.length<=2000000) (ht:t.length<=2000000) (W:World) (A:Option Addr) (c:Nat) (A':Option Addr) (c':Nat) (h0:Lst W A c l) (h1:Lst W A' c' t):Calls Tryz.prog 26 #[.agg #[.slice A l.length c,.slice A' t.length c']] W (GotDesk l t W):=by
 obtain ⟨k,hk⟩:=show Ev (fun k=>laws_toDesk.f k l t) (l,t) by
  unfold laws_toDesk.f;refine Ev.bind (Plain.toIntS_ev l (by omega)) (Ev.bind (a:=t) ?_ (Ev.now _));unfold laws_toTable.f;exact Ev.bind (Plain.toIntS_ev t (by omega)) (Ev.now _)
 refine (laws_toDesk.calls k A c l A' c' t l t W h0.1 h0.2 h1.1 h1.2 (hk k (Nat.le_refl _))).mono fun e w' h=>?_
 obtain ⟨v0,v1,rfl,r0,r1,hb⟩:=h;exact ⟨v0,v1,rfl,Kd.R_mono r0 (fun _ _=>trivial),Kd.R_mono r1 (fun _ _=>trivial),fun k h5 h6=>r0.1 k h5 h6.symm,hb⟩
theorem sz_desk (l t:List Int) (hl:l.length + t.length<=1048576):laws_szDesk.f l t 1048576 = some (1048576 - (l.length:Int) - (t.length:Int)):=by
 unfold laws_szDesk.f laws_szTable.f laws_szIntS.f;rw [wrap64_in _ (by omega) (by omega),if_neg (by omega),Option.bind_some,if_neg (by omega),wrap64_in _ (by omega) (by omega),if_neg (by omega),Option.bind_some,if_neg (by omega),Option.bind_some,if_neg (by omega)]
theorem sz_desk_big (l t:List Int) (h0:l.length<=9223372036854775807) (h1:t.length<=9223372036854775807) (hl:1048576 < l.length + t.length):laws_szDesk.f l t 1048576 = some (-1):=by
 unfold laws_szDesk.f laws_szTable.f laws_szIntS.f;rw [wrap64_in (1048576 - (l.length:Int)) (by omega) (by omega)]
 by_cases c:(1048576 - (l.length:Int)) < 0
 · rw [if_pos c];rfl
 · rw [if_neg c,Option.bind_some,if_neg c,wrap64_in _ (by omega) (by omega),if_pos (by omega)];rfl
theorem own_old {W:World} {b g:Nat} {v0 v1:Value} {l t:List Int} (h:DeskV W b g v0 v1 l t) (k:Nat) (hk:W.heap.size<=k):¬ OwnOf v0 v1 k:=fun q=>q.elim (fun e=>Nat.lt_irrefl k (Nat.lt_of_lt_of_le (Kd.R_lt h.one k e) hk)) (fun e=>Nat.lt_irrefl k (Nat.lt_of_lt_of_le (Kd.R_lt h.two k e) hk))
theorem DeskV.lower {W:World} {b b' g:Nat} {v0 v1:Value} {l t:List Int} (h:DeskV W b g v0 v1 l t) (hb:b'<=b):DeskV W b' g v0 v1 l t:=⟨h.blk,Kd.R_lower h.one hb,Kd.R_lower h.two hb,h.ne⟩
theorem law_line (o:Option Res) (l t:List Int) (A:Option Addr) (c:Nat) (A':Option Addr) (c':Nat) (s:ByteArray) (w:World) (h0:Lst w A c l) (h1:Lst w A' c' t)
  (hS:∀ (W:World) (B:Nat) (A0 A1:Option Addr) (c0 c1:Nat),Kd.R (Kd.int .i64) 3 W B (fun _=>True) (.slice A0 l.length c0) l->Kd.R (Kd.int .i64) 3 W B (fun _=>True) (.slice A1 t.length c1) t->NeRow (.slice A0 l.length c0) (.slice A1 t.length c1)->B<=W.heap.size->Calls Tryz.prog 25 #[.agg #[.slice A0 l.length c0,.slice A1 t.length c1],.string s] W (GotLine o W))
  (hI:∀ (W:World) (A0 A1:Option Addr) (c0 c1:Nat),Lst W A0 c0 l->Lst W A1 c1 t->Glob W->Calls Tryz.prog 27 #[.agg #[.slice A0 l.length c0,.slice A1 t.length c1],.string s] W (GotLine o W))
  (hG:Glob w) (hs:s.size<=1048576) (hsz:l.length + t.length<=1048576) (hl0:(o.getD noRes).l.length<=2000000) (ht0:(o.getD noRes).t.length<=2000000) :
  Calls Tryz.prog 6 #[.agg #[.slice A l.length c,.slice A' t.length c'],.string s] w fun e w'=>e = .returned (.bool true)/\Below w.heap.size w w':=by
 have q0:decide ((s.size:Int) > 1048576) = false:=decide_eq_false (by omega)
 obtain ⟨ol,hol⟩:∃ l,l = (o.getD noRes).l:=⟨_,rfl⟩
 obtain ⟨ot,hot⟩:∃ t,t = (o.getD noRes).t:=⟨_,rfl⟩
 obtain ⟨r,hor⟩:∃ r,r = (o.getD noRes).r:=⟨_,rfl⟩
 obtain ⟨b,hob⟩:∃ b,b = o.isSome:=⟨_,rfl⟩
 obtain ⟨z,hz⟩:∃ z,z = 1 + (ol.length:Int) + (ot.length:Int):=⟨_,rfl⟩
 obtain ⟨zx,hzx⟩:∃ z,z = 1 + (l.length:Int) + (t.length:Int):=⟨_,rfl⟩
 obtain ⟨zs,hzs⟩:∃ z,z = 1048576 - (l.length:Int) - (t.length:Int):=⟨_,rfl⟩
 unfold GotLine at hS hI;rw [<- hol] at hl0;rw [<- hot] at ht0;simp only [<- hol,<- hot,<- hor,<- hob] at hS hI;have hM:=fun (w0 w:World) (g:Nat) (A0 A1:Option Addr) (c0 c1:Nat) (hB:Below w0.heap.size w0 w) (h:DeskV w w0.heap.size g (.slice A0 ol.length c0) (.slice A1 ot.length c1) ol ot)=>mark_desk hB h hl0 ht0;have hMX:=fun (w0 w:World) (g:Nat) (A0 A1:Option Addr) (c0 c1:Nat) (hB:Below w0.heap.size w0 w) (h:DeskV w w0.heap.size g (.slice A0 l.length c0) (.slice A1 t.length c1) l t)=>mark_desk hB h (by omega) (by omega);have hH:=fun (w:World) (A0 A1:Option Addr) (c0 c1:Nat) (h0:Lst w A0 c0 (Plain.iota 1 ol.length)) (h1:Lst w A1 c1 (Plain.iota (1 + (ol.length:Int)) ot.length))=>held_desk h0 h1 hl0 ht0;have hTD:=to_desk (l:=l) (t:=t) (by omega) (by omega);have hZ:=fun W (h0:Lst W A c l) (h1:Lst W A' c' t)=>laws_szDesk.calls A c l A' c' t 1048576 _ W h0.1 h0.2 h1.1 h1.2 (sz_desk l t hsz);simp only [<- hz] at hM hH;simp only [<- hzx] at hMX;simp only [<- hzs] at hZ;have qz:decide (z < 0) = false:=decide_eq_false (by omega);have qzx:decide (zx < 0) = false:=decide_eq_false (by omega);have qzs:decide (zs < 0) = false:=decide_eq_false (by omega);have HS:=am_ hS;have HI:=am_ hI;have HM:=am_ hM;have HMX:=am_ hMX;have HH:=am_ hH;have HTD:=am_ hTD;have HZ:=am_ hZ;have HL:=am_ hl0;have HT:=am_ ht0;have HLX:=am_ (show l.length<=2000000/\t.length<=2000000 by omega)
 obtain ⟨W0,hW0⟩:∃ W,W = w.alloc (.cells #[.slice A l.length c,.slice A' t.length c'] 43):=⟨_,rfl⟩
 have HW:=am_ hW0
 have hb0:Below w.heap.size w W0:=by rw [hW0];exact below_alloc (Below.refl _ _) _
 have HBW:=am_ hb0;have HGW:=am_ (hG.below hb0);have HKA:=am_ (show W0.heap[w.heap.size]? = some (.cells #[.slice A l.length c,.slice A' t.length c'] 43 (0,0)) by rw [hW0];exact blk_new _ _);have HA0:=am_ (h0.below hb0);have HA1:=am_ (h1.below hb0);clear hS hI hM hMX hH hTD hZ hG hl0 ht0 hol hot hor hob hz hzx hzs hs hsz hW0 hb0 h0 h1;cases b
 all_goals
  go_enter Tryz.func6,Tryz.ntmps6
  go_wp2_with (go_at_call 24;go_loud (rw [<- HW.out];refine (HZ.out _ HA0.out HA1.out).mono ?_;rintro e w1 ⟨rfl,hb⟩;have HB0:=am_ hb;have a0:=blk_cell (blk_below HKA.out HB0.out) 0;have a1:=blk_cell (blk_below HKA.out HB0.out) 1;clear hb))
  go_wp2_with (go_at_call 26;go_loud (refine (HTD.out _ _ _ _ _ (HA0.out.below HB0.out) (HA1.out.below HB0.out)).mono ?_;rintro e w2 ⟨v0,v1,rfl,r0,r1,hne,hb⟩;obtain ⟨B0,d0,rfl⟩:=Kd.R_slice r0;obtain ⟨B1,d1,rfl⟩:=Kd.R_slice r1;have HR0:=am_ r0;have HR1:=am_ r1;have HNE:=am_ hne;have HSZ:=am_ hb.size;replace HB0:=am_ (below_step HB0.out hb);clear a0 a1 r0 r1 hne hb))
  go_wp2_with (go_at_call 25;go_loud (refine (HS.out _ _ _ _ _ _ HR0.out HR1.out HNE.out HSZ.out).mono ?_;rintro e w3 ⟨v0,v1,rfl,r0,r1,hne,hb⟩;obtain ⟨E0,e0,rfl⟩:=Kd.R_slice r0;obtain ⟨E1,e1,rfl⟩:=Kd.R_slice r1;have HD0:=am_ (DeskV.made r0 r1 hne);replace HB0:=am_ (below_alloc (below_step HB0.out hb) (.cells #[.slice E0 ol.length e0,.slice E1 ot.length e1] 36));have a0:=blk_cell (blk_below HKA.out HB0.out) 0;have a1:=blk_cell (blk_below HKA.out HB0.out) 1;clear r0 r1 hne hb))
  go_wp2_with (go_at_call 26;go_loud (refine (HTD.out _ _ _ _ _ (HA0.out.below HB0.out) (HA1.out.below HB0.out)).mono ?_;rintro e w4 ⟨v0,v1,rfl,r0,r1,hne,hb⟩;obtain ⟨X0,x0,rfl⟩:=Kd.R_slice r0;obtain ⟨X1,x1,rfl⟩:=Kd.R_slice r1;have HX:=am_ (DeskV.made r0 r1 hne);have HB3X:=am_ (below_alloc hb (.cells #[.slice X0 l.length x0,.slice X1 t.length x1] 36));have HB3:=am_ (below_alloc hb (.cells #[.slice X0 l.length x0,.slice X1 t.length x1] 36));have y0:=HX.out.k0;have y1:=HX.out.k1;clear a0 a1 r0 r1 hne hb))
  go_wp2_with (go_at_call 27;go_loud (refine (HI.out _ _ _ _ _ HX.out.s0 HX.out.s1 (HGW.out.below (below_step HB0.out HB3.out))).mono ?_;rintro e w5 ⟨v0,v1,rfl,r0,r1,hne,hb⟩;obtain ⟨G0,g0,rfl⟩:=Kd.R_slice r0;obtain ⟨G1,g1,rfl⟩:=Kd.R_slice r1;have HD1:=am_ (DeskV.made r0 r1 hne);have HSZ5:=am_ hb.size;have HB4:=am_ (below_alloc hb (.cells #[.slice G0 ol.length g0,.slice G1 ot.length g1] 36));replace HB3:=am_ (below_step HB3.out HB4.out);have HD:=am_ (HD0.out.below HB3.out);clear y0 y1;have y0:=HD.out.k0;have y1:=HD.out.k1;have y2:=HD1.out.k0;have y3:=HD1.out.k1;clear r0 r1 hne hb))
  go_wp2_with (go_at_call 21;go_loud (refine (eq_desk HD1.out.s0 HD1.out.s1 HD.out.s0 HD.out.s1 HL.out HT.out).mono ?_;rintro e w6 ⟨rfl,hb⟩;clear y0 y1 y2 y3 HD;replace HD1:=am_ (HD1.out.below hb);replace HB3:=am_ (below_step HB3.out hb);replace HB4:=am_ (below_step HB4.out hb);have HX5:=am_ (HX.out.below HB4.out);have a0:=blk_cell (blk_below HKA.out (below_step HB0.out HB3.out)) 0;have a1:=blk_cell (blk_below HKA.out (below_step HB0.out HB3.out)) 1;have y0:=HX5.out.k0;have y1:=HX5.out.k1;clear hb))
  go_region_held3 (fun V:World=>V.cell? ⟨w4.heap.size,0,none⟩ = some (.slice X0 l.length x0)/\V.cell? ⟨w4.heap.size,1,none⟩ = some (.slice X1 t.length x1)/\V.cell? ⟨w.heap.size,0,none⟩ = some (.slice A l.length c)/\V.cell? ⟨w.heap.size,1,none⟩ = some (.slice A' t.length c')) (first | exact ⟨cell_b z0 bq_,cell_b z1 bq_,cell_b z2 bq_,cell_b z3 bq_⟩ | exact ⟨cell_b u0 bq_,cell_b u1 bq_,cell_b u2 bq_,cell_b u3 bq_⟩ | exact ⟨cell_b y0 bq_,cell_b y1 bq_,cell_b a0 bq_,cell_b a1 bq_⟩)
   (first
    | (go_at_call 26;refine (HTD.out _ _ _ _ _ (HA0.out.below (below_step (below_step HB0.out HB3.out) bq_)) (HA1.out.below (below_step (below_step HB0.out HB3.out) bq_))).mono ?_;rintro e w7 ⟨v0,v1,rfl,r0,r1,hne,hb⟩;obtain ⟨Y0,k0,rfl⟩:=Kd.R_slice r0;obtain ⟨Y1,k1,rfl⟩:=Kd.R_slice r1;have hb2:=below_step (show Below w6.heap.size w6 _ from bq_) hb;have HB6:=am_ hb2;have L0:=am_ (show Lst w7 Y0 k0 l from ⟨(Kd.R_reads' r0).2.2,(Kd.R_reads' r0).2.1⟩);have L1:=am_ (show Lst w7 Y1 k1 t from ⟨(Kd.R_reads' r1).2.2,(Kd.R_reads' r1).2.1⟩);have u0:=cell_b y0 hb2;have u1:=cell_b y1 hb2;have u2:=cell_b a0 hb2;have u3:=cell_b a1 hb2;clear r0 r1 hne hb hb2)
    | (go_at_call 21;refine (eq_desk ((HX5.out.below (below_step HB6.out bq_)).s0) ((HX5.out.below (below_step HB6.out bq_)).s1) (L0.out.below bq_) (L1.out.below bq_) HLX.out.1 HLX.out.2).mono ?_;rintro e w8 ⟨rfl,hb⟩;have hb2:=below_step (show Below w7.heap.size w7 _ from bq_) hb;replace HB6:=am_ (below_step HB6.out hb2);have z0:=cell_b u0 hb2;have z1:=cell_b u1 hb2;have z2:=cell_b u2 hb2;have z3:=cell_b u3 hb2;clear hb hb2))
  clear L0 L1 u0 u1 u2 u3 y0 y1 a0 a1 z0 z1 z2 z3;have HX8:=am_ (HX5.out.below HB6.out);replace HD1:=am_ (HD1.out.below HB6.out);replace HB3:=am_ (below_step HB3.out HB6.out);have y0:=HX8.out.k0;have y1:=HX8.out.k1
  go_wp2_with (go_at_call 22;go_loud (refine (HMX.out _ _ _ _ _ _ _ HB3.out HX8.out).mono ?_;rintro e w9 ⟨rfl,hd,hb,hk⟩;clear y0 y1;replace HD1:=am_ ((HD1.out.kept hk (own_old HX.out _ HSZ5.out) (own_old HX.out)).lower (below_size HB3X.out));replace HB3:=am_ hb;have HD:=am_ (HD0.out.below HB3.out);have y0:=HD.out.k0;have y1:=HD.out.k1;have y2:=HD1.out.k0;have y3:=HD1.out.k1;clear hd hb hk))
  go_wp2_with (go_at_call 21;go_loud (refine (eq_desk HD1.out.s0 HD1.out.s1 HD.out.s0 HD.out.s1 HL.out HT.out).mono ?_;rintro e w10 ⟨rfl,hb⟩;clear y0 y1 y2 y3 HD;replace HD1:=am_ (HD1.out.below hb);replace HB3:=am_ (below_step HB3.out hb);have y2:=HD1.out.k0;have y3:=HD1.out.k1;clear hb))
  go_wp2_with (go_at_call 22;go_loud (refine (HM.out _ _ _ _ _ _ _ HB3.out HD1.out).mono ?_;rintro e w11 ⟨rfl,hd,hb,_⟩;clear y2 y3;replace HD1:=am_ hd;replace HB3:=am_ hb;have y2:=HD1.out.k0;have y3:=HD1.out.k1;clear hd hb))
  go_wp2_with (go_at_call 23;go_loud (refine (HH.out _ _ _ _ _ HD1.out.s0 HD1.out.s1).mono ?_;rintro e w12 ⟨rfl,hb⟩;clear y2 y3;replace HD1:=am_ (HD1.out.below hb);replace HB3:=am_ (below_step HB3.out hb);have a0:=blk_cell (blk_below HKA.out (below_step HB0.out HB3.out)) 0;have a1:=blk_cell (blk_below HKA.out (below_step HB0.out HB3.out)) 1;clear hb))
  go_wp2_with (go_at_call 26;go_loud (refine (HTD.out _ _ _ _ _ (HA0.out.below (below_step HB0.out HB3.out)) (HA1.out.below (below_step HB0.out HB3.out))).mono ?_;rintro e w13 ⟨v0,v1,rfl,r0,r1,hne,hb⟩;obtain ⟨Z0,k0,rfl⟩:=Kd.R_slice r0;obtain ⟨Z1,k1,rfl⟩:=Kd.R_slice r1;have L0:=am_ (show Lst w13 Z0 k0 l from ⟨(Kd.R_reads' r0).2.2,(Kd.R_reads' r0).2.1⟩);have L1:=am_ (show Lst w13 Z1 k1 t from ⟨(Kd.R_reads' r1).2.2,(Kd.R_reads' r1).2.1⟩);replace HD1:=am_ (HD1.out.below hb);replace HB3:=am_ (below_step HB3.out hb);clear a0 a1 r0 r1 hne hb))
  go_wp2_with (go_at_call 27;go_loud (refine (HI.out _ _ _ _ _ L0.out L1.out (HGW.out.below (below_step HB0.out HB3.out))).mono ?_;rintro e w14 ⟨v0,v1,rfl,r0,r1,hne,hb⟩;obtain ⟨P0,p0,rfl⟩:=Kd.R_slice r0;obtain ⟨P1,p1,rfl⟩:=Kd.R_slice r1;have HD2:=am_ (DeskV.made r0 r1 hne);have hba:=below_alloc hb (.cells #[.slice P0 ol.length p0,.slice P1 ot.length p1] 36);replace HD1:=am_ (HD1.out.below hba);replace HB3:=am_ (below_step HB3.out hba);have HD:=am_ (HD0.out.below HB3.out);have y0:=HD.out.k0;have y1:=HD.out.k1;have y2:=HD2.out.k0;have y3:=HD2.out.k1;clear r0 r1 hne hb hba))
  go_wp2_with (go_at_call 21;go_loud (refine (eq_desk HD2.out.s0 HD2.out.s1 HD.out.s0 HD.out.s1 HL.out HT.out).mono ?_;rintro e w15 ⟨rfl,hb⟩;clear y0 y1 y2 y3 HD HD2;replace HD1:=am_ (HD1.out.below hb);replace HB3:=am_ (below_step HB3.out hb);have y2:=HD1.out.k0;have y3:=HD1.out.k1;clear hb))
  go_wp2_with (go_at_call 23;go_loud (refine (HH.out _ _ _ _ _ HD1.out.s0 HD1.out.s1).mono ?_;rintro e w16 ⟨rfl,hb⟩;clear y2 y3;replace HB3:=am_ (below_step HB3.out hb);clear hb))
  go_ret;exact ⟨rfl,below_step HBW.out (below_step HB0.out HB3.out)⟩
theorem law_line_big (l t:List Int) (A:Option Addr) (c:Nat) (A':Option Addr) (c':Nat) (s:ByteArray) (w:World) (hs:1048576 < s.size) :
  Calls Tryz.prog 6 #[.agg #[.slice A l.length c,.slice A' t.length c'],.string s] w fun e w'=>e = .returned (.bool true)/\Below w.heap.size w w':=by
 have q0:decide ((s.size:Int) > 1048576) = true:=decide_eq_true (by omega);have HB:=am_ (below_alloc (Below.refl w.heap.size w) (.cells #[.slice A l.length c,.slice A' t.length c'] 43));clear hs;go_enter Tryz.func6,Tryz.ntmps6;go_wp2;go_ret;exact ⟨rfl,HB.out⟩
theorem law_line_long (l t:List Int) (A:Option Addr) (c:Nat) (A':Option Addr) (c':Nat) (s:ByteArray) (w:World) (h0:Lst w A c l) (h1:Lst w A' c' t) (hm0:l.length<=9223372036854775807) (hm1:t.length<=9223372036854775807) (hs:s.size<=1048576) (hsz:1048576 < l.length + t.length) :
  Calls Tryz.prog 6 #[.agg #[.slice A l.length c,.slice A' t.length c'],.string s] w fun e w'=>e = .returned (.bool true)/\Below w.heap.size w w':=by
 have q0:decide ((s.size:Int) > 1048576) = false:=decide_eq_false (by omega);have hb:=below_alloc (Below.refl w.heap.size w) (.cells #[.slice A l.length c,.slice A' t.length c'] 43);have HZ:=am_ (laws_szDesk.calls A c l A' c' t 1048576 _ _ (h0.below hb).1 h0.2 (h1.below hb).1 h1.2 (sz_desk_big l t hm0 hm1 hsz));have HB:=am_ hb;clear hs h0 h1 hsz hm0 hm1 hb;go_enter Tryz.func6,Tryz.ntmps6
 go_wp2_with (go_at_call 24;go_loud (refine HZ.out.mono ?_;rintro e w1 ⟨rfl,hb⟩;replace HB:=am_ (below_step HB.out hb);clear hb))
 go_ret;exact ⟨rfl,HB.out⟩
end Go.Proofs.YtjdlhefjgceabaaGreatDoor.Hand
namespace Go.Proofs.YtjdlhefjgceabaaGreatDoor.Hand
open Go.RowKit Go.Proofs.YtjdlhefjgceabaaGreatDoorW.PrintWords Go.Proofs.YtjdlhefjgceabaaGreatDoorW.PrintLast Go.Proofs.YtjdlhefjgceabaaGreatDoor.PAll
set_option linter.unusedVariables false
theorem good_any (l t:List Int) (ht:t.length<=1099511627776) (A:Option Addr) (c:Nat) (A':Option Addr) (c':Nat) (W:World) (h0:Lst W A c l) (h1:Lst W A' c' t):Calls Tryz.prog 47 #[.agg #[.slice A l.length c,.slice A' t.length c']] W fun e w'=>e = .returned (.bool (Plain.parking l && Plain.table t))/\Below W.heap.size W w':=by
 obtain ⟨k,hk⟩:=show Ev (fun k=>spec_coGood.f k l t) (Plain.parking l && Plain.table t) by
  unfold spec_coGood.f
  refine Ev.bind (Plain.paParking_ev l) ?_
  cases Plain.parking l
  · exact Plain.Ev.neg (by decide) (Ev.now _)
  · exact Plain.Ev.pos rfl (Ev.bind (Plain.prGood_ev t ht) (Ev.now _))
 exact spec_coGood.calls k A c l A' c' t _ W h0.1 h0.2 h1.1 h1.2 (hk k (Nat.le_refl _))
theorem isDesk_any (l t:List Int) (ht:t.length<=1099511627776) (A:Option Addr) (c:Nat) (A':Option Addr) (c':Nat) (W:World) (h0:Lst W A c l) (h1:Lst W A' c' t):Calls Tryz.prog 31 #[.agg #[.slice A l.length c,.slice A' t.length c']] W fun e w'=>e = .returned (.bool (Plain.parking l && Plain.table t))/\Below W.heap.size W w':=by
 obtain ⟨k,hk⟩:=show Ev (fun k=>impl_IsDesk.f k l t) (Plain.parking l && Plain.table t) by
  unfold impl_IsDesk.f
  refine Ev.bind (Plain.isParking_ev l) ?_
  cases Plain.parking l
  · exact Plain.Ev.neg (by decide) (Ev.now _)
  · exact Plain.Ev.pos rfl (Ev.bind (Plain.isTable_ev t ht) (Ev.now _))
 exact impl_IsDesk.calls k A c l A' c' t _ W h0.1 h0.2 h1.1 h1.2 (hk k (Nat.le_refl _))
theorem lineP_ways (l t:List Int) (s:ByteArray) {G:Option Res->Prop} (hs:s.size<=2000000) (h0:(Plain.parking l && Plain.table t) = false->G none) (h1:(Plain.parking l && Plain.table t) = true->decide ((s.size:Int) > 3000) = true->G none) (h2:(Plain.parking l && Plain.table t) = true->decide ((s.size:Int) > 3000) = false->0 < Lib.countB s ⟨#[10]⟩->G none)
  (h3:Plain.parking l = true->Plain.table t = true->s.size<=3000->Lib.countB s ⟨#[10]⟩ = 0->G (some (executeP Plain.dom l t s))):G (lineP Plain.dom l t s):=by
 unfold lineP
 cases hb:(Plain.parking l && Plain.table t) with
 | false =>
  rw [if_neg (fun h=>by rw [show Plain.parking l = true from h.1,show Plain.table t = true from h.2.1] at hb;cases hb)];exact h0 hb
 | true =>
  have hp:=(Bool.and_eq_true _ _ ▸ hb:Plain.parking l = true/\Plain.table t = true)
  by_cases c1:s.size<=3000
  ·
   by_cases c2:Lib.countB s ⟨#[10]⟩ = 0
   · rw [if_pos ⟨hp.1,hp.2,c1,c2⟩];exact h3 hp.1 hp.2 c1 c2
   · rw [if_neg (fun h=>c2 h.2.2.2)];exact h2 hb (decide_eq_false (by omega)) (by omega)
  · rw [if_neg (fun h=>c1 h.2.2.1)];exact h1 hb (decide_eq_true (by omega))
theorem spec_line (l t:List Int) (s:ByteArray) (ht:t.length<=1099511627776) (hs:s.size<=2000000) (W:World) (B:Nat) (A0 A1:Option Addr) (c0 c1:Nat) (r0:Kd.R (Kd.int .i64) 3 W B (fun _=>True) (.slice A0 l.length c0) l) (r1:Kd.R (Kd.int .i64) 3 W B (fun _=>True) (.slice A1 t.length c1) t) (hne:NeRow (.slice A0 l.length c0) (.slice A1 t.length c1)) (hB:B<=W.heap.size) :
  Calls Tryz.prog 25 #[.agg #[.slice A0 l.length c0,.slice A1 t.length c1],.string s] W (GotLine (lineP Plain.dom l t s) W):=by
 have hC:=good_any l t ht A0 c0 A1 c1
 have L0:Lst W A0 c0 l:=⟨(Kd.R_reads' r0).2.2,(Kd.R_reads' r0).2.1⟩
 have L1:Lst W A1 c1 t:=⟨(Kd.R_reads' r1).2.2,(Kd.R_reads' r1).2.1⟩
 refine lineP_ways (G:=fun o=>Calls Tryz.prog 25 #[.agg #[.slice A0 l.length c0,.slice A1 t.length c1],.string s] W (GotLine o W)) l t s hs (fun h=>?_) (fun h q=>?_) (fun h q k=>?_) fun hp ht2 q k=>?_
 · exact spec_line_bad spec_ok _ l t A0 c0 A1 c1 s W L0 L1 hC (.inl h)
 · exact spec_line_bad spec_ok _ l t A0 c0 A1 c1 s W L0 L1 hC (.inr (.inl ⟨h,q⟩))
 · exact spec_line_bad spec_ok _ l t A0 c0 A1 c1 s W L0 L1 hC (.inr (.inr ⟨h,q,hs,k⟩))
 ·
  rw [hp,ht2] at hC;exact spec_line_ok ⟨Plain.dom_good,Plain.dom_pos,spec_ok,hp,ht2,hB,r0,r1,hne⟩ s hC q k
theorem impl_line (l t:List Int) (s:ByteArray) (ht:t.length<=1099511627776) (hs:s.size<=2000000) (W:World) (A0 A1:Option Addr) (c0 c1:Nat) (L0:Lst W A0 c0 l) (L1:Lst W A1 c1 t) (hG:Glob W) :
  Calls Tryz.prog 27 #[.agg #[.slice A0 l.length c0,.slice A1 t.length c1],.string s] W (GotLine (lineP Plain.dom l t s) W):=by
 have hC:=isDesk_any l t ht A0 c0 A1 c1;have hB:=has_byte s 10
 refine lineP_ways (G:=fun o=>Calls Tryz.prog 27 #[.agg #[.slice A0 l.length c0,.slice A1 t.length c1],.string s] W (GotLine o W)) l t s hs (fun h=>?_) (fun h q=>?_) (fun h q k=>?_) fun hp ht2 q k=>?_
 · exact impl_line_bad _ l t A0 c0 A1 c1 s W L0 L1 hC (.inl h)
 · exact impl_line_bad _ l t A0 c0 A1 c1 s W L0 L1 hC (.inr (.inl ⟨h,q⟩))
 · exact impl_line_bad _ l t A0 c0 A1 c1 s W L0 L1 hC (.inr (.inr ⟨h,q,by rw [hB,decide_eq_true k]⟩))
 ·
  rw [hp,ht2] at hC;exact impl_line_ok Plain.dom_good impl_ok l t A0 c0 A1 c1 s W L0 L1 hp ht2 hG hC q (by rw [hB,k];rfl)
theorem lineP_few (l t:List Int) (s:ByteArray) (hs:s.size<=2000000):((lineP Plain.dom l t s).getD noRes).l.length<=2000000/\((lineP Plain.dom l t s).getD noRes).t.length<=2000000:=by
 refine lineP_ways (G:=fun o=>(o.getD noRes).l.length<=2000000/\(o.getD noRes).t.length<=2000000) l t s hs (fun _=>?_) (fun _ _=>?_) (fun _ _ _=>?_) fun hp ht2 q k=>?_
 any_goals exact ⟨Nat.zero_le _,Nat.zero_le _⟩
 have h1:=executeP_ok Plain.dom_good hp ht2 s;have h2:=(Plain.dom_good.park _ h1.1).1;have h3:=(Plain.dom_good.tab _ h1.2).1;exact ⟨by show (executeP _ _ _ _).l.length<=2000000;omega,by show (executeP _ _ _ _).t.length<=2000000;omega⟩
theorem law_every_line (l t:List Int) (A:Option Addr) (c:Nat) (A':Option Addr) (c':Nat) (s:ByteArray) (w:World) (h0:Lst w A c l) (h1:Lst w A' c' t) (hm0:l.length<=9223372036854775807) (hm1:t.length<=9223372036854775807) (hG:Glob w) :
  Calls Tryz.prog 6 #[.agg #[.slice A l.length c,.slice A' t.length c'],.string s] w fun e w'=>e = .returned (.bool true)/\Below w.heap.size w w':=by
 by_cases hs:s.size<=1048576
 ·
  by_cases hz:l.length + t.length<=1048576
  ·
   have hf:=lineP_few l t s (by omega);exact law_line (lineP Plain.dom l t s) l t A c A' c' s w h0 h1 (spec_line l t s (by omega) (by omega)) (impl_line l t s (by omega) (by omega)) hG hs hz hf.1 hf.2
  · exact law_line_long l t A c A' c' s w h0 h1 hm0 hm1 hs (by omega)
 · exact law_line_big l t A c A' c' s w (by omega)
end Go.Proofs.YtjdlhefjgceabaaGreatDoor.Hand
