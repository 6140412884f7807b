/- The reference's texts of lists and tables, walked. Conditions: lists of at most 10000 numbers from 0 on; tables. -/
import Derived.Test.YtjdlhefjgceabaaGreatDoorDa4
set_option linter.unusedVariables false
set_option linter.unusedSimpArgs false
namespace Go.Proofs.YtjdlhefjgceabaaGreatDoor.Hand
open Go.RowKit YtjdlhefjgceabaaGreatDoorW.PrintWords YtjdlhefjgceabaaGreatDoorW.PrintLast YtjdlhefjgceabaaGreatDoorW.PrintMore PAll
set_option maxRecDepth 100000
set_option maxHeartbeats 4000000
theorem vT(n:Int)(w:World)(h0:0<=n)(h:bJ n):Calls Tryz.prog 86 #[.int .i64 n] w (mh (bL n) w):=by
 obtain ⟨k,hk⟩:=Plain.numI_ev n h0 h;exact gY.calls k n _ w (hk k (Nat.le_refl _))
theorem xN(a b:List UInt8):(⟨(a++b).toArray⟩:ByteArray)=⟨a.toArray⟩++⟨b.toArray⟩:=by
 apply ByteArray.ext;simp
theorem Jo(sep:ByteArray):kv [] sep=⟨#[]⟩:=rfl
theorem DY(p sep:ByteArray):kv [p] sep=⟨#[]⟩++p:=by
 unfold kv;rw[List.map_singleton,Lib.join_one,Array.toArray_toList];apply ByteArray.ext;simp
theorem JO(xs:List ByteArray)(p sep:ByteArray)(h:xs≠[]):kv (xs++[p]) sep=kv xs sep++sep++p:=by
 cases xs with
 | nil=>exact absurd rfl h
 | cons x r =>
  unfold kv;rw[List.cons_append,List.map_cons,List.map_cons,Lib.join_cons,Lib.join_cons,List.map_append,List.map_singleton]
  have e:Lib.joinTail sep.data.toList (r.map (·.data.toList)++[p.data.toList])=Lib.joinTail sep.data.toList (r.map (·.data.toList))++(sep.data.toList++p.data.toList):=by
   unfold Lib.joinTail;rw[List.map_append,List.map_singleton,List.flatten_append];simp
  rw[e,<- List.append_assoc,<- List.append_assoc,xN,xN,Array.toArray_toList,Array.toArray_toList]
theorem Gi(m:Nat)(sep:ByteArray)(hs:sep.size<=1)(xs:List ByteArray)(h:∀x∈xs,x.size<=m):(kv xs sep).size<=xs.length * (m+1):=by
 have e:∀y:ByteArray,y.data.toList.length=y.size:=λy=>Array.length_toList
 have:=t_ sep.data.toList m (by rw[e];exact hs) (xs.map (·.data.toList)) (λx hx=>by
  obtain ⟨y,hy,rfl⟩:=List.mem_map.1 hx;have:=h y hy;rw[e]
  exact this)
 rw[List.length_map]at this;show (Lib.join (xs.map (·.data.toList)) sep.data.toList).toArray.size<=_;rw[List.size_toArray];exact this
theorem tL{n:Int}(h:bJ n):(bL n).size<=20:=by
 have:=qF n h;simpa [bL,ByteArray.size] using this
theorem Cn(n:Int):0<(bL n).size:=by
 have:=Ch n;have h:=List.length_pos_iff.2 this;simpa [bL,ByteArray.size] using h
def iT(f:Int->ByteArray)(sep:ByteArray)(l:List Int)(i:Nat):ByteArray:=kv ((l.take i).map f) sep
theorem wh(f:Int->ByteArray)(sep:ByteArray)(l:List Int)(h:0<l.length):iT f sep l 1=iT f sep l 0++f (rd l 0):=by
 unfold iT;rw[show (1:Nat)=0+1 from rfl,List.take_succ_eq_append_getElem h,List.take_zero,List.nil_append,List.map_singleton,DY,List.map_nil,Jo,<- nE l 0 h];rfl
theorem wQ(f:Int->ByteArray)(sep:ByteArray)(l:List Int)(i:Nat)(h0:0<i)(h:i<l.length):iT f sep l (i+1)=iT f sep l i++sep++f (rd l (i:Int)):=by
 unfold iT;rw[List.take_succ_eq_append_getElem h,List.map_append,List.map_singleton,JO _ _ _ (λe=>by have:=congrArg List.length e;rw[List.length_map,List.length_take,List.length_nil]at this;omega),nE l i h]
theorem zB(f:Int->ByteArray)(sep:ByteArray)(l:List Int)(i:Nat)(hs:sep.size<=1)(hl:l.length<=10000)(h:∀x∈l,(f x).size<=20):(iT f sep l i).size<=210000:=by
 have h1:=Gi 20 sep hs ((l.take i).map f) (λy hy=>by
  obtain ⟨x,hx,rfl⟩:=List.mem_map.1 hy
  exact h x (List.mem_of_mem_take hx))
 rw[List.length_map,List.length_take]at h1;unfold iT;omega
theorem Iq(l:List Int):fO l=if (iT bL ⟨#[44]⟩ l l.length).toList=[] then ⟨#[45]⟩else iT bL ⟨#[44]⟩ l l.length:=by
 by_cases h0:l=[]
 ·
  subst h0;rw[if_pos (zG rfl)];rfl
 ·
  have e:iT bL ⟨#[44]⟩ l l.length=kQ l ⟨#[44]⟩:=by
   unfold iT kQ;rw[List.take_length]
  unfold fO;rw[if_neg h0,e,if_neg];intro h;have e2:=zC h
  cases l with
  | nil=>exact h0 rfl
  | cons x r =>
   have h3:(kQ (x :: r) ⟨#[44]⟩).size=((bL x).data.toList++Lib.joinTail [44] ((r.map bL).map (·.data.toList))).length:=by
    unfold kQ kv;rw[List.map_cons,List.map_cons,Lib.join_cons];rfl
   rw[h3,List.length_append]at e2;have h4:=Cn x;have h5:(bL x).data.toList.length=(bL x).size:=Array.length_toList;omega
theorem Cz(A0:Option Addr)(c0:Nat)(l:List Int)(w:World)(hL:aM w A0 c0 l)(hf:fG l)(hp:∀x∈l,0<=x) :
  Calls Tryz.prog 89 #[.slice A0 l.length c0] w (mh (fO l) w):=by
 have HL:ae (l.length<=10000):=⟨hf.1⟩
 have HN:=aa λx hx=>(⟨hp x hx,hf.2 x hx⟩:0<=x/\bJ x)
 have HR0:=aa hL;have HS:=aa λi=>zB bL ⟨#[44]⟩ l i (by decide) hf.1 (λx hx=>tL (hf.2 x hx));have HB:=aa (Below.refl w.heap.size w);clear hL hf hp;go_enter Tryz.func89,Tryz.ntmps89;go_wp2
 go_loopg [3,8] l.length (λkq v3 v8 w'=>∃ (i:Nat) (iz:Int) (J:ByteArray),v8=.int .i64 iz/\v3=.string J/\ae (iz=(i:Int))/\ae (i+kq=l.length)/\ae (J=iT bL ⟨#[44]⟩ l i)/\ae (Below w.heap.size w w'))
 case atStart=>exact ⟨0,0,_,rfl,rfl,⟨rfl⟩,⟨by omega⟩,⟨rfl⟩,HB⟩
 case round =>
  clear HB;obtain ⟨i,iz,J,rfl,rfl,NI,NK,HJ,HB⟩:=hrel
  cases gk with
  | zero =>
   have hi:i=l.length:=by have:=NK.out;omega
   subst hi;have q1:decide (iz<(l.length:Int))=false:=decide_eq_false (by have:=NI.out;omega);have hd:=Iq l;rw[<- HJ.out]at hd
   by_cases hz:J.toList=[]
   ·
    have q2:J.toList.isEmpty=true:=by rw[hz];rfl
    rw[if_pos hz]at hd;have HD:=aa hd;clear hz hd;go_wp2;go_ret;exact ⟨by rw[HD.out];rfl,HB.out⟩
   ·
    have q2:J.toList.isEmpty=false:=by cases hq:J.toList with
     | nil=>exact absurd hq hz
     | cons a r=>rfl
    rw[if_neg hz]at hd;have HD:=aa hd;clear hz hd;go_wp2;go_ret;exact ⟨by rw[HD.out];rfl,HB.out⟩
  | succ d =>
   have hi0:0<=iz:=by have:=NI.out;omega
   have hin:iz<(l.length:Int):=by have:=NI.out;have:=NK.out;omega
   have q1:decide (iz<(l.length:Int))=true:=decide_eq_true hin;obtain ⟨ad0,e0,hx⟩:=Kd.at_int (Kd.C_below HR0.out.1 HB.out) iz hi0 hin;cases e0
   have hi1:i<l.length:=by have:=NK.out;omega
   have HX:=aa (HN.out (rd l iz) (by rw[NI.out,nE l i hi1];exact List.getElem_mem _));have HI:=aa (show wrap64 (iz+1)=((i+1:Nat):Int) by rw[NI.out];have:=NK.out;have:=HL.out;rw[wrap64_in _ (by omega) (by omega)];omega)
   obtain ⟨x,hxx⟩:∃x,x=rd l iz:=⟨_,rfl⟩
   have HC:=aa λW=>vT x W (by rw[hxx];exact HX.out.1) (by rw[hxx];exact HX.out.2)
   obtain ⟨p,hpp⟩:∃p,p=bL x:=⟨_,rfl⟩
   have hps:p.size<=20:=by rw[hpp,hxx];exact tL HX.out.2
   have hJs:J.size<=210000:=by rw[HJ.out];exact HS.out i
   rw[<- hpp]at HC
   have HE:=aa (show iT bL ⟨#[44]⟩ l (i+1)=if i=0 then J++p else J++⟨#[44]⟩++p by
    rw[HJ.out,hpp,hxx,NI.out]
    split
    · rename_i h;subst h;exact wh _ _ _ hi1
    · exact wQ _ _ _ _ (by omega) hi1)
   rw[<- hxx]at hx;clear hxx hpp;replace hi0:=eq_true hi0;replace hin:=eq_true hin
   by_cases hz:i=0
   ·
    have q3:decide (iz>0)=false:=decide_eq_false (by have:=NI.out;omega);have q5:(9223372036854775807<J.size+p.size)=False:=eq_false (by omega);have q6:(J.size+p.size<=9223372036854775807)=True:=eq_true (by omega);rw[if_pos hz]at HE;clear hps hJs hi1 hz
    go_wp2_with (go_at_call 86;go_loud (refine (HC.out _).mono ?_;rintro e w1 ⟨rfl,hb⟩;have HB1:=aa (aj (show Below w.heap.size w _ from aW) hb);clear HB hb;have HB:=HB1;clear HB1))
    go_roundg d
    case measure=>omega
    case rel=>exact ⟨i+1,_,_,rfl,rfl,HI,⟨by have:=NK.out;omega⟩,⟨HE.out.symm⟩,⟨aW⟩⟩
   ·
    have q3:decide (iz>0)=true:=decide_eq_true (by have:=NI.out;omega);have q5:(9223372036854775807<J.size+1)=False:=eq_false (by omega);have q6:(9223372036854775807<J.size+1+p.size)=False:=eq_false (by omega);have q7:(J.size+1<=9223372036854775807)=True:=eq_true (by omega);have q8:(J.size+1+p.size<=9223372036854775807)=True:=eq_true (by omega);rw[if_neg hz]at HE;clear hps hJs hi1 hz
    go_wp2_with (go_at_call 86;go_loud (refine (HC.out _).mono ?_;rintro e w1 ⟨rfl,hb⟩;have HB1:=aa (aj (show Below w.heap.size w _ from aW) hb);clear HB hb;have HB:=HB1;clear HB1))
    go_roundg d
    case measure=>omega
    case rel=>exact ⟨i+1,_,_,rfl,rfl,HI,⟨by have:=NK.out;omega⟩,⟨HE.out.symm⟩,⟨aW⟩⟩
theorem zb{k:Int}(h:bJ k):(gW k).size<=20:=by
 unfold gW
 split
 · decide
 · exact tL h
theorem EE(A0:Option Addr)(c0:Nat)(l:List Int)(w:World)(hL:aM w A0 c0 l)(hl:l.length<=10000)(hp:∀x∈l,-1<=x/\x<=999) :
  Calls Tryz.prog 135 #[.agg #[.slice A0 l.length c0]] w (mh (mO l) w):=by
 have hu:=Tryz.underlying34
 have hI:∀x∈l,bJ x:=λx hx=>by have:=hp x hx;unfold bJ;omega
 have HL:ae (l.length<=10000):=⟨hl⟩
 have HN:=aa λx hx=>(⟨hp x hx,hI x hx⟩:(-1<=x/\x<=999)/\bJ x)
 have HR0:=aa hL;have HS:=aa λi=>zB gW ⟨#[32]⟩ l i (by decide) hl (λx hx=>zb (hI x hx));have HB:=aa (aG (Below.refl w.heap.size w) (.cells #[.slice A0 l.length c0] 34));clear hL hl hp hI;go_enter Tryz.func135,Tryz.ntmps135;go_wp2
 go_loopg [3,9] l.length (λkq v3 v9 w'=>∃ (i:Nat) (iz:Int) (J:ByteArray),v9=.int .i64 iz/\v3=.string J/\ae (iz=(i:Int))/\ae (i+kq=l.length)/\ae (J=iT gW ⟨#[32]⟩ l i)/\ae (Below w.heap.size w w'))
 case atStart=>exact ⟨0,0,_,rfl,rfl,⟨rfl⟩,⟨by omega⟩,⟨rfl⟩,HB⟩
 case round =>
  clear HB;obtain ⟨i,iz,J,rfl,rfl,NI,NK,HJ,HB⟩:=hrel
  cases gk with
  | zero =>
   have hi:i=l.length:=by have:=NK.out;omega
   subst hi;have q1:decide (iz<(l.length:Int))=false:=decide_eq_false (by have:=NI.out;omega);have HD:=aa (show mO l=J by rw[HJ.out];unfold iT mO;rw[List.take_length]);go_wp2;go_ret;exact ⟨by rw[HD.out];rfl,HB.out⟩
  | succ d =>
   have hi0:0<=iz:=by have:=NI.out;omega
   have hin:iz<(l.length:Int):=by have:=NI.out;have:=NK.out;omega
   have q1:decide (iz<(l.length:Int))=true:=decide_eq_true hin;obtain ⟨ad0,e0,hx⟩:=Kd.at_int (Kd.C_below HR0.out.1 HB.out) iz hi0 hin;cases e0
   have hi1:i<l.length:=by have:=NK.out;omega
   have HX:=aa (HN.out (rd l iz) (by rw[NI.out,nE l i hi1];exact List.getElem_mem _));have HI:=aa (show wrap64 (iz+1)=((i+1:Nat):Int) by rw[NI.out];have:=NK.out;have:=HL.out;rw[wrap64_in _ (by omega) (by omega)];omega)
   obtain ⟨x,hxx⟩:∃x,x=rd l iz:=⟨_,rfl⟩
   have hJs:J.size<=210000:=by rw[HJ.out];exact HS.out i
   have hps:(gW x).size<=20:=by rw[hxx];exact zb HX.out.2
   have HE:=aa (show iT gW ⟨#[32]⟩ l (i+1)=if i=0 then J++gW x else J++⟨#[32]⟩++gW x by
    rw[HJ.out,hxx,NI.out]
    split
    · rename_i h;subst h;exact wh _ _ _ hi1
    · exact wQ _ _ _ _ (by omega) hi1)
   rw[<- hxx]at hx HX;clear hxx;replace hi0:=eq_true hi0;replace hin:=eq_true hin;have q5:(9223372036854775807<J.size+1)=False:=eq_false (by omega);have q7:(J.size+1<=9223372036854775807)=True:=eq_true (by omega)
   by_cases hk:x=-1
   ·
    subst hk;have e46:gW (-1)=⟨#[46]⟩:=rfl;rw[e46]at HE;have q6:(9223372036854775807<J.size+1+1)=False:=eq_false (by omega);have q8:(J.size+1+1<=9223372036854775807)=True:=eq_true (by omega);have q6':(9223372036854775807<J.size+2)=False:=eq_false (by omega);have q8':(J.size+2<=9223372036854775807)=True:=eq_true (by omega)
    by_cases hz:i=0
    ·
     have q3:decide (iz>0)=false:=decide_eq_false (by have:=NI.out;omega);rw[if_pos hz]at HE;clear hps hJs hi1 hz e46;go_wp2
     go_roundg d
     case measure=>omega
     case rel=>exact ⟨i+1,_,_,rfl,rfl,HI,⟨by have:=NK.out;omega⟩,⟨HE.out.symm⟩,⟨aW⟩⟩
    ·
     have q3:decide (iz>0)=true:=decide_eq_true (by have:=NI.out;omega);rw[if_neg hz]at HE;clear hps hJs hi1 hz e46;go_wp2
     go_roundg d
     case measure=>omega
     case rel=>exact ⟨i+1,_,_,rfl,rfl,HI,⟨by have:=NK.out;omega⟩,⟨HE.out.symm⟩,⟨aW⟩⟩
   ·
    have q2:(x == (-1:Int))=false:=beq_eq_false_iff_ne.2 hk
    have h0:0<=x:=by have:=HX.out.1;omega
    have HC:=aa λW=>vT x W h0 HX.out.2
    have e46:gW x=bL x:=by unfold gW;rw[if_neg (by omega)]
    rw[e46]at HE hps
    obtain ⟨p,hpp⟩:∃p,p=bL x:=⟨_,rfl⟩
    rw[<- hpp]at HC HE hps;have q6:(9223372036854775807<J.size+1+p.size)=False:=eq_false (by omega);have q8:(J.size+1+p.size<=9223372036854775807)=True:=eq_true (by omega);have q9:(9223372036854775807<J.size+p.size)=False:=eq_false (by omega);have q10:(J.size+p.size<=9223372036854775807)=True:=eq_true (by omega)
    by_cases hz:i=0
    ·
     have q3:decide (iz>0)=false:=decide_eq_false (by have:=NI.out;omega);rw[if_pos hz]at HE;clear hps hJs hi1 hz e46 hpp h0 hk
     go_wp2_with (go_at_call 86;go_loud (refine (HC.out _).mono ?_;rintro e w1 ⟨rfl,hb⟩;have HB1:=aa (aj (show Below w.heap.size w _ from aW) hb);clear HB hb;have HB:=HB1;clear HB1))
     go_roundg d
     case measure=>omega
     case rel=>exact ⟨i+1,_,_,rfl,rfl,HI,⟨by have:=NK.out;omega⟩,⟨HE.out.symm⟩,⟨aW⟩⟩
    ·
     have q3:decide (iz>0)=true:=decide_eq_true (by have:=NI.out;omega);rw[if_neg hz]at HE;clear hps hJs hi1 hz e46 hpp h0 hk
     go_wp2_with (go_at_call 86;go_loud (refine (HC.out _).mono ?_;rintro e w1 ⟨rfl,hb⟩;have HB1:=aa (aj (show Below w.heap.size w _ from aW) hb);clear HB hb;have HB:=HB1;clear HB1))
     go_roundg d
     case measure=>omega
     case rel=>exact ⟨i+1,_,_,rfl,rfl,HI,⟨by have:=NK.out;omega⟩,⟨HE.out.symm⟩,⟨aW⟩⟩
open Go.Shelf Go.Maps
set_option maxHeartbeats 2000000
def nV(back:Int)(l:List Int):Bool:=((dA.f 60 l 3 back).getD ([],false)).2
def jT(j:Nat):List Int:=[((j / 9:Nat):Int),((j / 3 % 3:Nat):Int),((j % 3:Nat):Int)]
def lM(back:Int):Nat->Int
 | 0=>0
 | j+1=>lM back j+if nV back (jT j)=true then 1 else 0
theorem BZ:∀ (k:Fin 9) (j:Fin 27),(dA.f 60 (jT j.1) 3 (k.1:Int)).isSome=true:=by decide +kernel
theorem Ii:∀k:Fin 9,lM (k.1:Int) 27=rd Plain.backT (k.1:Int):=by decide +kernel
theorem Ba(back:Int)(j:Nat):0<=lM back j/\lM back j<=(j:Int):=by
 induction j with
 | zero=>simp[lM]
 | succ j ih=>rw[lM];split <;> omega
theorem G_{back:Int}(h0:0<=back)(h8:back<=8){j:Nat}(hj:j<27)(A:Option Addr)(c:Nat)(w:World)(hr:Kd.C (Kd.int .i64) w A 3 (jT j))(hc:3<=c) :
  Calls Tryz.prog 215 #[.slice A 3 c,.int .i64 3,.int .i64 back] w λe w'=>(∃v,e=.returned (.tuple #[v,.bool (nV back (jT j))]))/\Below w.heap.size w w':=by
 have h:=BZ ⟨back.toNat,by omega⟩ ⟨j,hj⟩
 have e:((back.toNat:Nat):Int)=back:=by omega
 simp only[e]at h;obtain ⟨r,hr2⟩:=Option.isSome_iff_exists.1 h
 have hd:nV back (jT j)=r.2:=by unfold nV;rw[hr2];rfl
 rw[hd]
 refine (dA.calls 60 A c (jT j) 3 back r.1 r.2 w hr hc hr2).mono ?_
 rintro e w' ⟨v,rfl,_,hb⟩;exact ⟨⟨v,rfl⟩,hb⟩
def bU(w:World)(g:Nat)(x y z:Int):Prop:=∃cs:Array Value,w.heap[g]?=some (.cells cs 3 (0,0))/\cs[0]?=some (.int .i64 x)/\cs[1]?=some (.int .i64 y)/\cs[2]?=some (.int .i64 z)
section
variable {w w1:World} {g:Nat} {x y z:Int}
theorem bU.after(h:bU w g x y z)(hb:Below w.heap.size w w1):bU w1 g x y z:=by
 obtain ⟨cs,h1,h2⟩:=h;exact ⟨cs,aI h1 hb,h2⟩
theorem bU.alloc(h:bU w g x y z)(o:Obj):bU (w.alloc o) g x y z:=by
 obtain ⟨cs,h1,h2⟩:=h;exact ⟨cs,bq h1 o,h2⟩
theorem bU.lt(h:bU w g x y z):g<w.heap.size:=by
 obtain ⟨cs,h1,h2⟩:=h;exact dC h1
theorem bU.far(h:bU w g x y z){p:Addr}(hp:g≠p.block)(u:Value):bU (w.setCell p u) g x y z:=by
 obtain ⟨cs,h1,h2⟩:=h;exact ⟨cs,fZ h1 hp u,h2⟩
theorem bU.c0(h:bU w g x y z):w.cell? ⟨g,0,none⟩=some (.int .i64 x)/\w.frozen? ⟨g,0,none⟩=false:=by
 obtain ⟨cs,h1,h2⟩:=h;exact ⟨(ah h1 0).trans h2.1,au h1 0⟩
theorem bU.c1(h:bU w g x y z):w.cell? ⟨g,1,none⟩=some (.int .i64 y)/\w.frozen? ⟨g,1,none⟩=false:=by
 obtain ⟨cs,h1,h2⟩:=h;exact ⟨(ah h1 1).trans h2.2.1,au h1 1⟩
theorem bU.c2(h:bU w g x y z):w.cell? ⟨g,2,none⟩=some (.int .i64 z)/\w.frozen? ⟨g,2,none⟩=false:=by
 obtain ⟨cs,h1,h2⟩:=h;exact ⟨(ah h1 2).trans h2.2.2,au h1 2⟩
theorem tY{cs:Array Value}{i:Nat}{v:Value}(h:cs[i]?=some v):i<cs.size:=(Array.getElem?_eq_some_iff.1 h).1
theorem bU.s0(h:bU w g x y z)(u:Int):bU (w.setCell ⟨g,0,none⟩ (.int .i64 u)) g u y z:=by
 obtain ⟨cs,h1,h2,h3,h4⟩:=h;exact ⟨_,iq h1 0 _,by rw[Array.getElem?_setIfInBounds_self_of_lt (tY h2)],by rw[Array.getElem?_setIfInBounds_ne (by decide),h3],by rw[Array.getElem?_setIfInBounds_ne (by decide),h4]⟩
theorem bU.s1(h:bU w g x y z)(u:Int):bU (w.setCell ⟨g,1,none⟩ (.int .i64 u)) g x u z:=by
 obtain ⟨cs,h1,h2,h3,h4⟩:=h;exact ⟨_,iq h1 1 _,by rw[Array.getElem?_setIfInBounds_ne (by decide),h2],by rw[Array.getElem?_setIfInBounds_self_of_lt (tY h3)],by rw[Array.getElem?_setIfInBounds_ne (by decide),h4]⟩
theorem bU.s2(h:bU w g x y z)(u:Int):bU (w.setCell ⟨g,2,none⟩ (.int .i64 u)) g x y u:=by
 obtain ⟨cs,h1,h2,h3,h4⟩:=h;exact ⟨_,iq h1 2 _,by rw[Array.getElem?_setIfInBounds_ne (by decide),h2],by rw[Array.getElem?_setIfInBounds_ne (by decide),h3],by rw[Array.getElem?_setIfInBounds_self_of_lt (tY h4)]⟩
theorem bU.reads(h:bU w g x y z):Kd.C (Kd.int .i64) w (some ⟨g,0,none⟩) 3 [x,y,z]:=by
 refine ⟨rfl,by decide,λ_=>⟨_,rfl,λj p hj=>⟨[.int .i64 p],rfl,rfl,λi u hi=>?_⟩⟩⟩
 cases i with
 | succ i=>simp at hi
 | zero =>
  obtain rfl:Value.int .i64 p=u:=by simpa using hi
  match j,hj with
  | 0,hj=>exact (show x=p by simpa using hj)▸h.c0.1
  | 1,hj=>exact (show y=p by simpa using hj)▸h.c1.1
  | 2,hj=>exact (show z=p by simpa using hj)▸h.c2.1
  | j+3,hj=>simp at hj
theorem bU.of{b:Nat}{ok:Nat->Prop}{v:Value}(h:Kd.R (Kd.int .i64) 3 w b ok v [x,y,z]):∃g cap,v=.slice (some ⟨g,0,none⟩) 3 cap/\b<=g/\3<=cap/\bU w g x y z:=by
 obtain ⟨_,h2⟩:=Kd.own_of_R h
 rcases h2 with ⟨_,h3⟩|⟨g,cap,cur,rfl,hg,hh,hc,hm,hs,ht⟩
 · simp at h3
 ·
  have hc3:3<=cap:=hc
  have hcur:∀i,i<3->cur[i]?=(encs (Value.int .i64) [x,y,z])[i]?:=λi hi=>by
   rw[<- ht,List.getElem?_take_of_lt (by simpa using hi),Array.getElem?_toList]
  exact ⟨g,cap,rfl,hg,hc3,cur,hh,(hcur 0 (by decide)).trans rfl,(hcur 1 (by decide)).trans rfl,(hcur 2 (by decide)).trans rfl⟩
end
structure Vars (w0:World) (gN gK gM:Nat) (back many:Int) (w:World):Prop where
 below:Below w0.heap.size w0 w
 bN:w.heap[gN]?=some (.cells #[.int .i64 3] 3 (0,0))
 bK:w.heap[gK]?=some (.cells #[.int .i64 back] 3 (0,0))
 bM:w.heap[gM]?=some (.cells #[.int .i64 many] 3 (0,0))
 far:w0.heap.size<=gM/\gN≠gM/\gK≠gM
section
variable {w0 w w1:World} {gN gK gM:Nat} {back many:Int}
theorem Vars.after(h:Vars w0 gN gK gM back many w)(hb:Below w.heap.size w w1):Vars w0 gN gK gM back many w1:=⟨aj h.below hb,aI h.bN hb,aI h.bK hb,aI h.bM hb,h.far⟩
theorem Vars.drewN(h:Vars w0 gN gK gM back many w)(n:Nat):Vars w0 gN gK gM back many (w.drewN n):=⟨dD h.below n,di h.bN n,di h.bK n,di h.bM n,h.far⟩
theorem Vars.drew(h:Vars w0 gN gK gM back many w):Vars w0 gN gK gM back many w.drew:=⟨dw h.below,bS h.bN,bS h.bK,bS h.bM,h.far⟩
theorem Vars.alloc(h:Vars w0 gN gK gM back many w)(o:Obj):Vars w0 gN gK gM back many (w.alloc o):=⟨aG h.below o,bq h.bN o,bq h.bK o,bq h.bM o,h.far⟩
theorem Vars.away(h:Vars w0 gN gK gM back many w){p:Addr}(h0:w0.heap.size<=p.block)(hN:gN≠p.block)(hK:gK≠p.block)(hM:gM≠p.block)(u:Value):Vars w0 gN gK gM back many (w.setCell p u):=⟨h.below.setCell h0 _,fZ h.bN hN u,fZ h.bK hK u,fZ h.bM hM u,h.far⟩
theorem Vars.put(h:Vars w0 gN gK gM back many w)(u:Int):Vars w0 gN gK gM back u (w.setCell ⟨gM,0,none⟩ (.int .i64 u)):=⟨h.below.setCell h.far.1 _,fZ h.bN (p:=⟨gM,0,none⟩) h.far.2.1 _,fZ h.bK (p:=⟨gM,0,none⟩) h.far.2.2 _,dV h.bM 0 _ rfl,h.far⟩
theorem Vars.cN(h:Vars w0 gN gK gM back many w):w.cell? ⟨gN,0,none⟩=some (.int .i64 3):=(ah h.bN 0).trans rfl
theorem Vars.cK(h:Vars w0 gN gK gM back many w):w.cell? ⟨gK,0,none⟩=some (.int .i64 back):=(ah h.bK 0).trans rfl
theorem Vars.cM(h:Vars w0 gN gK gM back many w):w.cell? ⟨gM,0,none⟩=some (.int .i64 many)/\w.frozen? ⟨gM,0,none⟩=false:=⟨(ah h.bM 0).trans rfl,au h.bM 0⟩
end
structure Ring (w0:World) (g0 g1 gL gN gK gM:Nat) (x y z back many:Int) (w:World):Prop where
 vars:Vars w0 gN gK gM back many w
 low:bU w g0 0 0 0
 high:bU w g1 2 2 2
 row:bU w gL x y z
 farL:w0.heap.size<=gL/\g0≠gL/\g1≠gL/\gN≠gL/\gK≠gL/\gM≠gL
 farM:g0≠gM/\g1≠gM
section
variable {w0 w w1:World} {g0 g1 gL gN gK gM:Nat} {x y z back many:Int}
theorem Ring.after(h:Ring w0 g0 g1 gL gN gK gM x y z back many w)(hb:Below w.heap.size w w1):Ring w0 g0 g1 gL gN gK gM x y z back many w1:=⟨h.vars.after hb,h.low.after hb,h.high.after hb,h.row.after hb,h.farL,h.farM⟩
theorem Ring.drewN(h:Ring w0 g0 g1 gL gN gK gM x y z back many w)(n:Nat):Ring w0 g0 g1 gL gN gK gM x y z back many (w.drewN n):=⟨h.vars.drewN n,h.low,h.high,h.row,h.farL,h.farM⟩
theorem Ring.drew(h:Ring w0 g0 g1 gL gN gK gM x y z back many w):Ring w0 g0 g1 gL gN gK gM x y z back many w.drew:=⟨h.vars.drew,h.low,h.high,h.row,h.farL,h.farM⟩
theorem Ring.put(h:Ring w0 g0 g1 gL gN gK gM x y z back many w)(u:Int):Ring w0 g0 g1 gL gN gK gM x y z back u (w.setCell ⟨gM,0,none⟩ (.int .i64 u)):=⟨h.vars.put u,h.low.far h.farM.1 _,h.high.far h.farM.2 _,h.row.far (p:=⟨gM,0,none⟩) (λe=>h.farL.2.2.2.2.2 e.symm) _,h.farL,h.farM⟩
theorem Ring.s(h:Ring w0 g0 g1 gL gN gK gM x y z back many w){i:Nat}{u:Value}{x' y' z':Int}(hr:bU (w.setCell ⟨gL,i,none⟩ u) gL x' y' z'):Ring w0 g0 g1 gL gN gK gM x' y' z' back many (w.setCell ⟨gL,i,none⟩ u) :=
 ⟨h.vars.away (p:=⟨gL,i,none⟩) h.farL.1 h.farL.2.2.2.1 h.farL.2.2.2.2.1 h.farL.2.2.2.2.2 _,h.low.far (p:=⟨gL,i,none⟩) h.farL.2.1 _,h.high.far (p:=⟨gL,i,none⟩) h.farL.2.2.1 _,hr,h.farL,h.farM⟩
theorem tN{P:Prop}(h:P:=by repeat (first|(with_reducible first|exact HG.out|apply Ring.drewN|apply Ring.drew|apply Ring.put)|exact HG.out)):P:=h
theorem Jy(h0:0<=back)(h8:back<=8){j:Nat}(hj:j<27){cL:Nat}(hc:3<=cL){a b c:Int}(he:jT j=[a,b,c])(hm:0<=many/\many<=26)(hG:Ring w0 g0 g1 gL gN gK gM a b c back many w) :
  Calls Tryz.prog 214 #[.slice (some ⟨gL,0,none⟩) 3 cL,.pointer (some ⟨gN,0,none⟩),.pointer (some ⟨gK,0,none⟩),.pointer (some ⟨gM,0,none⟩)] w λe w'=>e=.returned (.tuple #[])/\Ring w0 g0 g1 gL gN gK gM a b c back (many+if nV back (jT j)=true then 1 else 0) w':=by
 have HD:=aa λW (h:Kd.C (Kd.int .i64) W (some ⟨gL,0,none⟩) 3 (jT j))=>G_ h0 h8 hj (some ⟨gL,0,none⟩) cL W h hc;rw[he]at HD ⊢;have HG:=aa hG;have hcN:=hG.vars.cN;have hcK:=hG.vars.cK
 have hw:IntKind.i64.wrap (many+1)=many+1:=by rw[cO,wrap64_in _ (by omega) (by omega)]
 have HW:=aa hw;clear h0 h8 hj hc he hG hm;cases hq:nV back [a,b,c]
 all_goals
  rw[hq]at HD;clear hq;go_enter Tryz.func214,Tryz.ntmps214
  go_wp2_with (go_at_call 215;go_loud (refine (HD.out _ (Ring.row (show Ring w0 g0 g1 gL gN gK gM a b c back many _ from tN)).reads).mono ?_;rintro e w1 ⟨⟨v,rfl⟩,hb⟩;have HG1:=aa (Ring.after (show Ring w0 g0 g1 gL gN gK gM a b c back many _ from tN) hb);clear HG hb hcN hcK;have HG:=HG1;clear HG1;obtain ⟨hcM,hfM⟩:=HG.out.vars.cM))
  go_end0
  all_goals first
   | (refine ⟨rfl,?_⟩;first|exact HG.out.put _|exact HG.out|(rw[Int.add_zero];exact HG.out))
   | exact absurd h (by decide)
end
def Cc(a b c i x y z:Int):Prop:=(i=2/\x=a/\y=b/\z=c)\/(i=1/\c=2/\x=a/\y=b/\z=0)\/(i=0/\c=2/\b=2/\x=a/\y=0/\z=0)\/(i=-1/\c=2/\b=2/\a=2/\x=0/\y=0/\z=0)
theorem Aj{back:Int}(h0:0<=back)(h8:back<=8):lM back 27=rd Plain.backT back:=by
 have h:=Ii ⟨back.toNat,by omega⟩;simp only[show ((back.toNat:Nat):Int)=back by omega]at h;exact h
theorem CU{w0 w:World}{gN gK gM g0 g1 c0 c1:Nat}{back:Int}(h0:0<=back)(h8:back<=8)(hV:Vars w0 gN gK gM back 0 w)(hl:bU w g0 0 0 0)(hh:bU w g1 2 2 2)(hf:g0≠gM/\g1≠gM)(hc0:3<=c0)(hc1:3<=c1) :
  Calls Tryz.prog 240 #[.slice (some ⟨g0,0,none⟩) 3 c0,.slice (some ⟨g1,0,none⟩) 3 c1,.func (.func 214) #[] #[.pointer (some ⟨gN,0,none⟩),.pointer (some ⟨gK,0,none⟩),.pointer (some ⟨gM,0,none⟩)]] w λe w'=>e=.returned (.tuple #[])/\Vars w0 gN gK gM back (rd Plain.backT back) w':=by
 have eg:∀args w,(callFunc 214 args).run Tryz.prog w=.ok (.enter 214 args) w:=enters_of Tryz.func214 (by kernel_rfl) rfl;have HCL:=aa (iw.calls (some ⟨g0,0,none⟩) c0 [0,0,0] [0,0,0] w hl.reads hc0 rfl);have HV:=aa hV;have HL:=aa hl;have HH:=aa hh;have HF:=aa hf;have H8:=aa (And.intro h0 h8);clear h0 h8 hV hl hh hf hc0 hc1;go_enter Tryz.func240,Tryz.ntmps240
 go_wp2_with (go_at_call 53;go_loud (refine HCL.out.mono ?_;rintro e w1 ⟨v,rfl,hv,hb⟩;obtain ⟨gL,cL,rfl,hgL,hcL,hr⟩:=bU.of hv;have HG:=aa (show Ring w0 g0 g1 gL gN gK gM 0 0 0 back 0 w1 from ⟨HV.out.after hb,HL.out.after hb,HH.out.after hb,hr,⟨Nat.le_trans HV.out.below.size hgL,Nat.ne_of_lt (Nat.lt_of_lt_of_le HL.out.lt hgL),Nat.ne_of_lt (Nat.lt_of_lt_of_le HH.out.lt hgL),Nat.ne_of_lt (Nat.lt_of_lt_of_le (dC HV.out.bN) hgL),Nat.ne_of_lt (Nat.lt_of_lt_of_le (dC HV.out.bK) hgL),Nat.ne_of_lt (Nat.lt_of_lt_of_le (dC HV.out.bM) hgL)⟩,HF.out⟩);have HCC:=aa hcL;clear hv hb hr hgL hcL HV HL HH HF HCL))
 go_loopg [7] 26 (λkq v7 w'=>∃ (j:Nat) (a b c many:Int),ae (j+kq=26/\jT j=[a,b,c]/\many=lM back j)/\ae (Ring w0 g0 g1 gL gN gK gM a b c back many w'))
 case atStart=>exact ⟨0,0,0,0,0,⟨rfl,rfl,rfl⟩,HG⟩
 case round =>
  clear HG;obtain ⟨j,a,b,c,many,HJ,HG⟩:=hrel
  obtain ⟨gg,hgg⟩:∃gg:Nat,gg=gk:=⟨_,rfl⟩
  have HGG:=aa hgg
  obtain ⟨m1,hm1⟩:∃m1,m1=lM back (j+1):=⟨_,rfl⟩
  have HC:ae (∀W,Ring w0 g0 g1 gL gN gK gM a b c back many W->Calls Tryz.prog 214 #[.slice (some ⟨gL,0,none⟩) 3 cL,.pointer (some ⟨gN,0,none⟩),.pointer (some ⟨gK,0,none⟩),.pointer (some ⟨gM,0,none⟩)] W λe w'=>e=.returned (.tuple #[])/\Ring w0 g0 g1 gL gN gK gM a b c back m1 w'):=⟨λW h=>by
   have hj:=HJ.out;have hin:=Ba back j;have h1:=Jy H8.out.1 H8.out.2 (j:=j) (by omega) HCC.out hj.2.1 (by rw[hj.2.2];omega) h
   rwa [hj.2.2,show lM back j+(if nV back (jT j)=true then 1 else 0)=m1 from hm1.symm]at h1⟩
  have HM1:=aa hm1;clear hgg hm1
  go_wp2_with (go_at_fn 214;refine (HC.out _ (show Ring w0 g0 g1 gL gN gK gM a b c back many _ from tN)).mono ?_;rintro e w2 ⟨rfl,hG⟩;have HG2:=aa hG;clear HG HC hG)
  go_loopg [7] 3 (λkq v7 w'=>∃ (i x y z:Int),v7=.int .i64 i/\ae (Cc a b c i x y z/\i+1<=(kq:Int))/\ae (Ring w0 g0 g1 gL gN gK gM x y z back m1 w'))
  case atStart=>exact ⟨2,a,b,c,rfl,⟨.inl ⟨rfl,rfl,rfl,rfl⟩,by omega⟩,HG2⟩
  case round =>
   clear HG2;obtain ⟨i,x,y,z,rfl,HS,HG⟩:=hrel;have hj:=HJ.out;have e1:=List.cons.inj hj.2.1;have e2:=List.cons.inj e1.2;have e3:=List.cons.inj e2.2;have HE:=aa (show ((j / 9:Nat):Int)=a/\((j / 3 % 3:Nat):Int)=b/\((j % 3:Nat):Int)=c/\j+gg=26 from ⟨e1.1,e2.1,e3.1,by have:=HGG.out;omega⟩);clear e1 e2 e3 hj
   rcases HS.out.1 with ⟨rfl,ex,ey,ez⟩|⟨rfl,ec,ex,ey,ez⟩|⟨rfl,ec,eb,ex,ey,ez⟩|⟨rfl,ec,eb,ea,ex,ey,ez⟩
   ·
    obtain ⟨hx,hfx⟩:=HG.out.row.c2;obtain ⟨hh,_⟩:=HG.out.high.c2;obtain ⟨hl,_⟩:=HG.out.low.c2;have HS1:=aa (⟨ex,ey,ez⟩:x=a/\y=b/\z=c)
    by_cases hz:z=2
    ·
     have HS2:=aa (hz.symm.trans ez).symm;subst hz;clear ex ey ez;go_wp2
     go_big_region
     all_goals
      go_wp2
      go_roundg 2
      case measure=>have:=HS.out.2;omega
      case rel=>exact ⟨1,x,y,0,rfl,⟨.inr (.inl ⟨rfl,HS2.out,HS1.out.1,HS1.out.2.1,rfl⟩),by decide⟩,⟨by first|exact (HG.out.s (HG.out.row.s2 0)).drew|exact HG.out.s (HG.out.row.s2 0)⟩⟩
    ·
     have q1:(z == 2)=false:=beq_eq_false_iff_ne.2 hz;have q2:decide (z=2)=false:=decide_eq_false hz;have HZ:=aa hz
     have hw:IntKind.i64.wrap (z+1)=z+1:=by rw[cO,wrap64_in _ (by have:=HE.out;omega) (by have:=HE.out;omega)]
     clear ex ey ez;go_wp2
     go_big_region
     all_goals
      go_wp2
      go_roundg (gg - 1)
      case measure=>have:=HE.out;have:=HGG.out;have:=HS1.out;have:=HZ.out;omega
      case rel =>
       have h1:=HE.out;have h2:=HS1.out;have h3:=HZ.out;refine ⟨j+1,x,y,z+1,m1,⟨by omega,?_,HM1.out⟩,⟨by first|exact (HG.out.s (HG.out.row.s2 _)).drew|exact HG.out.s (HG.out.row.s2 _)⟩⟩;unfold jT;rw[show (((j+1) / 9:Nat):Int)=x by omega,show (((j+1) / 3 % 3:Nat):Int)=y by omega,show (((j+1) % 3:Nat):Int)=z+1 by omega]
   ·
    obtain ⟨hx,hfx⟩:=HG.out.row.c1;obtain ⟨hh,_⟩:=HG.out.high.c1;obtain ⟨hl,_⟩:=HG.out.low.c1;have HS1:=aa (⟨ex,ey,ez,ec⟩:x=a/\y=b/\z=0/\c=2)
    by_cases hz:y=2
    ·
     have HS2:=aa (hz.symm.trans ey).symm;subst hz;clear ex ey ez ec;go_wp2
     go_big_region
     all_goals
      go_wp2
      go_roundg 1
      case measure=>have:=HS.out.2;omega
      case rel=>exact ⟨0,x,0,z,rfl,⟨.inr (.inr (.inl ⟨rfl,HS1.out.2.2.2,HS2.out,HS1.out.1,rfl,HS1.out.2.2.1⟩)),by decide⟩,⟨by first|exact (HG.out.s (HG.out.row.s1 0)).drew|exact HG.out.s (HG.out.row.s1 0)⟩⟩
    ·
     have q1:(y == 2)=false:=beq_eq_false_iff_ne.2 hz;have q2:decide (y=2)=false:=decide_eq_false hz;have HZ:=aa hz
     have hw:IntKind.i64.wrap (y+1)=y+1:=by rw[cO,wrap64_in _ (by have:=HE.out;omega) (by have:=HE.out;omega)]
     clear ex ey ez ec;go_wp2
     go_big_region
     all_goals
      go_wp2
      go_roundg (gg - 1)
      case measure=>have:=HE.out;have:=HGG.out;have:=HS1.out;have:=HZ.out;omega
      case rel =>
       have h1:=HE.out;have h2:=HS1.out;have h3:=HZ.out;refine ⟨j+1,x,y+1,z,m1,⟨by omega,?_,HM1.out⟩,⟨by first|exact (HG.out.s (HG.out.row.s1 _)).drew|exact HG.out.s (HG.out.row.s1 _)⟩⟩;unfold jT;rw[show (((j+1) / 9:Nat):Int)=x by omega,show (((j+1) / 3 % 3:Nat):Int)=y+1 by omega,show (((j+1) % 3:Nat):Int)=z by omega]
   ·
    obtain ⟨hx,hfx⟩:=HG.out.row.c0;obtain ⟨hh,_⟩:=HG.out.high.c0;obtain ⟨hl,_⟩:=HG.out.low.c0;have HS1:=aa (⟨ex,ey,ez,ec,eb⟩:x=a/\y=0/\z=0/\c=2/\b=2)
    by_cases hz:x=2
    ·
     have HS2:=aa (hz.symm.trans ex).symm;subst hz;clear ex ey ez ec eb;go_wp2
     go_big_region
     all_goals
      go_wp2
      go_roundg 0
      case measure=>have:=HS.out.2;omega
      case rel=>exact ⟨-1,0,y,z,rfl,⟨.inr (.inr (.inr ⟨rfl,HS1.out.2.2.2.1,HS1.out.2.2.2.2,HS2.out,rfl,HS1.out.2.1,HS1.out.2.2.1⟩)),by decide⟩,⟨by first|exact (HG.out.s (HG.out.row.s0 0)).drew|exact HG.out.s (HG.out.row.s0 0)⟩⟩
    ·
     have q1:(x == 2)=false:=beq_eq_false_iff_ne.2 hz;have q2:decide (x=2)=false:=decide_eq_false hz;have HZ:=aa hz
     have hw:IntKind.i64.wrap (x+1)=x+1:=by rw[cO,wrap64_in _ (by have:=HE.out;omega) (by have:=HE.out;omega)]
     clear ex ey ez ec eb;go_wp2
     go_big_region
     all_goals
      go_wp2
      go_roundg (gg - 1)
      case measure=>have:=HE.out;have:=HGG.out;have:=HS1.out;have:=HZ.out;omega
      case rel =>
       have h1:=HE.out;have h2:=HS1.out;have h3:=HZ.out;refine ⟨j+1,x+1,y,z,m1,⟨by omega,?_,HM1.out⟩,⟨by first|exact (HG.out.s (HG.out.row.s0 _)).drew|exact HG.out.s (HG.out.row.s0 _)⟩⟩;unfold jT;rw[show (((j+1) / 9:Nat):Int)=x+1 by omega,show (((j+1) / 3 % 3:Nat):Int)=y by omega,show (((j+1) % 3:Nat):Int)=z by omega]
   ·
    have hm:m1=rd Plain.backT back:=by
     have h1:=HE.out;rw[HM1.out,show j+1=27 by omega,Aj H8.out.1 H8.out.2]
    have HM2:=aa hm;clear ex ey ez ea eb ec hm;go_wp2
    go_big_region
    all_goals
     go_wp2
     refine bodyPost_ret (results_none rfl _ _ _) rfl ?_
     have h3:=HG.out.vars;rw[HM2.out]at h3
     first|exact ⟨rfl,h3.drew⟩|exact ⟨rfl,h3⟩
theorem bU.new(w:World):bU (w.alloc (.cells (madeCells #[.int .i64 0] 3) 3)) w.heap.size 0 0 0:=by
 have e:madeCells #[Value.int .i64 0] 3=#[.int .i64 0,.int .i64 0,.int .i64 0]:=(zq 3).trans rfl;exact ⟨_,bC _ _,by rw[e];rfl,by rw[e];rfl,by rw[e];rfl⟩
theorem new2(w:World)(o o':Obj):((w.alloc o).alloc o').heap[w.heap.size+1]?=some o':=by
 have hz:(w.alloc o).heap.size=w.heap.size+1:=by simp
 have hn:=bC (w.alloc o) o'
 rwa [hz]at hn
theorem bU.new2(w:World)(o:Obj):bU ((w.alloc o).alloc (.cells (madeCells #[.int .i64 0] 3) 3)) (w.heap.size+1) 0 0 0:=by
 have hz:(w.alloc o).heap.size=w.heap.size+1:=by simp
 have hn:=bU.new (w.alloc o)
 rwa [hz]at hn
theorem bU.drew{w:World}{g:Nat}{x y z:Int}(h:bU w g x y z):bU w.drew g x y z:=h
theorem Hu(ad:Addr)(c0:Nat)(w:World)(hx:w.cell? ad=some (.int .i64 2)):Calls Tryz.prog 106 #[.slice (some ad) 1 c0,.int .i64 3] w λe w'=>(∃g cap,e=.returned (.slice (some ⟨g,0,none⟩) 3 cap)/\w.heap.size<=g/\3<=cap/\bU w' g 2 2 2)/\Below w.heap.size w w':=by
 refine (xw 3 (by decide) (by decide) ad c0 2 w hx).mono ?_
 rintro e w' ⟨v,rfl,hv,hb⟩;obtain ⟨g,cap,rfl,h1,h2,h3⟩:=bU.of (x:=2) (y:=2) (z:=2) hv;exact ⟨⟨g,cap,rfl,h1,h2,h3⟩,hb⟩
theorem Gb{w0 w:World}{gN gK gM:Nat}{back:Int}(h0:0<=back)(h8:back<=8)(hV:Vars w0 gN gK gM back 0 w) :
  Calls Tryz.prog 213 #[.int .i64 3,.func (.func 214) #[] #[.pointer (some ⟨gN,0,none⟩),.pointer (some ⟨gK,0,none⟩),.pointer (some ⟨gM,0,none⟩)]] w λe w'=>e=.returned (.tuple #[])/\Vars w0 gN gK gM back (rd Plain.backT back) w':=by
 have hmk:∀W:World,(Instr.makeSlice 22 (.int .i64 3) (.int .i64 3)).run Tryz.prog W=.ok (.slice (some ⟨W.heap.size,0,none⟩) 3 3) (W.alloc (.cells (madeCells #[.int .i64 0] 3) 3)):=λW=>vY (P:=Tryz.prog) 22 3 .i64 8 Tryz.underlying22 mq (by decide) 3 (by decide) W;have HV:=aa hV;have HA:=aa λ(W:World) (g0 g1 c0 c1:Nat)=>@CU w0 W gN gK gM g0 g1 c0 c1 back h0 h8;clear h0 h8 hV;go_enter Tryz.func213,Tryz.ntmps213;have HM:=aa (dC HV.out.bM);go_wp2
 go_region_held3 (λW:World=>True) (trivial) (first
  | (go_at_call 106;go_loud (refine (Hu _ _ _ (by refine (ah (cs:=#[.int .i64 2]) (t:=3) ?_ 0).trans rfl;first|(with_reducible exact bS (bC _ _))|(with_reducible exact bS (bq (bC _ _) _))|(with_reducible exact bS (new2 _ _ _)))).mono ?_;rintro e w1 ⟨⟨g1,c1,rfl,hg1,hc1,hr1⟩,hb⟩;have HV1:ae (Vars w0 gN gK gM back 0 w1):=⟨Vars.after (by with_reducible first|exact (HV.out.alloc _).drew|exact ((HV.out.alloc _).alloc _).drew) hb⟩;have HR1:=aa hr1;have HC1:=aa hc1;have HM1:ae (gM<w1.heap.size/\g1≠gM):=⟨by have h1:=HM.out;have h2:=hb.size;simp at h2 hg1;omega⟩;(try (have HL1:ae (bU w1 w.heap.size 0 0 0):=⟨bU.after (by with_reducible exact bU.drew ((bU.new w).alloc _)) hb⟩));(try (have HL2:ae (bU w1 (w.heap.size+1) 0 0 0):=⟨bU.after (by with_reducible exact bU.drew (bU.new2 w _)) hb⟩));clear hr1 hc1 hg1 hb))
  | (go_at_call 240;go_loud (first
    | refine (HA.out _ _ _ _ _ HV1.out HL1.out HR1.out ⟨Nat.ne_of_gt HM.out,HM1.out.2⟩ (by decide) HC1.out).mono ?_
    | refine (HA.out _ _ _ _ _ HV1.out HL2.out HR1.out ⟨Nat.ne_of_gt (Nat.lt_succ_of_lt HM.out),HM1.out.2⟩ (by decide) HC1.out).mono ?_
    | refine (HA.out _ _ _ _ _ (HV1.out.alloc _) (bU.new w1) (HR1.out.alloc _) ⟨Nat.ne_of_gt HM1.out.1,HM1.out.2⟩ (by decide) HC1.out).mono ?_);rintro e w2 ⟨rfl,hV2⟩;have HV2:=aa hV2;clear hV2))
 all_goals
  go_wp2
  go_end0
  first|exact ⟨rfl,HV2.out⟩|exact ⟨rfl,HV2.out.drew⟩
theorem Vars.start(w:World)(back:Int):Vars w w.heap.size (w.heap.size+1) (w.heap.size+2) back 0 (((w.alloc (.cells #[.int .i64 3] 3)).alloc (.cells #[.int .i64 back] 3)).alloc (.cells #[.int .i64 0] 3)):=by
 have h1:=new2 w (.cells #[.int .i64 3] 3) (.cells #[.int .i64 back] 3);have hn:=bC ((w.alloc (.cells #[.int .i64 3] 3)).alloc (.cells #[.int .i64 back] 3)) (.cells #[.int .i64 0] 3)
 have hz:((w.alloc (.cells #[.int .i64 3] 3)).alloc (.cells #[.int .i64 back] 3)).heap.size=w.heap.size+2:=by simp
 rw[hz]at hn;exact ⟨aG (aG (aG (Below.refl _ _) _) _) _,bq (bq (bC w _) _) _,bq h1 _,hn,⟨by omega,by omega,by omega⟩⟩
theorem ES(w:World):Calls Tryz.prog 211 #[.int .i64 3] w λe w'=>e=.returned (.bool true)/\bg w w':=r9.calls 3 true w rfl
theorem Co(n:Int)(w:World):Calls Tryz.prog 212 #[.int .i64 n] w λe w'=>e=.returned (.bool (decide (0<=n/\n<=8)))/\bg w w':=pV.calls n _ w (by
 unfold pV.f gB.f
 by_cases h:0<=n/\n<=8
 · simp[h]
 · simp[h];omega)
theorem EY(n:Int)(hn:0<=n)(w:World):Calls Tryz.prog 152 #[.int .i64 3,.int .i64 n] w (kg (Plain.backL n) w):=by
 have hi:=Co n;have HT:=aa ES
 by_cases h:0<=n/\n<=8
 ·
  rw[decide_eq_true h]at hi;have HI:=aa hi;have HV:=aa (Vars.start w n);have HL:=aa λ(W:World)=>@Gb w W w.heap.size (w.heap.size+1) (w.heap.size+2) n h.1 h.2;rw[show Plain.backL n=some (rd Plain.backT n) by unfold Plain.backL;rw[if_pos h]]
  obtain ⟨r,hr⟩:∃r,r=rd Plain.backT n:=⟨_,rfl⟩
  rw[<- hr]at HL ⊢;have hcN:((w.alloc (.cells #[.int .i64 3] 3)).alloc (.cells #[.int .i64 n] 3)).cell? ⟨w.heap.size,0,none⟩=some (.int .i64 3):=(ah (bq (bC w _) _) 0).trans rfl;have hcK:((w.alloc (.cells #[.int .i64 3] 3)).alloc (.cells #[.int .i64 n] 3)).cell? ⟨w.heap.size+1,0,none⟩=some (.int .i64 n):=(ah (new2 w _ _) 0).trans rfl;have hcV:=HV.out.cN;clear h hi hr hn;go_enter Tryz.func152,Tryz.ntmps152
  go_wp2_with (first
   | (go_at_call 211;go_loud (refine (HT.out _).mono ?_;rintro e w1 ⟨rfl,⟨q,rfl⟩⟩))
   | (go_at_call 212;go_loud (refine (HI.out _).mono ?_;rintro e w1 ⟨rfl,⟨q,rfl⟩⟩))
   | (go_at_call 213;go_loud (refine (HL.out _ (by first|exact HV.out.drewN _|exact (HV.out.drewN _).drewN _)).mono ?_;rintro e w2 ⟨rfl,hV⟩;have HV2:=aa hV;obtain ⟨hcM,hfM⟩:=hV.cM;clear hV)))
  go_ret2;exact ⟨_,rfl,λm h=>Option.some.inj h,HV2.out.below⟩
 ·
  rw[decide_eq_false h]at hi;have HI:=aa hi;rw[show Plain.backL n=none by unfold Plain.backL;rw[if_neg h]];have hcN:((w.alloc (.cells #[.int .i64 3] 3)).alloc (.cells #[.int .i64 n] 3)).cell? ⟨w.heap.size,0,none⟩=some (.int .i64 3):=(ah (bq (bC w _) _) 0).trans rfl;have hcK:((w.alloc (.cells #[.int .i64 3] 3)).alloc (.cells #[.int .i64 n] 3)).cell? ⟨w.heap.size+1,0,none⟩=some (.int .i64 n):=(ah (new2 w _ _) 0).trans rfl;have HB:=aa (aG (aG (Below.refl w.heap.size w) (.cells #[.int .i64 3] 3)) (.cells #[.int .i64 n] 3));clear h hi hn;go_enter Tryz.func152,Tryz.ntmps152
  go_wp2_with (first
   | (go_at_call 211;go_loud (refine (HT.out _).mono ?_;rintro e w1 ⟨rfl,⟨q,rfl⟩⟩))
   | (go_at_call 212;go_loud (refine (HI.out _).mono ?_;rintro e w1 ⟨rfl,⟨q,rfl⟩⟩)))
  go_ret2;exact ⟨_,rfl,λm h=>(by cases h),by first|exact dD HB.out _|exact dD (dD HB.out _) _⟩
end Go.Proofs.YtjdlhefjgceabaaGreatDoor.Hand
namespace Go.Proofs.YtjdlhefjgceabaaGreatDoor.Hand
open Go.RowKit YtjdlhefjgceabaaGreatDoorW.PrintWords YtjdlhefjgceabaaGreatDoorW.PrintLast YtjdlhefjgceabaaGreatDoorW.PrintMore PAll
set_option maxRecDepth 100000
set_option maxHeartbeats 1000000
theorem EO(w:World):Calls Tryz.prog 67 #[] w (nk [0] firstT w):=by
 have HC:=aa λ(w:World)=>fK.calls 20 7 (List.replicate 7 (-1)) w (by decide +kernel);have b1:=aG (Below.refl w.heap.size w) (.cells #[.slice none 0 0,.slice none 0 0] 36)
 have e:(w.alloc (.cells #[.slice none 0 0,.slice none 0 0] 36)).heap.size=w.heap.size+1:=by simp
 have HB:=aa (aG b1 (.cells #[.int .i64 0] 3));have HK:=aa (bq (bC w (.cells #[.slice none 0 0,.slice none 0 0] 36)) (.cells #[.int .i64 0] 3));have hn:=bC (w.alloc (.cells #[.slice none 0 0,.slice none 0 0] 36)) (.cells #[.int .i64 0] 3);rw[e]at hn
 have HL:=aa (show Kd.R (Kd.int .i64) 3 ((w.alloc (.cells #[.slice none 0 0,.slice none 0 0] 36)).alloc (.cells #[.int .i64 0] 3)) w.heap.size (λ_=>True) (.slice (some ⟨w.heap.size+1,0,none⟩) 1 1) [0] from
  Kd.R_of_own ⟨by simp[encs],.inr ⟨w.heap.size+1,1,_,rfl,Nat.le_succ _,hn,by simp,by simp[maxLen],by simp,by simp[encs]⟩⟩ (λ_ _=>trivial))
 clear b1 e hn;go_enter Tryz.func67,Tryz.ntmps67
 go_wp2_with (go_at_call 107;go_loud (refine (HC.out _).mono ?_;rintro e w1 ⟨v,rfl,hv,hb⟩;obtain ⟨A,c,rfl⟩:=Kd.R_slice hv;have hk:=aI HK.out hb;have hc0:w1.cell? ⟨w.heap.size,0,none⟩=some (.slice none 0 0):=ah hk 0;have hc1:w1.cell? ⟨w.heap.size,1,none⟩=some (.slice none 0 0):=ah hk 1;have hf0:=au hk 0;have hf1:=au hk 1;have HK2:=aa hk;have HNE:=aa (l7 hv HL.out);have HV:=aa (Kd.R_lower hv (ay HB.out));have HL2:=aa (Kd.R_below HL.out hb);have HE:=aa (aj HB.out hb);clear hk hv hb))
 have HV2:=set2 (a:=.slice (some ⟨w.heap.size+1,0,none⟩) 1 1) (b:=.slice A 7 c) HK2.out HV.out (by decide);have HL3:=set2 (a:=.slice (some ⟨w.heap.size+1,0,none⟩) 1 1) (b:=.slice A 7 c) HK2.out HL2.out (by decide);exact bodyPost_ret (v:=.agg #[.slice (some ⟨w.heap.size+1,0,none⟩) 1 1,.slice A 7 c]) (by simp[results,Tryz.results67,go_sem,hc0,hc1]) rfl ⟨_,_,rfl,HL3,HV2,λk h1 h2=>HNE.out k h2 h1,bf (bf HE.out (Nat.le_refl _)) (Nat.le_refl _)⟩
section
variable {w w':World} {e:Ending}
theorem lF{o:Option (List Int)}(h:∃v0_,e=.returned (.tuple #[v0_,.bool (Plain.rowO o).2])/\Kd.R (Kd.int .i64) 3 w' w.heap.size (λ_=>True) v0_ (Plain.rowO o).1/\Below w.heap.size w w'):jo o w e w':=by
 obtain ⟨v,rfl,h1,h2⟩:=h;exact ⟨v,_,rfl,h1,λm hm=>by subst hm;rfl,h2⟩
theorem o9{o:Option Int}(h:e=.returned (.tuple #[.int .i64 (Plain.numO o).1,.bool (Plain.numO o).2])/\Below w.heap.size w w'):kg o w e w':=by
 obtain ⟨rfl,h2⟩:=h;exact ⟨_,rfl,λm hm=>by subst hm;rfl,h2⟩
theorem F3{o:Option (List Int)}(h:∃v0_,e=.returned (.tuple #[.agg #[v0_],.bool (Plain.rowO o).2])/\Kd.R (Kd.int .i64) 3 w' w.heap.size (λ_=>True) v0_ (Plain.rowO o).1/\Below w.heap.size w w'):kP o w e w':=by
 obtain ⟨v,rfl,h1,h2⟩:=h;exact ⟨v,_,rfl,h1,λm hm=>by subst hm;rfl,h2⟩
theorem xD{o:Option (Int × Int)}(h:e=.returned (.tuple #[.int .i64 (Plain.findO o).1,.int .i64 (Plain.findO o).2.1,.bool (Plain.findO o).2.2])/\Below w.heap.size w w'):uO o w e w':=by
 obtain ⟨rfl,h2⟩:=h;exact ⟨_,_,rfl,λm hm=>by subst hm;rfl,h2⟩
theorem wR{l:List Int}(h:∃v0_,e=.returned (.tuple #[v0_,.int .i64 (Plain.clsR l).2.1,.bool (Plain.clsR l).2.2])/\Kd.R (Kd.int .i64) 3 w' w.heap.size (λ_=>True) v0_ (Plain.clsR l).1/\Below w.heap.size w w'):uF (Plain.clsO l) w e w':=by
 obtain ⟨v,rfl,h1,h2⟩:=h;exact ⟨v,_,_,rfl,h1,λm hm=>by unfold Plain.clsR;rw[hm];rfl,h2⟩
theorem Aa{t:List Int}(ht:Plain.table t=true){n:Int}(h:∃v0_,e=.returned (.tuple #[.agg #[v0_],.int .i64 (Plain.insO (Plain.insL t n)).2.1,.bool (Plain.insO (Plain.insL t n)).2.2])/\Kd.R (Kd.int .i64) 3 w' w.heap.size (λ_=>True) v0_ (Plain.insO (Plain.insL t n)).1/\Below w.heap.size w w'):tQ (Plain.insL t n) w e w':=by
 obtain ⟨v,rfl,h1,h2⟩:=h;refine ⟨v,_,_,rfl,h1,λm hm=>by rw[hm];rfl,?_,h2⟩
 cases hq:Plain.insL t n with
 | none=>decide
 | some m=>exact (Plain.ins_ok ht (t':=m.1) (a:=m.2) hq).2
theorem tJ{r:Value}(h:e=.returned r/\bg w w'):e=.returned r/\Below w.heap.size w w':=⟨h.1,h.2.below⟩
end
theorem qX:nN Plain.dom where
 isPark A c l w hL _:=by
  obtain ⟨k,hk⟩:=Plain.isParking_ev l;exact fT.calls k A c l _ w hL.1 hL.2 (hk k (Nat.le_refl _))
 next A c l w hL hp:=by
  obtain ⟨k,hk⟩:=Plain.implNext_ev hp;exact (oP.calls k A c l _ _ w hL.1 hL.2 (hk k (Nat.le_refl _))).mono λe w' h=>lF h
 at_ n r w _ _ _ _:=by
  obtain ⟨k,hk⟩:=Plain.implAt_ev n r;exact (mi.calls k n r _ _ w (hk k (Nat.le_refl _))).mono λe w' h=>lF h
 cars A c l own w hL hp ho:=by
  subst ho;obtain ⟨k,hk⟩:=Plain.implCars_ev hp;exact (mW.calls k A c l _ _ _ w hL.1 hL.2 (hk k (Nat.le_refl _))).mono λe w' h=>lF (o:=some (Plain.sdrive (l.length:Int) [] l)) h
 far A c l own w hL hp ho:=by
  subst ho;obtain ⟨k,hk⟩:=Plain.implFar_ev hp;exact (gm.calls k A c l _ _ _ w hL.1 hL.2 (hk k (Nat.le_refl _))).mono λe w' h=>lF (o:=some (Plain.dists l)) h
 cuts A c l w hL hp:=by
  obtain ⟨k,hk⟩:=Plain.implCuts_ev hp;exact (o5.calls k A c l _ _ w hL.1 hL.2 (hk k (Nat.le_refl _))).mono λe w' h=>lF (o:=some (Plain.cutsL l)) h
 rank A c l w hL hp:=by
  obtain ⟨k,hk⟩:=Plain.implRankParking_ev hp;exact (oV.calls k A c l _ _ w hL.1 hL.2 (hk k (Nat.le_refl _))).mono λe w' h=>o9 (o:=some (Plain.rankL l)) h
 join A c l A' c' m w hL hM hp _:=by
  obtain ⟨k,hk⟩:=Plain.implJoin_ev hp m;exact (gz.calls k A c l A' c' m _ _ w hL.1 hL.2 hM.1 hM.2 (hk k (Nat.le_refl _))).mono λe w' h=>lF h
 cls A c l w hL _:=by
  obtain ⟨k,hk⟩:=Plain.implCls_ev l;exact (pF.calls k A c l _ _ _ w hL.1 hL.2 (hk k (Nat.le_refl _))).mono λe w' h=>wR h
 count n w _ _:=by
  obtain ⟨k,hk⟩:=Plain.implCount_ev n;exact (oM.calls k n _ _ w (hk k (Nat.le_refl _))).mono λe w' h=>o9 h
 back n w h0 _:=EY n h0 w
 empty n w _ _:=DI n w
 ins A c t n w hL ht _ _:=by
  obtain ⟨k,hk⟩:=Plain.implInsert_ev ht n;exact (eX.calls k A c t n _ _ _ w hL.1 hL.2 (hk k (Nat.le_refl _))).mono λe w' h=>Aa ht h
 rem A c t n w hL ht _ _:=Be ht w hL
 find A c t n w hL ht _ _:=by
  obtain ⟨k,hk⟩:=Plain.implFind_ev ht n;exact (iW.calls k A c t n _ _ _ w hL.1 hL.2 (hk k (Nat.le_refl _))).mono λe w' h=>xD h
 cost A c t w hL ht:=EH ht w hL
theorem w_{t:List Int}(ht:Plain.table t=true):t.length<=12/\∀x∈t,-1<=x/\x<=999:=Plain.dom_good.tab t ht
theorem zJ:iK Plain.dom where
 split32 s w hs:=by
  obtain ⟨k,hk⟩:=Plain.split_ev s 32 (by omega);exact ib.calls k s _ _ w (hk k (Nat.le_refl _))
 split10 s w hs:=by
  obtain ⟨k,hk⟩:=Plain.split_ev s 10 (by omega);exact ib.calls k s _ _ w (hk k (Nat.le_refl _))
 shape s w:=by
  obtain ⟨k,hk⟩:=Plain.shape_ev s;exact (ed.calls k s _ w (hk k (Nat.le_refl _))).mono λe w' h=>tJ h
 read s w hs:=by
  obtain ⟨k,hk⟩:=Plain.read_ev s;exact (eU.calls k s _ w (hk k (Nat.le_refl _))).mono λe w' h=>tJ h
 parse s w hs:=by
  obtain ⟨k,hk⟩:=Plain.coParse_ev s (by omega);exact (jI.calls k s _ _ w (hk k (Nat.le_refl _))).mono λe w' h=>lF (o:=told s) h
 park A c l w hL _:=by
  obtain ⟨k,hk⟩:=Plain.paParking_ev l;exact iL.calls k A c l _ w hL.1 hL.2 (hk k (Nat.le_refl _))
 next A c l w hL hp:=by
  obtain ⟨k,hk⟩:=Plain.specNext_ev hp;exact (pz.calls k A c l _ _ w hL.1 hL.2 (hk k (Nat.le_refl _))).mono λe w' h=>lF h
 at_ n r w _ _ _ _:=by
  obtain ⟨k,hk⟩:=Plain.specAt_ev n r;exact (mH.calls k n r _ _ w (hk k (Nat.le_refl _))).mono λe w' h=>lF h
 join A c l A' c' m w hL hM hp _:=by
  obtain ⟨k,hk⟩:=Plain.specJoin_ev hp m;exact (gp.calls k A c l A' c' m _ _ w hL.1 hL.2 hM.1 hM.2 (hk k (Nat.le_refl _))).mono λe w' h=>lF h
 empty n w _ _:=by
  obtain ⟨k,hk⟩:=Plain.specEmpty_ev n;exact (pI.calls k n _ _ w (hk k (Nat.le_refl _))).mono λe w' h=>F3 h
 ins A c t n w hL ht _ _:=by
  obtain ⟨k,hk⟩:=Plain.specInsert_ev ht n;exact (eT.calls k A c t n _ _ _ w hL.1 hL.2 (hk k (Nat.le_refl _))).mono λe w' h=>Aa ht h
 rem A c t n w hL ht _ _:=Ga ht w hL
 num n w h0 h:=vT n w h0 h
 text A c l w hL hf hp:=Cz A c l w hL hf hp
 cars A c l w hL hp:=by
  obtain ⟨k,hk⟩:=Plain.specCars_ev hp;exact dP.calls k A c l _ _ w hL.1 hL.2 (hk k (Nat.le_refl _))
 far A c l w hL hp:=by
  obtain ⟨k,hk⟩:=Plain.specFar_ev hp;exact jD.calls k A c l _ _ w hL.1 hL.2 (hk k (Nat.le_refl _))
 cuts A c l w hL hp:=by
  obtain ⟨k,hk⟩:=Plain.paCuts_ev l (by have:=Plain.parking_cars hp;omega);exact iY.calls k A c l _ w hL.1 hL.2 (hk k (Nat.le_refl _))
 rank A c l w hL hp:=by
  obtain ⟨k,hk⟩:=Plain.specRank_ev hp;exact (fq.calls k A c l _ _ w hL.1 hL.2 (hk k (Nat.le_refl _))).mono λe w' h=>o9 (o:=some (Plain.rankL l)) h
 count n w _ _:=by
  obtain ⟨k,hk⟩:=Plain.specCount_ev n;exact (oW.calls k n _ _ w (hk k (Nat.le_refl _))).mono λe w' h=>o9 (tJ h)
 back n w _ _:=by
  obtain ⟨k,hk⟩:=Plain.specBack_ev n;exact (dX.calls k 3 n _ _ w (hk k (Nat.le_refl _))).mono λe w' h=>o9 h
 cls A c l w hL _:=by
  obtain ⟨k,hk⟩:=Plain.specCls_ev l;exact (oO.calls k A c l _ _ _ w hL.1 hL.2 (hk k (Nat.le_refl _))).mono λe w' h=>wR h
 cost A c t w hL ht:=by
  obtain ⟨k,hk⟩:=Plain.specCostOf_ev ht;exact (pu.calls k A c t _ _ w hL.1 hL.2 (hk k (Nat.le_refl _))).mono λe w' h=>o9 (o:=some (Plain.costL t)) h
 find A c t n w hL ht _ _:=by
  obtain ⟨k,hk⟩:=Plain.specFind_ev ht n;exact (jw.calls k A c t n _ _ _ w hL.1 hL.2 (hk k (Nat.le_refl _))).mono λe w' h=>xD h
 table A c t w hL ht:=EE A c t w hL (by have:=w_ ht;omega) (w_ ht).2
theorem jA{P:Prop}(h:P:=by repeat (first|exact Below.refl _ _|apply dw|apply dD|refine bf ?_ (Nat.le_refl _)|apply aG)):P:=h
section
variable {w W:World} {b i j:Nat} {a:Addr} {v u x:Value}
theorem ma(h:w.cell? a=some v)(o:Obj):(w.alloc o).cell? a=some v:=bR h (aG (Below.refl _ _) _)
theorem xV(h:w.cell? a=some v)(o:Obj):((w.alloc o).setCell ⟨w.heap.size,i,none⟩ u).cell? a=some v:=bR h (bf (aG (Below.refl _ _) _) (Nat.le_refl _))
theorem yo(h:w.cell? a=some v)(o:Obj):(((w.alloc o).setCell ⟨w.heap.size,i,none⟩ u).setCell ⟨w.heap.size,j,none⟩ x).cell? a=some v:=bR h (bf (bf (aG (Below.refl _ _) _) (Nat.le_refl _)) (Nat.le_refl _))
theorem sN(h:w.cell? a=some v)(hb:ae (Below w.heap.size w W)):(W.setCell ⟨w.heap.size,i,none⟩ u).cell? a=some v:=bR h (bf hb.out (Nat.le_refl _))
theorem si(h:w.cell? a=some v)(hb:ae (Below w.heap.size w W)):((W.setCell ⟨w.heap.size,i,none⟩ u).setCell ⟨w.heap.size,j,none⟩ x).cell? a=some v:=bR h (bf (bf hb.out (Nat.le_refl _)) (Nat.le_refl _))
end
end Go.Proofs.YtjdlhefjgceabaaGreatDoor.Hand
namespace Go.Proofs.YtjdlhefjgceabaaGreatDoor.Hand
open Go.RowKit YtjdlhefjgceabaaGreatDoorW.PrintWords YtjdlhefjgceabaaGreatDoorW.PrintLast YtjdlhefjgceabaaGreatDoorW.PrintMore
def qV(F:aN)(l t:List Int)(s:ByteArray):Option gF:=if F.park l=true/\F.tab t=true/\s.size<=3000/\Lib.countB s ⟨#[10]⟩=0 then some (d_ F l t s)else none
def tK:gF:=⟨[],[],⟨#[]⟩⟩
def qR(o:Option gF)(w:World)(e:Ending)(w':World):Prop:=∃v0 v1,e=.returned (.tuple #[.agg #[v0,v1],.string (o.getD tK).r,.bool o.isSome])/\Kd.R (Kd.int .i64) 3 w' w.heap.size (λ_=>True) v0 (o.getD tK).l/\Kd.R (Kd.int .i64) 3 w' w.heap.size (λ_=>True) v1 (o.getD tK).t/\gZ v0 v1/\Below w.heap.size w w'
open PAll
set_option maxRecDepth 100000
set_option maxHeartbeats 8000000
theorem CQ(s:ByteArray)(c:UInt8):decide (0<=Lib.indexByte s.data.toList c)=decide (0<Lib.countB s ⟨#[c]⟩):=by
 have e:Lib.countB s ⟨#[c]⟩=s.data.toList.count c:=Lib.count_one _ _;rw[e];have h:=Lib.indexByte_ge s.data.toList c
 by_cases hi:Lib.indexByte s.data.toList c=-1
 ·
  have hn:c ∉ s.data.toList:=λhm=>by
   obtain ⟨k,hk,he⟩:=List.mem_iff_getElem.1 hm;exact Lib.indexByte_none hi k (by rw[List.getElem?_eq_getElem hk,he])
  rw[hi,List.count_eq_zero.2 hn];rfl
 ·
  have h1:=(Lib.indexByte_some (l:=s.data.toList) (c:=c) (o:=(Lib.indexByte s.data.toList c).toNat) (by omega)).1;have h2:=List.count_pos_iff.2 (List.mem_of_getElem? h1);rw[decide_eq_true (by omega),decide_eq_true h2]
theorem vL(g:Bool)(l t:List Int)(A:Option Addr)(c:Nat)(A':Option Addr)(c':Nat)(s:ByteArray)(w:World)(h0:aM w A c l)(h1:aM w A' c' t)
  (hC:∀W,aM W A c l->aM W A' c' t->Calls Tryz.prog 31 #[.agg #[.slice A l.length c,.slice A' t.length c']] W λe w'=>e=.returned (.bool g)/\Below W.heap.size W w')
  (hq:g=false\/g=true/\decide ((s.size:Int)>3000)=true\/g=true/\decide ((s.size:Int)>3000)=false/\decide (0<=Lib.indexByte s.data.toList 10)=true) :
  Calls Tryz.prog 27 #[.agg #[.slice A l.length c,.slice A' t.length c'],.string s] w (qR none w):=by
 have b1:=aG (Below.refl w.heap.size w) (.cells #[.slice A l.length c,.slice A' t.length c'] 36)
 have z1:(w.alloc (.cells #[.slice A l.length c,.slice A' t.length c'] 36)).heap.size=w.heap.size+1:=by simp
 obtain ⟨Wb,hWb⟩:∃W,W=(w.alloc (.cells #[.slice A l.length c,.slice A' t.length c'] 36)).alloc (.cells #[.slice none 0 0,.slice none 0 0] 36):=⟨_,rfl⟩
 have HW:=aa hWb;have HKR:=aa (show Wb.heap[w.heap.size+1]?=some (.cells #[.slice none 0 0,.slice none 0 0] 36 (0,0)) by rw[hWb,<- z1];exact bC _ _);have HWB:=aa (show Below w.heap.size w Wb by rw[hWb];exact aG b1 _);have HGD:=aa (hC Wb (h0.below HWB.out) (h1.below HWB.out));have HSC:=aa λW=>Tryz.strings_Contains_one s 10 W;clear h0 h1 hC b1 z1 hWb
 rcases hq with rfl|⟨rfl,q1⟩|⟨rfl,q1,q2⟩
 all_goals
  go_enter Tryz.func27,Tryz.ntmps27
  go_wp2_with (first
   | (go_at_call 31;go_loud (rw[<- HW.out];refine HGD.out.mono ?_;rintro e w1 ⟨rfl,hb⟩;have HF:=aa (aj HWB.out hb);have hk:=aI HKR.out hb;have p0:=ah hk 0;have p1:=ah hk 1;have f0:=au hk 0;have f1:=au hk 1;clear hb hk))
   | (go_at_call 52;go_loud (refine (HSC.out _).mono ?_;rintro e w2 ⟨rfl,hw⟩;replace hw:=hw.symm;subst hw;rw[q2])))
  exact bodyPost_ret (v:=.tuple #[.agg #[.slice none 0 0,.slice none 0 0],.string ⟨#[]⟩,.bool false]) (by simp[results,Tryz.results27,go_sem,p0,p1]) rfl ⟨_,_,rfl,Kd.R_nil _ _ _ _ _,Kd.R_nil _ _ _ _ _,λk h=>(by cases h),bf (bf HF.out (Nat.le_succ _)) (Nat.le_succ _)⟩
theorem Hl{W:World}{B g:Nat}{l t:List Int}{v0 v1:Value}(hk:W.heap[g]?=some (.cells #[.slice none 0 0,.slice none 0 0] 36 (0,0)))(h0:Kd.R (Kd.int .i64) 3 W B (λ_=>True) v0 l)(h1:Kd.R (Kd.int .i64) 3 W B (λ_=>True) v1 t)(hn:gZ v0 v1)(hB:B<=g):dW ((W.setCell ⟨g,0,none⟩ v0).setCell ⟨g,1,none⟩ v1) B g l t :=
 ⟨hB,v0,v1,dV (dV hk 0 _ rfl) 1 _ rfl,set2 hk h0 (by decide),set2 hk h1 (by decide),hn⟩
def p9(w:World)(g:Nat)(l t:List Int)(W:World):Prop:=dW W w.heap.size g l t/\W.heap[w.heap.size+1]?=some (.cells #[.slice none 0 0,.slice none 0 0] 36 (0,0))/\w.heap.size+1<g/\Below w.heap.size w W
theorem xJ{w W:World}{g:Nat}{l t:List Int}{v0 v1:Value}(hk:W.heap[g]?=some (.cells #[.slice none 0 0,.slice none 0 0] 36 (0,0)))(h0:Kd.R (Kd.int .i64) 3 W w.heap.size (λ_=>True) v0 l)(h1:Kd.R (Kd.int .i64) 3 W w.heap.size (λ_=>True) v1 t)(hn:gZ v0 v1)(hg:w.heap.size+1<g)(hr:W.heap[w.heap.size+1]?=some (.cells #[.slice none 0 0,.slice none 0 0] 36 (0,0)))(hb:Below w.heap.size w W):p9 w g l t ((W.setCell ⟨g,0,none⟩ v0).setCell ⟨g,1,none⟩ v1) :=
 ⟨Hl hk h0 h1 hn (by omega),fZ (fZ hr (p:=⟨g,0,none⟩) (by show w.heap.size+1≠g;omega) _) (p:=⟨g,1,none⟩) (by show w.heap.size+1≠g;omega) _,hg,bf (bf hb (by omega)) (by omega)⟩
theorem FQ{w W:World}{l t:List Int}{v0 v1:Value}(h0:Kd.R (Kd.int .i64) 3 W w.heap.size (λ_=>True) v0 l)(h1:Kd.R (Kd.int .i64) 3 W w.heap.size (λ_=>True) v1 t)(hn:gZ v0 v1)(hr:W.heap[w.heap.size+1]?=some (.cells #[.slice none 0 0,.slice none 0 0] 36 (0,0)))(hb:Below w.heap.size w W):p9 w W.heap.size l t (W.alloc (.cells #[v0,v1] 36)) :=
 ⟨⟨ay hb,v0,v1,bC W _,Kd.R_alloc h0 _,Kd.R_alloc h1 _,hn⟩,bq hr _,dC hr,aG hb _⟩
theorem uH{G:Exit->Act->World->Prop}{x:Exit}{a:Act}{w:World}(p:World->Prop)(h:p w)(k:∀W,p W->G x a W):G x a w:=k w h
theorem BI{F:aN}(hF:Good F)(hI:nN F)(l t:List Int)(A:Option Addr)(c:Nat)(A':Option Addr)(c':Nat)(s:ByteArray)(w:World)(h0:aM w A c l)(h1:aM w A' c' t)(hp:F.park l=true)(ht:F.tab t=true)(hG:dG w)
  (hC:∀W,aM W A c l->aM W A' c' t->Calls Tryz.prog 31 #[.agg #[.slice A l.length c,.slice A' t.length c']] W λe w'=>e=.returned (.bool true)/\Below W.heap.size W w')
  (hs:s.size<=3000) (hn:decide (0<=Lib.indexByte s.data.toList 10)=false) :
  Calls Tryz.prog 27 #[.agg #[.slice A l.length c,.slice A' t.length c'],.string s] w (qR (some (d_ F l t s)) w):=by
 have b1:=aG (Below.refl w.heap.size w) (.cells #[.slice A l.length c,.slice A' t.length c'] 36);have k1:(w.alloc (.cells #[.slice A l.length c,.slice A' t.length c'] 36)).heap[w.heap.size]?=some (.cells #[.slice A l.length c,.slice A' t.length c'] 36 (0,0)):=bC _ _
 have z1:(w.alloc (.cells #[.slice A l.length c,.slice A' t.length c'] 36)).heap.size=w.heap.size+1:=by simp
 obtain ⟨Wb,hWb⟩:∃W,W=(w.alloc (.cells #[.slice A l.length c,.slice A' t.length c'] 36)).alloc (.cells #[.slice none 0 0,.slice none 0 0] 36):=⟨_,rfl⟩
 have HW:=aa hWb;have HKB:=aa (show Wb.heap[w.heap.size]?=some (.cells #[.slice A l.length c,.slice A' t.length c'] 36 (0,0)) by rw[hWb];exact bq k1 _);have HKR:=aa (show Wb.heap[w.heap.size+1]?=some (.cells #[.slice none 0 0,.slice none 0 0] 36 (0,0)) by rw[hWb,<- z1];exact bC _ _);have HWB:=aa (show Below w.heap.size w Wb by rw[hWb];exact aG b1 _);have HL0:=aa (h0.below HWB.out);have HL1:=aa (h1.below HWB.out);have HGD:=aa (hC Wb HL0.out HL1.out);have HSC:=aa λW=>Tryz.strings_Contains_one s 10 W;have HCL:=aa λ(W:World) (h:aM W A c l)=>iw.calls A c l l W h.1 h.2 (by unfold iw.f;rw[if_pos (by have:=(hF.park l hp).1;omega)]);have HCP:=aa λ(W:World) (h:aM W A' c' t)=>kX.calls A' c' t t W h.1 h.2 (by unfold kX.f iw.f;rw[if_pos (by have:=(hF.tab t ht).1;omega)];rfl);have q1:decide ((s.size:Int)>3000)=false:=decide_eq_false (by omega);have HSZ:=aa hs;have HG:=aa hG;have HP:=aa hp;have HT:=aa ht;have HF:=aa hF;have HI:=aa hI;have HN:=aa hn
 obtain ⟨x,hx⟩:∃x,x=d_ F l t s:=⟨_,rfl⟩
 have HX:=aa hx;rw[<- hx];clear h0 h1 hC hs hn b1 k1 z1 hWb hx hG hp ht hF hI;have hu36:=Tryz.underlying36;have hu34:=Tryz.underlying34;go_enter Tryz.func27,Tryz.ntmps27
 go_wp2_with (first
  | (go_at_call 31;go_loud (rw[<- HW.out];refine HGD.out.mono ?_;rintro e w1 ⟨rfl,hb⟩;have HB:=aa (aj HWB.out hb);replace HKR:=aa (aI HKR.out hb);replace HKB:=aa (aI HKB.out hb);replace HL0:=aa (HL0.out.below hb);replace HL1:=aa (HL1.out.below hb);have r0:w1.cell? ⟨w.heap.size,0,none⟩=some (.slice A l.length c):=ah HKB.out 0;have r1:w1.cell? ⟨w.heap.size,1,none⟩=some (.slice A' t.length c'):=ah HKB.out 1;clear hb))
  | (go_at_call 52;go_loud (refine (HSC.out _).mono ?_;rintro e w2 ⟨rfl,hw⟩;replace hw:=hw.symm;subst hw;rw[HN.out])))
 go_region_held3 (λW:World=>W.cell? ⟨w.heap.size,0,none⟩=some (.slice A l.length c)/\W.cell? ⟨w.heap.size,1,none⟩=some (.slice A' t.length c')) (first|exact ⟨s0,s1⟩|exact ⟨ma s0 _,ma s1 _⟩|exact ⟨xV s0 _,xV s1 _⟩|exact ⟨yo s0 _,yo s1 _⟩|exact ⟨sN q0 HB3,sN q3 HB3⟩|exact ⟨si q0 HB3,si q3 HB3⟩|exact ⟨sN r0 HB13,sN r1 HB13⟩|exact ⟨si r0 HB13,si r1 HB13⟩|exact ⟨q0,q3⟩|exact ⟨ma q0 _,ma q3 _⟩|exact ⟨r0,r1⟩|exact ⟨ma r0 _,ma r1 _⟩)
  (first
   | (go_at_call 53;refine (HCL.out _ (HL0.out.below jA)).mono ?_;rintro e w2 ⟨v2,rfl,hr,hb⟩;obtain ⟨B0,d0,rfl⟩:=Kd.R_slice hr;have HKC:=aa (show w2.heap[w1.heap.size]?=some (.cells #[.slice none 0 0,.slice none 0 0] 36 (0,0)) from aI (bS (bC w1 _)) hb);have HGC:=aa (dC HKR.out);have hb2:=aj (show Below w1.heap.size w1 _ from jA) hb;have HB12:=aa hb2;have HR0:=aa (Kd.R_lower hr (ay (aj HB.out (show Below w1.heap.size w1 _ from jA))));have HB2:=aa (aj HB.out hb2);replace HKR:=aa (aI HKR.out hb2);replace HL1:=aa (HL1.out.below hb2);have q0:w2.cell? ⟨w.heap.size,0,none⟩=some (.slice A l.length c):=bR r0 hb2;have q3:w2.cell? ⟨w.heap.size,1,none⟩=some (.slice A' t.length c'):=bR r1 hb2;clear hr hb hb2)
   | (go_at_call 53;refine (HCL.out _ (HL0.out.below jA)).mono ?_;rintro e w2 ⟨v2,rfl,hr,hb⟩;obtain ⟨B0,d0,rfl⟩:=Kd.R_slice hr;have hb2:=aj (show Below w1.heap.size w1 _ from jA) hb;have HB12:=aa hb2;have HR0:=aa (Kd.R_lower hr (ay (aj HB.out (show Below w1.heap.size w1 _ from jA))));have HB2:=aa (aj HB.out hb2);replace HKR:=aa (aI HKR.out hb2);replace HL1:=aa (HL1.out.below hb2);have q0:w2.cell? ⟨w.heap.size,0,none⟩=some (.slice A l.length c):=bR r0 hb2;have q3:w2.cell? ⟨w.heap.size,1,none⟩=some (.slice A' t.length c'):=bR r1 hb2;clear hr hb hb2)
   | (go_at_call 54;refine (HCP.out _ (HL1.out.below jA)).mono ?_;rintro e w3 ⟨v3,rfl,hr,hb⟩;obtain ⟨B1,d1,rfl⟩:=Kd.R_slice hr;have hb2:=aj (show Below w2.heap.size w2 _ from jA) hb;have HKN:=aa (aI HKC.out hb2);have HGN:=HGC;have HB13:=aa (aj HB12.out hb2);have HNE:=aa (show gZ (.slice B0 l.length d0) (.slice B1 t.length d1) from λk h5 h6=>Nat.lt_irrefl k (Nat.lt_of_lt_of_le (Kd.R_lt HR0.out k h5) (Kd.R_base hr k h6)));have p2:=ah HKN.out 0;have p3:=ah HKN.out 1;have f2:=au HKN.out 0;have f3:=au HKN.out 1;have HR1:=aa (Kd.R_lower hr (ay (aj HB2.out (show Below w2.heap.size w2 _ from jA))));replace HR0:=aa (Kd.R_below HR0.out hb2);replace HB2:=aa (aj HB2.out hb2);replace HKR:=aa (aI HKR.out hb2);have s0:w3.cell? ⟨w.heap.size,0,none⟩=some (.slice A l.length c):=bR q0 hb2;have s1:w3.cell? ⟨w.heap.size,1,none⟩=some (.slice A' t.length c'):=bR q3 hb2;clear hr hb hb2)
   | (go_at_call 54;refine (HCP.out _ (HL1.out.below jA)).mono ?_;rintro e w3 ⟨v3,rfl,hr,hb⟩;obtain ⟨B1,d1,rfl⟩:=Kd.R_slice hr;have HKN:=aa (show w3.heap[w2.heap.size]?=some (.cells #[.slice none 0 0,.slice none 0 0] 36 (0,0)) from by have h:=aI (bC _ _) hb;exact h);have hb2:=aj (show Below w2.heap.size w2 _ from jA) hb;have HGN:=aa (dC HKR.out);have HB3:=aa hb2;have HNE:=aa (show gZ (.slice B0 l.length d0) (.slice B1 t.length d1) from λk h5 h6=>Nat.lt_irrefl k (Nat.lt_of_lt_of_le (Kd.R_lt HR0.out k h5) (Nat.le_trans (Below.size (aG (Below.refl w2.heap.size w2) _)) (Kd.R_base hr k h6))));have p2:=ah HKN.out 0;have p3:=ah HKN.out 1;have f2:=au HKN.out 0;have f3:=au HKN.out 1;have HR1:=aa (Kd.R_lower hr (ay (aj HB2.out (show Below w2.heap.size w2 _ from jA))));replace HR0:=aa (Kd.R_below HR0.out hb2);replace HB2:=aa (aj HB2.out hb2);replace HKR:=aa (aI HKR.out hb2);have s0:w3.cell? ⟨w.heap.size,0,none⟩=some (.slice A l.length c):=bR q0 hb2;have s1:w3.cell? ⟨w.heap.size,1,none⟩=some (.slice A' t.length c'):=bR q3 hb2;clear hr hb hb2)
   | (go_at_call 54;refine (HCP.out _ (HL1.out.below jA)).mono ?_;rintro e w3 ⟨v3,rfl,hr,hb⟩;obtain ⟨B1,d1,rfl⟩:=Kd.R_slice hr;have hb2:=aj (show Below w2.heap.size w2 _ from jA) hb;have hkn:=bC w3 (.cells #[.slice none 0 0,.slice none 0 0] 36);have HNE:=aa (show gZ (.slice B0 l.length d0) (.slice B1 t.length d1) from λk h5 h6=>Nat.lt_irrefl k (Nat.lt_of_lt_of_le (Kd.R_lt HR0.out k h5) (Kd.R_base hr k h6)));have p2:=ah hkn 0;have p3:=ah hkn 1;have f2:=au hkn 0;have f3:=au hkn 1;clear hkn;have HR1:=aa (Kd.R_lower hr (ay (aj HB2.out (show Below w2.heap.size w2 _ from jA))));replace HR0:=aa (Kd.R_below HR0.out hb2);replace HB2:=aa (aj HB2.out hb2);replace HKR:=aa (aI HKR.out hb2);have s0:w3.cell? ⟨w.heap.size,0,none⟩=some (.slice A l.length c):=bR q0 hb2;have s1:w3.cell? ⟨w.heap.size,1,none⟩=some (.slice A' t.length c'):=bR q3 hb2;clear hr hb hb2))
 all_goals
  first
   | refine uH (p9 w w1.heap.size l t) (xJ HKN.out HR0.out HR1.out HNE.out HGN.out HKR.out HB2.out) ?_
   | refine uH (p9 w w2.heap.size l t) (xJ HKN.out HR0.out HR1.out HNE.out HGN.out HKR.out HB2.out) ?_
   | refine uH (p9 w w3.heap.size l t) (FQ HR0.out HR1.out HNE.out HKR.out HB2.out) ?_
  rintro W ⟨hd,hk,hg,hb⟩;have HD:=aa hd;have HK:=aa hk;have HGT:=aa hg;have HBW:=aa hb;clear hd hk hg hb
  go_wp2_with (go_at_call 55;go_loud (refine (zI (F:=F) (B:=w.heap.size) (l:=l) (t:=t) ⟨HF.out,HI.out,HD.out,HP.out,HT.out,HG.out.below HBW.out,ay HBW.out,HG.out.big⟩ s HSZ.out).mono ?_;rintro e w4 ⟨rfl,hd,hg⟩;rw[<- HX.out]at hd ⊢;obtain ⟨hlo,u0,u1,g1,g2,g3,hne⟩:=hd;obtain ⟨E0,e0,rfl⟩:=Kd.R_slice g2;obtain ⟨E1,e1,rfl⟩:=Kd.R_slice g3;have hk:=iM HK.out hg (λh=>by have:=Option.some.inj h;have:=HGT.out;omega);have HKF:=aa hk;have HX0:=aa g2;have HX1:=aa g3;have HNF:=aa hne;have HE:=aa (rf HBW.out _ (ay HBW.out) hg (λk hk=>by cases hk;exact hlo));have t0:=ah g1 0;have t1:=ah g1 1;have p0:=ah hk 0;have p1:=ah hk 1;have f0:=au hk 0;have f1:=au hk 1;clear hk g1 g2 g3 hg hne hlo))
  exact bodyPost_ret (v:=.tuple #[.agg #[.slice E0 x.l.length e0,.slice E1 x.t.length e1],.string x.r,.bool true]) (by simp[results,Tryz.results27,go_sem,p0,p1]) rfl ⟨_,_,rfl,set2 HKF.out HX0.out (by decide),set2 HKF.out HX1.out (by decide),HNF.out,bf (bf HE.out (Nat.le_succ _)) (Nat.le_succ _)⟩
set_option maxHeartbeats 1000000
def sI(F:aN)(s:ByteArray):Option (List Int × List Int):=(eZ F s).map λx=>(x.1,x.2.1)
def GV(o:Option (List Int × List Int))(w:World)(e:Ending)(w':World):Prop:=∃v0 v1,e=.returned (.tuple #[.agg #[v0,v1],.bool o.isSome])/\Kd.R (Kd.int .i64) 3 w' w.heap.size (λ_=>True) v0 (o.getD ([],[])).1/\Kd.R (Kd.int .i64) 3 w' w.heap.size (λ_=>True) v1 (o.getD ([],[])).2/\gZ v0 v1/\Below w.heap.size w w'
theorem CG(F:aN)(s:ByteArray)(w:World)(h:∀w1,Below w.heap.size w w1->(eZ F s=none->Calls Tryz.prog 39 #[.string s] w1 (mf w1))/\∀y,eZ F s=some y->Calls Tryz.prog 39 #[.string s] w1 (l_ (some y) w1)) :
  Calls Tryz.prog 20 #[.string s] w (GV (sI F s) w):=by
 have b1:=aG (Below.refl w.heap.size w) (.cells #[.slice none 0 0,.slice none 0 0] 36);have hn:=bC w (.cells #[.slice none 0 0,.slice none 0 0] 36);have HC:=h _ b1;have HN:=aa hn;have HB1:=aa b1;unfold sI
 cases hq:eZ F s with
 | none =>
  have HR:=aa (HC.1 hq);clear h hq HC hn b1;go_enter Tryz.func20,Tryz.ntmps20
  go_wp2_with (go_at_call 39;go_loud (refine HR.out.mono ?_;rintro e w1 ⟨rfl,hb⟩;have h0:=aI HN.out hb;have HB:=aa (aj HB1.out hb);have hc0:∀o,(w1.alloc o).cell? ⟨w.heap.size,0,none⟩=some (.slice none 0 0):=λo=>ah (bq h0 o) 0;have hc1:∀o,(w1.alloc o).cell? ⟨w.heap.size,1,none⟩=some (.slice none 0 0):=λo=>ah (bq h0 o) 1;have hf0:∀o,(w1.alloc o).frozen? ⟨w.heap.size,0,none⟩=false:=λo=>au (bq h0 o) 0;have hf1:∀o,(w1.alloc o).frozen? ⟨w.heap.size,1,none⟩=false:=λo=>au (bq h0 o) 1;clear hb))
  have h1:=bq h0 (.cells #[.slice none 0 0,.slice none 0 0] 36);have hs0:=iq h1 0 (.slice none 0 0);have hs1:=iq hs0 1 (.slice none 0 0)
  have hd0:=(ah hs1 0)
  have hd1:=(ah hs1 1)
  have HF:=aa (bf (bf (aG HB.out (.cells #[.slice none 0 0,.slice none 0 0] 36)) (Nat.le_refl _) (j:=0) (v:=.slice none 0 0)) (Nat.le_refl _) (j:=1) (v:=.slice none 0 0));exact bodyPost_ret (v:=.tuple #[.agg #[.slice none 0 0,.slice none 0 0],.bool false]) (by simp[results,Tryz.results20,go_sem,hd0,hd1]) rfl ⟨_,_,rfl,Kd.R_nil _ _ _ _ _,Kd.R_nil _ _ _ _ _,λk h=>(by cases h),HF.out⟩
 | some y =>
  have HR:=aa (HC.2 y hq);clear h hq HC hn b1;go_enter Tryz.func20,Tryz.ntmps20
  go_wp2_with (go_at_call 39;go_loud (refine HR.out.mono ?_;rintro e w1 ⟨v0,v1,v2,l,t,rs,rfl,r0,r1,hne,_,h4,hb⟩;obtain ⟨A0,c0,rfl⟩:=Kd.R_slice r0;obtain ⟨A1,c1,rfl⟩:=Kd.R_slice r1;have HE:=aa (h4 _ rfl);have HNE:=aa hne;have R0:=aa (Kd.R_lower r0 (ay HB1.out));have R1:=aa (Kd.R_lower r1 (ay HB1.out));have h0:=aI HN.out hb;have HB:=aa (aj HB1.out hb);have hc0:∀o,(w1.alloc o).cell? ⟨w.heap.size,0,none⟩=some (.slice none 0 0):=λo=>ah (bq h0 o) 0;have hc1:∀o,(w1.alloc o).cell? ⟨w.heap.size,1,none⟩=some (.slice none 0 0):=λo=>ah (bq h0 o) 1;have hf0:∀o,(w1.alloc o).frozen? ⟨w.heap.size,0,none⟩=false:=λo=>au (bq h0 o) 0;have hf1:∀o,(w1.alloc o).frozen? ⟨w.heap.size,1,none⟩=false:=λo=>au (bq h0 o) 1;clear hb r0 r1 hne h4))
  have h1:=bq h0 (.cells #[.slice A0 l.length c0,.slice A1 t.length c1] 36);have hs0:=iq h1 0 (.slice A0 l.length c0);have hs1:=iq hs0 1 (.slice A1 t.length c1)
  have hd0:=(ah hs1 0)
  have hd1:=(ah hs1 1)
  have HF:=aa (bf (bf (aG HB.out (.cells #[.slice A0 l.length c0,.slice A1 t.length c1] 36)) (Nat.le_refl _) (j:=0) (v:=.slice A0 l.length c0)) (Nat.le_refl _) (j:=1) (v:=.slice A1 t.length c1));have e0:=HE.out;subst e0;exact bodyPost_ret (v:=.tuple #[.agg #[.slice A0 l.length c0,.slice A1 t.length c1],.bool true]) (by simp[results,Tryz.results20,go_sem,hd0,hd1]) rfl ⟨_,_,rfl,set2 h1 (Kd.R_alloc R0.out _) (by decide),set2 h1 (Kd.R_alloc R1.out _) (by decide),HNE.out,HF.out⟩
structure jU (W:World) (b g:Nat) (v0 v1:Value) (l t:List Int):Prop where
 blk:W.heap[g]?=some (.cells #[v0,v1] 36 (0,0))
 one:Kd.R (Kd.int .i64) 3 W b (λ_=>True) v0 l
 two:Kd.R (Kd.int .i64) 3 W b (λ_=>True) v1 t
 ne:gZ v0 v1
section
variable {W W' w0:World} {b g:Nat} {v0 v1:Value} {A0 A1:Option Addr} {n0 n1 c0 c1:Nat} {l t:List Int}
theorem jU.below(h:jU W b g v0 v1 l t)(hb:Below W.heap.size W W'):jU W' b g v0 v1 l t:=⟨aI h.blk hb,Kd.R_below h.one hb,Kd.R_below h.two hb,h.ne⟩
theorem jU.made(h0:Kd.R (Kd.int .i64) 3 W b (λ_=>True) v0 l)(h1:Kd.R (Kd.int .i64) 3 W b (λ_=>True) v1 t)(hn:gZ v0 v1):jU (W.alloc (.cells #[v0,v1] 36)) b W.heap.size v0 v1 l t:=⟨bC W _,Kd.R_alloc h0 _,Kd.R_alloc h1 _,hn⟩
theorem jU.k0(h:jU W b g v0 v1 l t):W.cell? ⟨g,0,none⟩=some v0:=ah h.blk 0
theorem jU.k1(h:jU W b g v0 v1 l t):W.cell? ⟨g,1,none⟩=some v1:=ah h.blk 1
theorem jU.s0(h:jU W b g (.slice A0 n0 c0) v1 l t):aM W A0 c0 l:=⟨(Kd.R_reads' h.one).2.2,(Kd.R_reads' h.one).1▸(Kd.R_reads' h.one).2.1⟩
theorem jU.s1(h:jU W b g v0 (.slice A1 n1 c1) l t):aM W A1 c1 t:=⟨(Kd.R_reads' h.two).2.2,(Kd.R_reads' h.two).1▸(Kd.R_reads' h.two).2.1⟩
end
def JX(v0 v1:Value)(k:Nat):Prop:=v0.ownBlock=some k\/v1.ownBlock=some k
end Go.Proofs.YtjdlhefjgceabaaGreatDoor.Hand
namespace Go.Proofs.YtjdlhefjgceabaaGreatDoor.Hand
open Go.RowKit YtjdlhefjgceabaaGreatDoorW.PrintWords YtjdlhefjgceabaaGreatDoorW.PrintLast PAll
theorem FH(l t:List Int)(ht:t.length<=1099511627776)(A:Option Addr)(c:Nat)(A':Option Addr)(c':Nat)(W:World)(h0:aM W A c l)(h1:aM W A' c' t):Calls Tryz.prog 31 #[.agg #[.slice A l.length c,.slice A' t.length c']] W λe w'=>e=.returned (.bool (Plain.parking l && Plain.table t))/\Below W.heap.size W w':=by
 obtain ⟨k,hk⟩:=show Ev (λk=>o8.f k l t) (Plain.parking l && Plain.table t) by
  unfold o8.f
  refine Ev.bind (Plain.isParking_ev l) ?_
  cases Plain.parking l
  · exact Plain.Ev.neg (by decide) (Ev.now _)
  · exact Plain.Ev.pos rfl (Ev.bind (Plain.isTable_ev t ht) (Ev.now _))
 exact o8.calls k A c l A' c' t _ W h0.1 h0.2 h1.1 h1.2 (hk k (Nat.le_refl _))
theorem Fs(l t:List Int)(s:ByteArray){G:Option gF->Prop}(hs:s.size<=2000000)(h0:(Plain.parking l && Plain.table t)=false->G none)(h1:(Plain.parking l && Plain.table t)=true->decide ((s.size:Int)>3000)=true->G none)(h2:(Plain.parking l && Plain.table t)=true->decide ((s.size:Int)>3000)=false->0<Lib.countB s ⟨#[10]⟩->G none)
  (h3:Plain.parking l=true->Plain.table t=true->s.size<=3000->Lib.countB s ⟨#[10]⟩=0->G (some (d_ Plain.dom l t s))):G (qV Plain.dom l t s):=by
 unfold qV
 cases hb:(Plain.parking l && Plain.table t) with
 | false =>
  rw[if_neg (λh=>by rw[show Plain.parking l=true from h.1,show Plain.table t=true from h.2.1]at hb;cases hb)];exact h0 hb
 | true =>
  have hp:=(Bool.and_eq_true _ _▸hb:Plain.parking l=true/\Plain.table t=true)
  by_cases c1:s.size<=3000
  ·
   by_cases c2:Lib.countB s ⟨#[10]⟩=0
   · rw[if_pos ⟨hp.1,hp.2,c1,c2⟩];exact h3 hp.1 hp.2 c1 c2
   · rw[if_neg (λh=>c2 h.2.2.2)];exact h2 hb (decide_eq_false (by omega)) (by omega)
  · rw[if_neg (λh=>c1 h.2.2.1)];exact h1 hb (decide_eq_true (by omega))
theorem AV(l t:List Int)(s:ByteArray)(ht:t.length<=1099511627776)(hs:s.size<=2000000)(W:World)(A0 A1:Option Addr)(c0 c1:Nat)(L0:aM W A0 c0 l)(L1:aM W A1 c1 t)(hG:dG W) :
  Calls Tryz.prog 27 #[.agg #[.slice A0 l.length c0,.slice A1 t.length c1],.string s] W (qR (qV Plain.dom l t s) W):=by
 have hC:=FH l t ht A0 c0 A1 c1;have hB:=CQ s 10
 refine Fs (G:=λo=>Calls Tryz.prog 27 #[.agg #[.slice A0 l.length c0,.slice A1 t.length c1],.string s] W (qR o W)) l t s hs (λh=>?_) (λh q=>?_) (λh q k=>?_) λhp ht2 q k=>?_
 · exact vL _ l t A0 c0 A1 c1 s W L0 L1 hC (.inl h)
 · exact vL _ l t A0 c0 A1 c1 s W L0 L1 hC (.inr (.inl ⟨h,q⟩))
 · exact vL _ l t A0 c0 A1 c1 s W L0 L1 hC (.inr (.inr ⟨h,q,by rw[hB,decide_eq_true k]⟩))
 ·
  rw[hp,ht2]at hC;exact BI Plain.dom_good qX l t A0 c0 A1 c1 s W L0 L1 hp ht2 hG hC q (by rw[hB,k];rfl)
end Go.Proofs.YtjdlhefjgceabaaGreatDoor.Hand
