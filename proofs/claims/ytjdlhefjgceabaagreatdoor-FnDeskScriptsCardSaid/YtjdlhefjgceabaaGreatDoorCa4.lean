/- The console's replies in numbers and lists, and the reading of numbers. Conditions: lists of at most 1000 numbers, texts below 2^30 bytes; the library's variables hold what their initialisers lay. -/
import Derived.Test.YtjdlhefjgceabaaGreatDoorHm4
import Derived.Deep.RegionWith
set_option linter.unusedVariables false
set_option linter.unusedSimpArgs false
namespace Go.Proofs.YtjdlhefjgceabaaGreatDoor.Hand
open Go.RowKit YtjdlhefjgceabaaGreatDoorW.PrintWords YtjdlhefjgceabaaGreatDoorW.PrintLast YtjdlhefjgceabaaGreatDoorW.PrintMore
set_option maxRecDepth 100000
set_option maxHeartbeats 4000000
def jo(o:Option (List Int))(w:World)(e:Ending)(w':World):Prop:=∃v l,e=.returned (.tuple #[v,.bool o.isSome])/\Kd.R (Kd.int .i64) 3 w' w.heap.size (λ_=>True) v l/\(∀m,o=some m->l=m)/\Below w.heap.size w w'
def kg(o:Option Int)(w:World)(e:Ending)(w':World):Prop:=∃n,e=.returned (.tuple #[.int .i64 n,.bool o.isSome])/\(∀m,o=some m->n=m)/\Below w.heap.size w w'
def fO(l:List Int):ByteArray:=if l=[] then ⟨#[45]⟩else kQ l ⟨#[44]⟩
theorem yn(A0:Option Addr)(c0:Nat)(l:List Int)(w:World)(hr0:Kd.C (Kd.int .i64) w A0 l.length l)(hl:l.length<=10000)(hn:∀x∈l,bJ x)(hG:dG w) :
  Calls Tryz.prog 146 #[.slice A0 l.length c0] w λe w'=>e=.returned (.string (fO l))/\Below w.heap.size w w':=by
 have HC:=aa (zZ A0 c0 l ⟨#[44]⟩ w hr0 hl (by decide) hn hG);clear hr0 hn hG;unfold fO
 by_cases h:l=[]
 ·
  subst h;go_enter Tryz.func146,Tryz.ntmps146;go_wp2;go_ret;exact ⟨rfl,Below.refl _ _⟩
 ·
  have q1:((l.length:Int) == 0)=false:=by
   have:l.length≠0:=λe=>h (List.eq_nil_of_length_eq_zero e);exact beq_eq_false_iff_ne.2 (by omega)
  rw[if_neg h];clear h;go_enter Tryz.func146,Tryz.ntmps146
  go_wp2_with (go_at_call 158;refine HC.out.mono ?_;rintro e w1 ⟨rfl,hb⟩)
  go_ret;exact ⟨rfl,hb⟩
def iI:ByteArray:=⟨#[110,111]⟩
theorem Db(v:Value)(w:World):Calls Tryz.prog 139 #[v,.bool false] w λe w'=>e=.returned (.string iI)/\Below w.heap.size w w':=by
 go_enter Tryz.func139,Tryz.ntmps139;go_wp2;go_ret;exact ⟨rfl,Below.refl _ _⟩
theorem Ec(A0:Option Addr)(c0:Nat)(l:List Int)(w:World)(hr0:Kd.C (Kd.int .i64) w A0 l.length l)(hl:l.length<=10000)(hn:∀x∈l,bJ x)(hG:dG w) :
  Calls Tryz.prog 139 #[.slice A0 l.length c0,.bool true] w λe w'=>e=.returned (.string (fO l))/\Below w.heap.size w w':=by
 have HC:=aa (yn A0 c0 l w hr0 hl hn hG);clear hr0 hn hG hl;go_enter Tryz.func139,Tryz.ntmps139
 go_wp2_with (go_at_call 146;refine HC.out.mono ?_;rintro e w1 ⟨rfl,hb⟩)
 go_ret;exact ⟨rfl,hb⟩
theorem zL(v:Value)(w:World):Calls Tryz.prog 143 #[v,.bool false] w λe w'=>e=.returned (.string iI)/\Below w.heap.size w w':=by
 go_enter Tryz.func143,Tryz.ntmps143;go_wp2;go_ret;exact ⟨rfl,Below.refl _ _⟩
theorem zY(n:Int)(w:World)(hn:bJ n)(hG:dG w) :
  Calls Tryz.prog 143 #[.int .i64 n,.bool true] w λe w'=>e=.returned (.string (bL n))/\Below w.heap.size w w':=by
 have HC:=aa (qI n hn w hG);clear hn hG;go_enter Tryz.func143,Tryz.ntmps143
 go_wp2_with (go_at_call 98;refine HC.out.mono ?_;rintro e w1 ⟨rfl,hb⟩)
 go_ret;exact ⟨rfl,hb⟩
def gW(k:Int):ByteArray:=if k<0 then ⟨#[46]⟩else bL k
def mO(t:List Int):ByteArray:=kv (t.map gW) ⟨#[32]⟩
theorem DV(A0:Option Addr)(c0:Nat)(l:List Int)(w:World)(hr0:Kd.C (Kd.int .i64) w A0 l.length l)(hl:l.length<=10000)(hn:∀x∈l,bJ x)(hG:dG w) :
  Calls Tryz.prog 62 #[.agg #[.slice A0 l.length c0]] w λe w'=>e=.returned (.string (mO l))/\Below w.heap.size w w':=by
 have hu:=Tryz.underlying34
 have HL:ae (l.length<=10000):=⟨hl⟩
 have HN:=aa hn;have HR0:=aa hr0;have HG:=aa hG;clear hr0 hl hn hG
 obtain ⟨w0,hw0⟩:∃w0,w0=w.alloc (.cells #[.slice A0 l.length c0] 34):=⟨_,rfl⟩
 have HB:=aa (show Below w.heap.size w (w0.alloc (.cells #[] 9)) from aG (by rw[hw0];exact aG (Below.refl _ _) _) _);have hO:=vz w0
 have hz:w0.heap.size=w.heap.size+1:=by rw[hw0];simp
 rw[hz]at hO;have HO:=aa (Kd.R_lower (base':=w.heap.size) hO (by omega));clear hz hO;subst hw0;go_enter Tryz.func62,Tryz.ntmps62;go_wp2
 go_loopg [3,10] l.length (λkq v3 v10 w'=>∃ (i:Nat) (iz:Int),v10=.int .i64 iz/\ae (iz=(i:Int))/\ae (i+kq=l.length)/\ae (Kd.R Kd.string 9 w' w.heap.size (λ_=>True) v3 ((l.take i).map gW))/\ae (Below w.heap.size w w'))
 case atStart=>exact ⟨0,0,rfl,⟨rfl⟩,⟨by omega⟩,HO,HB⟩
 case round =>
  clear HO HB;obtain ⟨i,iz,rfl,NI,NK,HO,HB⟩:=hrel
  cases gk with
  | zero =>
   have hi:i=l.length:=by have:=NK.out;omega
   subst hi;rw[List.take_length]at HO;have q1:decide (iz<(l.length:Int))=false:=decide_eq_false (by have:=NI.out;omega)
   go_wp2_with (go_at_call 99;refine (wK _ _ _ _ w.heap.size 20 (by omega) HO.out (by rw[List.length_map];have:=HL.out;omega) (λx hx=>by
    obtain ⟨n,h1,rfl⟩:=List.mem_map.1 hx;unfold gW
    split
    · decide
    · exact qF n (HN.out n h1)) (by decide)).mono ?_;rintro e w1 ⟨rfl,hb⟩)
   go_ret;exact ⟨rfl,aj HB.out hb⟩
  | succ d =>
   have hi0:0<=iz:=by have:=NI.out;omega
   have hin:iz<(l.length:Int):=by have:=NI.out;have:=NK.out;omega
   have q1:decide (iz<(l.length:Int))=true:=decide_eq_true hin;obtain ⟨ad0,e0,hx⟩:=Kd.at_int (Kd.C_below HR0.out HB.out) iz hi0 hin;cases e0
   have hi1:i<l.length:=by have:=NK.out;omega
   have HX:=aa (show bJ (rd l iz) from HN.out _ (by rw[NI.out,nE l i hi1];exact List.getElem_mem _));have HE:=aa (show (l.take i).map gW++[gW (rd l iz)]=(l.take (i+1)).map gW by rw[NI.out];exact xm gW l i hi1);have HLt:=aa (show ((l.take i).map gW).length<8796093022208 by rw[List.length_map,List.length_take];have:=HL.out;omega);have HI:=aa (show wrap64 (iz+1)=((i+1:Nat):Int) by rw[NI.out];have:=NK.out;have:=HL.out;rw[wrap64_in _ (by omega) (by omega)];omega);clear hi1;replace hi0:=eq_true hi0;replace hin:=eq_true hin
   by_cases hk:rd l iz<0
   ·
    have q2:decide (rd l iz<0)=true:=decide_eq_true hk;have HD:=aa (show gW (rd l iz)=⟨#[46]⟩ from if_pos hk);clear hk
    go_wp2_with (at_builtin;refine qL (.tmp 16) (.tmp 17) _ _ _ HO.out HB.out HLt.out ?_;intro v1 w1 ho hb _;rw[<- HD.out]at ho;replace HO:=aa ho;replace HB:=aa hb;clear ho hb)
    go_roundg d
    case measure=>omega
    case rel=>exact ⟨i+1,_,rfl,HI,⟨by have:=NK.out;omega⟩,⟨by rw[<- HE.out];exact HO.out⟩,HB⟩
   ·
    have q2:decide (rd l iz<0)=false:=decide_eq_false hk;have HD:=aa (show gW (rd l iz)=bL (rd l iz) from if_neg hk);clear hk
    go_wp2_with (first
     | (go_at_call 98;refine (qI _ HX.out _ jq).mono ?_;rintro e w1 ⟨rfl,hb⟩;replace HB:=aa (aj aW hb);replace HO:=aa (Kd.R_below HO.out hb);clear hb)
     | (at_builtin;refine qL (.tmp 19) (.tmp 22) _ _ _ HO.out HB.out HLt.out ?_;intro v1 w1 ho hb _;rw[<- HD.out]at ho;replace HO:=aa ho;replace HB:=aa hb;clear ho hb))
    go_roundg d
    case measure=>omega
    case rel=>exact ⟨i+1,_,rfl,HI,⟨by have:=NK.out;omega⟩,⟨by rw[<- HE.out];exact HO.out⟩,HB⟩
theorem GH(a b:ByteArray)(h:a=b):(a.toList == b.toList)=true:=by rw[h];simp
theorem FX(a b:ByteArray)(h:a≠b):(a.toList == b.toList)=false:=by
 rw[beq_eq_false_iff_ne,Lib.toList_data,Lib.toList_data];intro e;apply h;cases a;cases b;congr 1;exact Array.ext' e
theorem zG{s:ByteArray}(h:s.size=0):s.toList=[]:=by
 rw[Lib.toList_data];exact List.eq_nil_of_length_eq_zero (by rw[Array.length_toList];exact h)
theorem zC{s:ByteArray}(h:s.toList=[]):s.size=0:=by
 rw[Lib.toList_data]at h;have:=congrArg List.length h;rw[Array.length_toList]at this;exact this
theorem xY:Tryz.prog.underlying 143=some (.interface (Tryz.prog.methodsAt 143)):=by kernel_rfl
def rdNum(s:ByteArray):Option Int:=match Lib.atoiAll s.data.toList with
 | .ok n=>if Lib.itoa n=s.data.toList then some n else none
 | _=>none
theorem wU(n:Int)(s:ByteArray):bL n=s ↔ Lib.itoa n=s.data.toList:=by
 unfold bL
 constructor
 · rintro rfl;rfl
 · intro h;rw[h]
theorem wu{α:Type}(x:Lib.NumEnd α):x=Lib.NumEnd.syntax\/x=.range\/∃n,x=.ok n:=by
 cases x
 · exact .inr (.inr ⟨_,rfl⟩)
 · exact .inl rfl
 · exact .inr (.inl rfl)
theorem uP(s:ByteArray)(w:World)(hs:s.size<=1073741824)(hG:dG w) :
  Calls Tryz.prog 150 #[.string s] w (kg (rdNum s) w):=by
 have he1:∀ (W:World) u x,(binOp .eql 143 (.iface u x) .nilIface).run Tryz.prog W=.ok (.bool false) W:=λW u x=>run_eql_held_nil W _ u x xY;have he2:∀W:World,(binOp .eql 143 .nilIface .nilIface).run Tryz.prog W=.ok (.bool true) W:=λW=>run_eql_nil_nil W _ xY;have HG:=aa hG;obtain ⟨tp1,p1,hsyn⟩:=hG.syn;obtain ⟨tp2,p2,hran⟩:=hG.ran;unfold rdNum
 rcases wu (Lib.atoiAll s.data.toList)with hA|hA|⟨n,hA⟩
 ·
  rw[hA];dsimp only;have HC:=aa (Tryz.strconv_Atoi_syntax_var s (by omega) hA tp1 p1 w hsyn);clear hA hsyn hran hG hs;go_enter Tryz.func150,Tryz.ntmps150
  go_wp2_with (go_at_call 210;refine HC.out.mono ?_;rintro e w1 ⟨N,rfl,_,_,hb⟩)
  go_ret2;exact ⟨_,rfl,λm h=>(by cases h),hb⟩
 ·
  rw[hA];dsimp only;have HC:=aa (Tryz.strconv_Atoi_range_var s (by omega) hA tp2 p2 w hran);have HI:=aa (show bJ (Lib.atoiSat s.data.toList) from Lib.atoiSat_bounds _);clear hA hsyn hran hG hs;go_enter Tryz.func150,Tryz.ntmps150
  go_wp2_with (go_at_call 210;refine HC.out.mono ?_;rintro e w1 ⟨N,rfl,_,_,hb⟩)
  go_ret2;exact ⟨_,rfl,λm h=>(by cases h),hb⟩
 ·
  rw[hA];have HI:=aa (show bJ n from Lib.atoiAll_bounds hA)
  have HC:=aa ((Tryz.strconv_Atoi_ok s (by omega) n hA w).mono (R':=λe w'=>e=.returned (.tuple #[.int .i64 n,.nilIface])/\Below w.heap.size w w') λe w' h=>⟨h.1,by
   obtain ⟨_,rfl|⟨t,rfl⟩⟩:=h
   · exact Below.refl _ _
   · exact Lib.bytesWorld_below _ _ _⟩)
  clear hA hsyn hran hG hs
  by_cases hq:Lib.itoa n=s.data.toList
  ·
   have q1:=GH _ _ ((wU n s).2 hq);dsimp only;rw[if_pos hq];clear hq;go_enter Tryz.func150,Tryz.ntmps150
   go_wp2_with (first
    | (go_at_call 210;refine HC.out.mono ?_;rintro e w1 ⟨rfl,hb⟩;have HB:=aa hb;clear hb)
    | (go_at_call 98;refine (qI _ HI.out _ jq).mono ?_;rintro e w2 ⟨rfl,hb⟩;replace HB:=aa (aj aW hb);clear hb))
   go_ret2;exact ⟨_,rfl,λm h=>(by cases h;rfl),HB.out⟩
  ·
   have q1:=FX _ _ λh=>hq ((wU n s).1 h);dsimp only;rw[if_neg hq];clear hq;go_enter Tryz.func150,Tryz.ntmps150
   go_wp2_with (first
    | (go_at_call 210;refine HC.out.mono ?_;rintro e w1 ⟨rfl,hb⟩;have HB:=aa hb;clear hb)
    | (go_at_call 98;refine (qI _ HI.out _ jq).mono ?_;rintro e w2 ⟨rfl,hb⟩;replace HB:=aa (aj aW hb);clear hb))
   go_ret2;exact ⟨_,rfl,λm h=>(by cases h),HB.out⟩
def iH:List ByteArray->Option (List Int)
 | []=>some []
 | s :: r=>match rdNum s with
  | some n=>(iH r).map (n :: ·)
  | none=>none
theorem xC:∀ (l:List ByteArray) (s:ByteArray),iH (l++[s])=match iH l,rdNum s with|some a,some n=>some (a++[n])|_,_=>none
 | [],s=>by simp only[List.nil_append,iH];cases rdNum s <;> rfl
 | x :: r,s=>by
  simp only[List.cons_append,iH];rw[xC r s]
  cases rdNum x with
  | none=>rfl
  | some n=>cases iH r <;> cases rdNum s <;> rfl
theorem ET{l:List ByteArray}{i:Nat}(h:i<l.length)(hn:rdNum l[i]=none):iH l=none:=by
 induction l generalizing i with
 | nil=>simp at h
 | cons x r ih =>
  simp only[iH]
  cases i with
  | zero=>simp at hn;rw[hn]
  | succ i =>
   rw[ih (i:=i) (by simpa using h) (by simpa using hn)]
   cases rdNum x <;> rfl
theorem uV:∀ (l:List ByteArray) (a:List Int),iH l=some a->a.length=l.length
 | [],a,h=>by cases h;rfl
 | x :: r,a,h=>by
  simp only[iH]at h
  cases hx:rdNum x with
  | none=>rw[hx]at h;cases h
  | some n =>
   rw[hx]at h
   cases hr:iH r with
   | none=>rw[hr]at h;cases h
   | some b =>
    rw[hr]at h;obtain rfl:=Option.some.inj h;simp[uV r b hr]
def nS(s sep:ByteArray):Option (List Int):=if s.size=0 then some [] else iH (Lib.splitB sep 0 (Lib.countB s sep) s)
theorem uN(sep:ByteArray):∀ (k:Nat) (s:ByteArray) (x:ByteArray),x∈Lib.splitB sep 0 k s->x.size<=s.size
 | 0,s,x,h=>by
  rw[Lib.splitB_zero]at h;obtain rfl:=List.mem_singleton.1 h;exact Nat.le_refl _
 | k+1,s,x,h=>by
  unfold Lib.splitB at h
  split at h
  ·
   obtain rfl:=List.mem_singleton.1 h;exact Nat.le_refl _
  ·
   rcases List.mem_cons.1 h with rfl|h
   · simp[ByteArray.size_extract];omega
   ·
    have:=uN sep k _ x h;simp[ByteArray.size_extract]at this;omega
theorem xg(s sep:ByteArray)(w:World)(hs:s.size<=1000000)(h1:sep.size=1)(hG:dG w) :
  Calls Tryz.prog 205 #[.string s,.string sep] w (jo (nS s sep) w):=by
 unfold nS
 by_cases h0:s.size=0
 ·
  have q1:(s.toList == ([]:List UInt8))=true:=by rw[zG h0];rfl
  rw[if_pos h0];clear h0 hG;have HO:=aa (rY w);have HB:=aa (show Below w.heap.size w (w.alloc (.cells #[] 3)) from aG (Below.refl _ _) _);go_enter Tryz.func205,Tryz.ntmps205;go_wp2;go_ret2;exact ⟨_,[],rfl,HO.out,λm h=>(by cases h;rfl),HB.out⟩
 ·
  have q1:(s.toList == ([]:List UInt8))=false:=by
   rw[beq_eq_false_iff_ne];exact λe=>h0 (zC e)
  rw[if_neg h0];clear h0;obtain ⟨m,hm⟩:=hG.len;have HG:=aa hG;clear hG
  obtain ⟨ps,hps⟩:∃ps,ps=Lib.splitB sep 0 (Lib.countB s sep) s:=⟨_,rfl⟩
  have hpl:ps.length=Lib.countB s sep+1:=by rw[hps];exact Lib.splitB_all sep (by omega) 0 _ s rfl
  have hpz:∀x∈ps,x.size<=1000000:=λx hx=>by rw[hps]at hx;have:=uN sep _ s x hx;omega
  have hcl:Lib.countB s sep<=1000000:=by have:=Lib.countB_le sep (by omega) s.size s (Nat.le_refl _);omega
  have HC:=aa ((Tryz.strings_Split s sep m (w.alloc (.cells #[] 3)) (by omega) (by rw[World.cell?_alloc_old _ _ _ (Nat.ne_of_lt (World.block_lt_of_cell? _ _ hm))];exact hm) (by omega)).mono (R':=λe w'=>e=.returned (.slice (some ⟨w.heap.size+1,0,none⟩) ps.length ps.length)/\Below w.heap.size w w'/\Kd.R (Kd.int .i64) 3 w' w.heap.size (λ_=>True) (.slice (some ⟨w.heap.size,0,none⟩) 0 0) []/\w'.heap[w.heap.size+1]?=some (.cells (ps.map Value.string).toArray 9 (0,0))) λe w' h=>by
   obtain ⟨h1,h2⟩:=h;rw[<- hps]at h2
   have hsz:(w.alloc (.cells #[] 3)).heap.size=w.heap.size+1:=by simp
   rw[hsz]at h1;refine ⟨by rw[h1,hpl],?_,?_,?_⟩
   · rw[h2];exact aG (aG (Below.refl _ _) _) _
   · rw[h2];exact Kd.R_alloc (rY w) _
   ·
    rw[h2];have:=bC (w.alloc (.cells #[] 3)) (.cells (ps.map Value.string).toArray 9);rw[hsz]at this
    exact this)
  have HPL:ae (ps.length<=1000001):=⟨by omega⟩
  have HPZ:=aa hpz;clear hm hpl hpz hcl;rw[<- hps];clear hps hs h1;go_enter Tryz.func205,Tryz.ntmps205
  go_wp2_with (go_at_call 77;refine HC.out.mono ?_;rintro e w1 ⟨rfl,hb,ho,hc⟩;have HB:=aa hb;have HO:=aa ho;have HP:=aa hc;clear hb ho hc)
  go_loopg [6,19] ps.length (λkq v6 v19 w'=>∃ (i:Nat) (iz:Int) (l:List Int),v19=.int .i64 iz/\ae (iz=(i:Int))/\ae (i+kq=ps.length)/\ae (iH (ps.take i)=some l)/\ae (w'.heap[w.heap.size+1]?=some (.cells (ps.map Value.string).toArray 9 (0,0)))/\ae (Kd.R (Kd.int .i64) 3 w' w.heap.size (λ_=>True) v6 l)/\ae (Below w.heap.size w w'))
  case atStart=>exact ⟨0,0,[],rfl,⟨rfl⟩,⟨by omega⟩,⟨rfl⟩,HP,HO,HB⟩
  case round =>
   clear HO HB HP;obtain ⟨i,iz,l,rfl,NI,NK,NL,HP,HO,HB⟩:=hrel
   cases gk with
   | zero =>
    have hi:i=ps.length:=by have:=NK.out;omega
    subst hi;rw[List.take_length]at NL;have q1:decide (iz<(ps.length:Int))=false:=decide_eq_false (by have:=NI.out;omega);go_wp2;go_ret2;exact ⟨_,l,by rw[NL.out];rfl,HO.out,λm h=>(by rw[NL.out]at h;cases h;rfl),HB.out⟩
   | succ d =>
    have hi0:0<=iz:=by have:=NI.out;omega
    have hin:iz<(ps.length:Int):=by have:=NI.out;have:=NK.out;omega
    have q1:decide (iz<(ps.length:Int))=true:=decide_eq_true hin
    have hi1:i<ps.length:=by have:=NK.out;omega
    obtain ⟨x,hx⟩:∃x,x=ps[i]:=⟨_,rfl⟩
    have hxc:wr.cell? ⟨w.heap.size+1,iz.toNat,none⟩=some (.string x):=(ah HP.out _).trans (by rw[NI.out,Int.toNat_natCast,hx];simp[hi1]);have HXZ:=aa (show x.size<=1073741824 by have:=HPZ.out x (by rw[hx];exact List.getElem_mem _);omega);have HT:=aa (show ps.take (i+1)=ps.take i++[x] by rw[List.take_succ_eq_append_getElem hi1,hx]);have HXN:=aa (show rdNum x=none->iH ps=none from λh=>ET hi1 (by rw[<- hx];exact h));have HLt:=aa (show l.length<17592186044416 by have:=uV _ _ NL.out;rw[List.length_take]at this;have:=HPL.out;omega);have HI:=aa (show wrap64 (iz+1)=((i+1:Nat):Int) by rw[NI.out];have:=NK.out;have:=HPL.out;rw[wrap64_in _ (by omega) (by omega)];omega);clear hi1 hx;replace hi0:=eq_true hi0;replace hin:=eq_true hin
    cases hq:rdNum x with
    | none =>
     have HN:=aa (HXN.out hq);have HRN:=aa (show (rdNum x).isSome=false by rw[hq];rfl);clear hq
     go_wp2_with (go_at_call 150;refine (uP x _ HXZ.out jq).mono ?_;rintro e w1 ⟨n,rfl,_,hb⟩;rw[HRN.out];replace HB:=aa (aj aW hb);clear hb)
     go_ret2;exact ⟨_,[],by rw[HN.out];rfl,Kd.R_nil _ _ _ _ _,λm h=>(by rw[HN.out]at h;cases h),HB.out⟩
    | some n =>
     have HRN:=aa (show (rdNum x).isSome=true by rw[hq];rfl);have HNS:=aa (show iH (ps.take (i+1))=some (l++[n]) by rw[HT.out,xC,NL.out,hq]);have HQ:=aa hq;clear hq
     go_wp2_with (first
      | (go_at_call 150;refine (uP x _ HXZ.out jq).mono ?_;rintro e w1 ⟨n',rfl,hn',hb⟩;obtain rfl:=hn' _ HQ.out;rw[HRN.out];replace HB:=aa (aj aW hb);replace HO:=aa (Kd.R_below HO.out hb);replace HP:=aa ((hb.block _ (Array.getElem?_eq_some_iff.1 HP.out).1).trans HP.out);clear hb hn')
      | (at_builtin;refine qf (.tmp 30) (.tmp 32) _ _ _ HO.out HB.out HLt.out ?_;intro v1 w1 ho hb hg;replace HP:=aa ((hg.block _ (Array.getElem?_eq_some_iff.1 HP.out).1 (Kd.R_ne HO.out HP.out (by decide))).trans HP.out);replace HO:=aa ho;replace HB:=aa hb;clear ho hb hg))
     go_roundg d
     case measure=>omega
     case rel=>exact ⟨i+1,_,_,rfl,HI,⟨by have:=NK.out;omega⟩,HNS,HP,HO,HB⟩
def iX(s:ByteArray):Option (List Int):=if s.toList=[] then none else if s.toList=[45] then some [] else if Lib.hasPrefix s.data.toList [45]=true then none else nS s ⟨#[44]⟩
theorem AJ{s:ByteArray}(h:s.toList=[45]):nS (⟨(Lib.trimPrefix s.data.toList [45]).toArray⟩:ByteArray) ⟨#[44]⟩=some []:=by
 rw[Lib.toList_data]at h;rw[h];rfl
theorem GM{s:ByteArray}(h:Lib.hasPrefix s.data.toList [45]=false):(⟨(Lib.trimPrefix s.data.toList [45]).toArray⟩:ByteArray)=s:=by
 unfold Lib.trimPrefix;rw[h,if_neg (by decide)]
theorem pq(s:ByteArray)(w:World)(hs:s.size<=1000000)(hG:dG w) :
  Calls Tryz.prog 147 #[.string s] w (jo (iX s) w):=by
 have HP:=aa (Tryz.strings_HasPrefix s ⟨#[45]⟩ w);have HT:=aa (Tryz.strings_TrimPrefix s ⟨#[45]⟩ w);have HG:=aa hG;unfold iX
 by_cases h0:s.toList=[]
 ·
  have q1:(s.toList == ([]:List UInt8))=true:=beq_iff_eq.2 h0;rw[if_pos h0];clear h0 hG hs;go_enter Tryz.func147,Tryz.ntmps147;go_wp2;go_ret2;exact ⟨_,[],rfl,Kd.R_nil _ _ _ _ _,λm h=>(by cases h),Below.refl _ _⟩
 rw[if_neg h0];have q1:(s.toList == ([]:List UInt8))=false:=beq_eq_false_iff_ne.2 h0;clear h0
 by_cases h1:s.toList=[45]
 ·
  have q2:(s.toList == ([45]:List UInt8))=true:=beq_iff_eq.2 h1;have q3:(s.toList != ([45]:List UInt8))=false:=bne_eq_false_iff_eq.2 h1;have HH:=aa (show Lib.hasPrefix s.data.toList [45]=true by rw[Lib.toList_data]at h1;rw[h1];rfl);have HD:=aa (AJ h1);have HR:=aa (xg ⟨(Lib.trimPrefix s.data.toList [45]).toArray⟩ ⟨#[44]⟩ w (by rw[Lib.toList_data]at h1;rw[h1];decide) (by decide) hG);rw[if_pos h1];clear h1 hG hs;go_enter Tryz.func147,Tryz.ntmps147
  go_wp2_with (first
   | (go_at_call 204;refine HP.out.mono ?_;rintro e w1 ⟨rfl,rfl⟩;rw[HH.out])
   | (go_at_call 206;refine HT.out.mono ?_;rintro e w1 ⟨rfl,rfl⟩)
   | (go_at_call 205;refine HR.out.mono ?_;rintro e w1 ⟨v,l,rfl,ho,hl,hb⟩;rw[HD.out]at hl ⊢;have HO:=aa ho;have HL:=aa hl;clear ho hl))
  go_ret2;exact ⟨_,_,rfl,HO.out,HL.out,hb⟩
 rw[if_neg h1];have q2:(s.toList == ([45]:List UInt8))=false:=beq_eq_false_iff_ne.2 h1;have q3:(s.toList != ([45]:List UInt8))=true:=bne_iff_ne.2 h1;clear h1
 cases h2:Lib.hasPrefix s.data.toList [45] with
 | true =>
  have HH:=aa h2;rw[if_pos rfl];clear h2 hG hs;go_enter Tryz.func147,Tryz.ntmps147
  go_wp2_with (go_at_call 204;refine HP.out.mono ?_;rintro e w1 ⟨rfl,rfl⟩;rw[HH.out])
  go_ret2;exact ⟨_,[],rfl,Kd.R_nil _ _ _ _ _,λm h=>(by cases h),Below.refl _ _⟩
 | false =>
  have HH:=aa h2;have HR:=aa (xg s ⟨#[44]⟩ w hs (by decide) hG);have HE:=aa (GM h2);rw[if_neg (by decide)];clear h2 hG hs;go_enter Tryz.func147,Tryz.ntmps147
  go_wp2_with (first
   | (go_at_call 204;refine HP.out.mono ?_;rintro e w1 ⟨rfl,rfl⟩;rw[HH.out])
   | (go_at_call 206;refine HT.out.mono ?_;rintro e w1 ⟨rfl,rfl⟩;rw[HE.out])
   | (go_at_call 205;refine HR.out.mono ?_;rintro e w1 ⟨v,l,rfl,ho,hl,hb⟩;have HO:=aa ho;have HL:=aa hl;clear ho hl))
  go_ret2;exact ⟨_,_,rfl,HO.out,HL.out,hb⟩
def bT(s:ByteArray):Option Int:=match rdNum s with
 | some n=>if 0<=n/\n<=999999 then some n else none
 | none=>none
theorem lH(s:ByteArray)(w:World)(hs:s.size<=1000000)(hG:dG w) :
  Calls Tryz.prog 80 #[.string s] w (kg (bT s) w):=by
 have HC:=aa (uP s w (by omega) hG);clear hG hs
 have hbt:∀ (n:Int) (b:Bool) (V:World),(decide (0<=n) && decide (n<=999999))=b->Calls Tryz.prog 101 #[.int .i64 n,.int .i64 0,.int .i64 999999] V λe w'=>e=.returned (.bool b)/\V=w':=by
  intro n b V hb
  cases h1:decide (n >= 0) with
  | false =>
   have:b=false:=by rw[<- hb,show decide (0<=n)=false from h1];rfl
   subst this;clear hb;go_enter Tryz.func101,Tryz.ntmps101;go_wp2;go_ret;exact ⟨rfl,rfl⟩
  | true =>
   have:b=decide (n<=999999):=by rw[<- hb,show decide (0<=n)=true from h1];rfl
   subst this;clear hb;go_enter Tryz.func101,Tryz.ntmps101;go_wp2;go_ret;exact ⟨rfl,rfl⟩
 have HT:=aa hbt;clear hbt
 cases hr:rdNum s with
 | none =>
  have HR:=aa hr;have HN:=aa (show bT s=none by unfold bT;rw[hr]);clear hr;go_enter Tryz.func80,Tryz.ntmps80
  go_wp2_with (go_at_call 150;refine HC.out.mono ?_;rintro e w1 ⟨n,rfl,_,hb⟩;rw[HR.out];dsimp only[Option.isSome])
  go_ret2;exact ⟨_,by rw[HN.out];rfl,λm h=>(by rw[HN.out]at h;cases h),hb⟩
 | some n =>
  have HR:=aa hr;have HE:=aa (show bT s=if 0<=n/\n<=999999 then some n else none by unfold bT;rw[hr])
  have HQ:=aa (show (decide (0<=n) && decide (n<=999999))=(bT s).isSome by
   rw[HE.out]
   by_cases h:0<=n/\n<=999999
   · rw[if_pos h];simp[h.1,h.2]
   · rw[if_neg h];simp only[Option.isSome_none,Bool.and_eq_false_iff,decide_eq_false_iff_not];omega)
  have HM:=aa (show ∀m,bT s=some m->n=m from λm h=>by
   rw[HE.out]at h
   split at h
   · cases h;rfl
   · cases h)
  clear hr
  obtain ⟨b,hb0⟩:∃b,b=(bT s).isSome:=⟨_,rfl⟩
  rw[<- hb0]at HQ;have HB0:=aa hb0;clear hb0;go_enter Tryz.func80,Tryz.ntmps80
  go_wp2_with (first
   | (go_at_call 150;refine HC.out.mono ?_;rintro e w1 ⟨n',rfl,hn,hb⟩;obtain rfl:=hn _ HR.out;rw[HR.out];dsimp only[Option.isSome];clear hn)
   | (go_at_call 101;refine (HT.out _ _ _ HQ.out).mono ?_;rintro e w2 ⟨rfl,rfl⟩))
  go_ret2;exact ⟨_,by rw[<- HB0.out];rfl,HM.out,hb⟩
structure dW (w:World) (B g:Nat) (l t:List Int):Prop where
 lo:B<=g
 rows:∃v0 v1,w.heap[g]?=some (.cells #[v0,v1] 36 (0,0))/\Kd.R (Kd.int .i64) 3 w B (λ_=>True) v0 l/\Kd.R (Kd.int .i64) 3 w B (λ_=>True) v1 t/\gZ v0 v1
theorem dW.below{w w':World}{B g:Nat}{l t:List Int}(h:dW w B g l t)(hb:Below w.heap.size w w'):dW w' B g l t:=by
 obtain ⟨h0,v0,v1,h1,h2,h3,h4⟩:=h;exact ⟨h0,v0,v1,aI h1 hb,Kd.R_below h2 hb,Kd.R_below h3 hb,h4⟩
def Left(B g:Nat)(l t:List Int)(w:World)(r:ByteArray)(e:Ending)(w':World):Prop:=e=.returned (.string r)/\dW w' B g l t/\w.grownBy w' (some g)
theorem qw{w:World}(g i:Nat)(u:Value):w.grownBy (w.setCell ⟨g,i,none⟩ u) (some g) :=
 ⟨rfl,rfl,rfl,by simp[World.setCell],λk _ hk=>Below.heap_setCell w ⟨g,i,none⟩ u k (λe=>hk (by rw[e]))⟩
theorem mR{w w1 w2:World}{row:Option Nat}(h:w.grownBy w1 row)(k:w1.grownBy w2 row):w.grownBy w2 row :=
 ⟨k.os.trans h.os,k.tape.trans h.tape,k.output.trans h.output,Nat.le_trans h.size k.size,λi hi hr=>(k.block i (Nat.lt_of_lt_of_le hi h.size) hr).trans (h.block i hi hr)⟩
def okB:ByteArray:=⟨#[111,107]⟩
def gG:ByteArray:=⟨#[119,104,97,116]⟩
theorem vW(v:Value)(B g:Nat)(l t:List Int)(w:World)(hd:dW w B g l t) :
  Calls Tryz.prog 82 #[.pointer (some ⟨g,0,none⟩),v,.bool false] w (Left B g l t w iI):=by
 have HD:=aa hd;clear hd;go_enter Tryz.func82,Tryz.ntmps82;go_wp2;go_ret;exact ⟨rfl,HD.out,World.grownBy.refl _ _⟩
theorem l7{w0 w:World}{v u:Value}{xs ys:List Int}{b:Nat}(hv:Kd.R (Kd.int .i64) 3 w w0.heap.size (λ_=>True) v xs)(hu:Kd.R (Kd.int .i64) 3 w0 b (λ_=>True) u ys):∀k,v.ownBlock=some k->u.ownBlock≠some k:=λk h1 h2=>by
 obtain ⟨i1,o1⟩:=Kd.R_own hv;obtain ⟨i2,o2⟩:=Kd.R_own hu;have:=o_ o1 k h1;have:=uy o2 k h2;omega
theorem xB{v:Value}{B g:Nat}{l l' t:List Int}{w0 w:World}(hd:dW w0 B g l t)(hb:Below w0.heap.size w0 w)(hB0:B<=w0.heap.size)(hv:Kd.R (Kd.int .i64) 3 w w0.heap.size (λ_=>True) v l') :
  Calls Tryz.prog 82 #[.pointer (some ⟨g,0,none⟩),v,.bool true] w (Left B g l' t w okB):=by
 obtain ⟨hB,v0,v1,h1,h2,h3,h4⟩:=hd;have hne:=l7 hv h3;replace h1:=aI h1 hb;replace h3:=Kd.R_below h3 hb;obtain ⟨A,c,rfl⟩:=Kd.R_slice hv
 have HR:=aa (show dW (w.setCell ⟨g,0,none⟩ (.slice A l'.length c)) B g l' t from
  ⟨hB,.slice A l'.length c,v1,dV h1 0 _ rfl,Kd.R_set (Kd.R_lower hv hB0) h1 (by decide) _ _,Kd.R_set h3 h1 (by decide) _ _,hne⟩)
 have hc:w.cell? ⟨g,0,none⟩=some v0:=(ah h1 0).trans rfl;have hf:=au h1 0;clear h1 h2 h3 h4 hv hB hb hB0 hne;go_enter Tryz.func82,Tryz.ntmps82;go_wp2;go_ret;exact ⟨rfl,HR.out,qw _ _ _⟩
theorem wL(v:Value)(B g:Nat)(l t:List Int)(w:World)(hd:dW w B g l t)(hv:v.oneCell'=true) :
  Calls Tryz.prog 153 #[.pointer (some ⟨g,0,none⟩),.agg #[v],.bool false] w (Left B g l t w iI):=by
 have HD:=aa (hd.below (aG (Below.refl _ _) (.cells #[v] 34)));have HB:=aa (ku (aG (Below.refl w.heap.size w) (.cells #[v] 34)) (some g));clear hd;go_enter Tryz.func153,Tryz.ntmps153;go_wp2;go_ret;exact ⟨rfl,HD.out,HB.out⟩
theorem wW{v:Value}{B g:Nat}{l t t':List Int}{w0 w:World}(hd:dW w0 B g l t)(hb0:Below w0.heap.size w0 w)(hB0:B<=w0.heap.size)(hv:Kd.R (Kd.int .i64) 3 w w0.heap.size (λ_=>True) v t') :
  Calls Tryz.prog 153 #[.pointer (some ⟨g,0,none⟩),.agg #[v],.bool true] w (Left B g l t' w okB):=by
 obtain ⟨hB,v0,v1,h1,h2,h3,h4⟩:=hd;have hne:gZ v0 v:=λk h5 h6=>l7 hv h2 k h6 h5;obtain ⟨A,c,rfl⟩:=Kd.R_slice hv;have hb:=aG (Below.refl w.heap.size w) (.cells #[.slice A t'.length c] 34)
 obtain ⟨w1,hw1⟩:∃w1,w1=w.alloc (.cells #[.slice A t'.length c] 34):=⟨_,rfl⟩
 rw[<- hw1]at hb;have hv1:=Kd.R_below hv hb;replace h1:=aI (aI h1 hb0) hb;replace h2:=Kd.R_below (Kd.R_below h2 hb0) hb
 have HR:=aa (show dW (w1.setCell ⟨g,1,none⟩ (.slice A t'.length c)) B g l t' from
  ⟨hB,v0,.slice A t'.length c,dV h1 1 _ rfl,Kd.R_set h2 h1 (by decide) _ _,Kd.R_set (Kd.R_lower hv1 hB0) h1 (by decide) _ _,hne⟩)
 have HG:=aa (mR (ku hb (some g)) (qw (w:=w1) g 1 (.slice A t'.length c)));subst hw1;have hc:(w.alloc (.cells #[.slice A t'.length c] 34)).cell? ⟨g,1,none⟩=some v1:=(ah h1 1).trans rfl;have hf:=au h1 1;clear h1 h2 h3 h4 hv hv1 hB hb hb0 hB0 hne;go_enter Tryz.func153,Tryz.ntmps153;go_wp2;go_ret;exact ⟨rfl,HR.out,HG.out⟩
attribute [local go_sem] l8 lZ
structure aN where
 park:List Int->Bool
 tab:List Int->Bool
 next:List Int->Option (List Int)
 at_:Int->Int->Option (List Int)
 cars:List Int->List Int
 far:List Int->List Int
 cuts:List Int->List Int
 rank:List Int->Int
 join:List Int->List Int->Option (List Int)
 cls:List Int->Option (List Int)
 count:Int->Option Int
 back:Int->Option Int
 empty:Int->Option (List Int)
 ins:List Int->Int->Option (List Int × Int)
 rem:List Int->Int->Option (List Int)
 find:List Int->Int->Option (Int × Int)
 cost:List Int->Int
def fG(l:List Int):Prop:=l.length<=10000/\∀x∈l,bJ x
structure Good (F:aN):Prop where
 park:∀l,F.park l=true->l.length<=8/\∀x∈l,0<=x/\x<=99
 tab:∀t,F.tab t=true->t.length<=12/\∀x∈t,-1<=x/\x<=999
 next:∀l l',F.park l=true->F.next l=some l'->F.park l'=true
 at_:∀n r l',F.at_ n r=some l'->F.park l'=true
 join:∀l m l',F.join l m=some l'->F.park l'=true
 empty:∀n t,F.empty n=some t->F.tab t=true
 ins:∀t n t' a,F.tab t=true->F.ins t n=some (t',a)->F.tab t'=true/\bJ a
 rem:∀t n t',F.tab t=true->F.rem t n=some t'->F.tab t'=true
 find:∀t n a c,F.tab t=true->F.find t n=some (a,c)->0<=a/\a<=999/\0<=c/\c<=999
 cars:∀l,F.park l=true->fG (F.cars l)
 far:∀l,F.park l=true->fG (F.far l)
 cuts:∀l,F.park l=true->fG (F.cuts l)
 cls:∀l m,F.cls l=some m->fG m
 rank:∀l,F.park l=true->bJ (F.rank l)
 count:∀n m,F.count n=some m->bJ m
 back:∀n m,F.back n=some m->bJ m
 cost:∀t,F.tab t=true->bJ (F.cost t)
def kP(o:Option (List Int))(w:World)(e:Ending)(w':World):Prop:=∃v l,e=.returned (.tuple #[.agg #[v],.bool o.isSome])/\Kd.R (Kd.int .i64) 3 w' w.heap.size (λ_=>True) v l/\(∀m,o=some m->l=m)/\Below w.heap.size w w'
def tQ(o:Option (List Int × Int))(w:World)(e:Ending)(w':World):Prop:=∃v l n,e=.returned (.tuple #[.agg #[v],.int .i64 n,.bool o.isSome])/\Kd.R (Kd.int .i64) 3 w' w.heap.size (λ_=>True) v l/\(∀m,o=some m->(l,n)=m)/\(0<=n/\n<=999)/\Below w.heap.size w w'
def uO(o:Option (Int × Int))(w:World)(e:Ending)(w':World):Prop:=∃a n,e=.returned (.tuple #[.int .i64 a,.int .i64 n,.bool o.isSome])/\(∀m,o=some m->(a,n)=m)/\Below w.heap.size w w'
def uF(o:Option (List Int))(w:World)(e:Ending)(w':World):Prop:=∃v l n,e=.returned (.tuple #[v,.int .i64 n,.bool o.isSome])/\Kd.R (Kd.int .i64) 3 w' w.heap.size (λ_=>True) v l/\(∀m,o=some m->l=m)/\Below w.heap.size w w'
def aM(w:World)(A:Option Addr)(c:Nat)(l:List Int):Prop:=Kd.C (Kd.int .i64) w A l.length l/\l.length<=c
structure nN (F:aN):Prop where
 isPark:∀A c l w,aM w A c l->fG l->Calls Tryz.prog 60 #[.slice A l.length c] w λe w'=>e=.returned (.bool (F.park l))/\Below w.heap.size w w'
 next:∀A c l w,aM w A c l->F.park l=true->Calls Tryz.prog 33 #[.slice A l.length c] w (jo (F.next l) w)
 at_:∀n r w,0<=n->n<=999999->0<=r->r<=999999->Calls Tryz.prog 63 #[.int .i64 n,.int .i64 r] w (jo (F.at_ n r) w)
 cars:∀A c l own w,aM w A c l->F.park l=true->own=(if (l.length:Int)<1 then 1 else (l.length:Int))->Calls Tryz.prog 140 #[.slice A l.length c,.int .i64 own] w (jo (some (F.cars l)) w)
 far:∀A c l own w,aM w A c l->F.park l=true->own=(if (l.length:Int)<1 then 1 else (l.length:Int))->Calls Tryz.prog 141 #[.slice A l.length c,.int .i64 own] w (jo (some (F.far l)) w)
 cuts:∀A c l w,aM w A c l->F.park l=true->Calls Tryz.prog 142 #[.slice A l.length c] w (jo (some (F.cuts l)) w)
 rank:∀A c l w,aM w A c l->F.park l=true->Calls Tryz.prog 144 #[.slice A l.length c] w (kg (some (F.rank l)) w)
 join:∀A c l A' c' m w,aM w A c l->aM w A' c' m->F.park l=true->fG m->Calls Tryz.prog 148 #[.slice A l.length c,.slice A' m.length c'] w (jo (F.join l m) w)
 cls:∀A c l w,aM w A c l->fG l->Calls Tryz.prog 149 #[.slice A l.length c] w (uF (F.cls l) w)
 count:∀n w,0<=n->n<=999999->Calls Tryz.prog 151 #[.int .i64 n] w (kg (F.count n) w)
 back:∀n w,0<=n->n<=999999->Calls Tryz.prog 152 #[.int .i64 3,.int .i64 n] w (kg (F.back n) w)
 empty:∀n w,0<=n->n<=999999->Calls Tryz.prog 154 #[.int .i64 n] w (kP (F.empty n) w)
 ins:∀A c t n w,aM w A c t->F.tab t=true->0<=n->n<=999999->Calls Tryz.prog 155 #[.agg #[.slice A t.length c],.int .i64 n] w (tQ (F.ins t n) w)
 rem:∀A c t n w,aM w A c t->F.tab t=true->0<=n->n<=999999->Calls Tryz.prog 156 #[.agg #[.slice A t.length c],.int .i64 n] w (kP (F.rem t n) w)
 find:∀A c t n w,aM w A c t->F.tab t=true->0<=n->n<=999999->Calls Tryz.prog 157 #[.agg #[.slice A t.length c],.int .i64 n] w (uO (F.find t n) w)
 cost:∀A c t w,aM w A c t->F.tab t=true->Calls Tryz.prog 145 #[.agg #[.slice A t.length c]] w (kg (some (F.cost t)) w)
structure gF where
 l:List Int
 t:List Int
 r:ByteArray
def df(B g:Nat)(x:gF)(w:World)(e:Ending)(w':World):Prop:=Left B g x.l x.t w x.r e w'
def fw(l t:List Int):Option (List Int)->gF
 | some l'=>⟨l',t,okB⟩
 | none=>⟨l,t,iI⟩
def lK(l t:List Int):Option (List Int)->gF
 | some t'=>⟨l,t',okB⟩
 | none=>⟨l,t,iI⟩
def lV(l t:List Int):Option Int->gF
 | some n=>⟨l,t,bL n⟩
 | none=>⟨l,t,iI⟩
theorem uY{F:aN}(hF:Good F){l:List Int}(h:F.park l=true):fG l:=by
 obtain ⟨h1,h2⟩:=hF.park l h;exact ⟨by omega,λx hx=>by have:=h2 x hx;unfold bJ;omega⟩
theorem yu{F:aN}(hF:Good F){l:List Int}(h:F.tab l=true):fG l:=by
 obtain ⟨h1,h2⟩:=hF.tab l h;exact ⟨by omega,λx hx=>by have:=h2 x hx;unfold bJ;omega⟩
theorem dW.open_{w:World}{B g:Nat}{l t:List Int}(h:dW w B g l t):∃A c A' c',ae (aM w A c l)/\ae (aM w A' c' t)/\w.cell? ⟨g,0,none⟩=some (.slice A l.length c)/\w.cell? ⟨g,1,none⟩=some (.slice A' t.length c'):=by
 obtain ⟨_,v0,v1,h1,h2,h3,_⟩:=h;obtain ⟨A,c,rfl,h4,h5⟩:=Kd.R_reads h2;obtain ⟨A',c',rfl,h6,h7⟩:=Kd.R_reads h3;exact ⟨A,c,A',c',⟨h5,h4⟩,⟨h7,h6⟩,(ah h1 0).trans rfl,(ah h1 1).trans rfl⟩
theorem aM.below{w w':World}{A:Option Addr}{c:Nat}{l:List Int}(h:aM w A c l)(hb:Below w.heap.size w w'):aM w' A c l:=⟨Kd.C_below h.1 hb,h.2⟩
theorem gH{B g:Nat}{l t:List Int}{w w1:World}{r:ByteArray}(hd:dW w B g l t)(hb:Below w.heap.size w w1):Left B g l t w r (.returned (.string r)) w1:=⟨rfl,hd.below hb,ku hb _⟩
theorem kK{B g:Nat}{x:gF}{w w1 w2:World}{e:Ending}(hb:Below w.heap.size w w1)(h:df B g x w1 e w2):df B g x w e w2:=⟨h.1,h.2.1,mR (ku hb _) h.2.2⟩
theorem tX(o:Option (List Int)){v:Value}{B g:Nat}{l l' t:List Int}{w0 w:World}(hd:dW w0 B g l t)(hb:Below w0.heap.size w0 w)(hB:B<=w0.heap.size)(hv:Kd.R (Kd.int .i64) 3 w w0.heap.size (λ_=>True) v l')(ho:∀m,o=some m->l'=m) :
  Calls Tryz.prog 82 #[.pointer (some ⟨g,0,none⟩),v,.bool o.isSome] w (df B g (fw l t o) w):=by
 cases o with
 | none=>exact vW v B g l t w (hd.below hb)
 | some m =>
  obtain rfl:=ho m rfl;exact xB hd hb hB hv
theorem vV(o:Option (List Int)){v:Value}{B g:Nat}{l t t':List Int}{w0 w:World}(hd:dW w0 B g l t)(hb:Below w0.heap.size w0 w)(hB:B<=w0.heap.size)(hv:Kd.R (Kd.int .i64) 3 w w0.heap.size (λ_=>True) v t')(ho:∀m,o=some m->t'=m) :
  Calls Tryz.prog 153 #[.pointer (some ⟨g,0,none⟩),.agg #[v],.bool o.isSome] w (df B g (lK l t o) w):=by
 cases o with
 | none=>exact wL v B g l t w (hd.below hb) (by obtain ⟨A,c,rfl⟩:=Kd.R_slice hv;rfl)
 | some m =>
  obtain rfl:=ho m rfl;exact wW hd hb hB hv
def qc(o:Option (List Int)):ByteArray:=match o with|some l=>fO l|none=>iI
theorem rq(o:Option (List Int))(v:Value)(l:List Int)(base:Nat)(w:World)(hv:Kd.R (Kd.int .i64) 3 w base (λ_=>True) v l)(ho:∀m,o=some m->l=m)(hf:∀m,o=some m->fG m)(hG:dG w) :
  Calls Tryz.prog 139 #[v,.bool o.isSome] w λe w'=>e=.returned (.string (qc o))/\Below w.heap.size w w':=by
 cases o with
 | none=>exact Db v w
 | some m =>
  obtain rfl:=ho m rfl;obtain ⟨A,c,rfl,h1,h2⟩:=Kd.R_reads hv;exact Ec A c l w h2 (hf l rfl).1 (hf l rfl).2 hG
def pX(o:Option Int):ByteArray:=match o with|some n=>bL n|none=>iI
theorem rQ(o:Option Int)(n:Int)(w:World)(ho:∀m,o=some m->n=m)(hf:∀m,o=some m->bJ m)(hG:dG w) :
  Calls Tryz.prog 143 #[.int .i64 n,.bool o.isSome] w λe w'=>e=.returned (.string (pX o))/\Below w.heap.size w w':=by
 cases o with
 | none=>exact zL _ w
 | some m =>
  obtain rfl:=ho m rfl;exact zY n w (hf n rfl) hG
structure dx (F:aN) (B g:Nat) (l t:List Int) (w:World):Prop where
 good:Good F
 impl:nN F
 at_:dW w B g l t
 park:F.park l=true
 tab:F.tab t=true
 glob:dG w
 low:B<=w.heap.size
 eight:8<=B
theorem CW{F:aN}{B g:Nat}{l t:List Int}{w:World}(h:dx F B g l t w):Calls Tryz.prog 78 #[.pointer (some ⟨g,0,none⟩),.string ⟨#[110,101,120,116]⟩] w (df B g (fw l t (F.next l)) w):=by
 obtain ⟨hF,hI,hd,hl,ht,hG,hB,h8⟩:=h;obtain ⟨A,c,A',c',HL,HT,hc0,hc1⟩:=hd.open_;have HD:=aa hd;have HG:=aa hG;have HC:=aa (hI.next A c l w HL.out hl);have HBz:=aa hB;clear hd hF hI hG hB hl ht h8;go_enter Tryz.func78,Tryz.ntmps78
 go_wp2_with (first
  | (go_at_call 33;refine HC.out.mono ?_;rintro e w1 ⟨v,l',rfl,ho,hm,hb⟩;have HO:=aa ho;have HM:=aa hm;have HB:=aa hb;clear ho hm hb)
  | (go_at_call 82;refine (tX (F.next l) HD.out HB.out HBz.out HO.out HM.out).mono ?_;rintro e w2 ⟨rfl,hd2,hg2⟩;have HR:=aa (kK HB.out (x:=fw l t (F.next l)) ⟨rfl,hd2,hg2⟩);clear hd2 hg2))
 all_goals
  go_ret;exact HR.out
theorem CP{F:aN}{B g:Nat}{l t:List Int}{w:World}(h:dx F B g l t w):Calls Tryz.prog 78 #[.pointer (some ⟨g,0,none⟩),.string ⟨#[99,97,114,115]⟩] w (df B g (⟨l,t,fO (F.cars l)⟩) w):=by
 obtain ⟨hF,hI,hd,hl,ht,hG,hB,h8⟩:=h;obtain ⟨A,c,A',c',HL,HT,hc0,hc1⟩:=hd.open_;have HD:=aa hd;have HG:=aa hG;have HC:=aa λown=>hI.cars A c l own w HL.out hl;have HF:=aa (hF.cars l hl);clear hd hF hI hG hB hl ht h8;go_enter Tryz.func78,Tryz.ntmps78
 go_wp2_with (first
  | (go_at_call 140;refine (HC.out _ (by first|rw[if_pos (by omega)]|rw[if_neg (by omega)])).mono ?_;rintro e w1 ⟨v,l',rfl,ho,hm,hb⟩;have HO:=aa ho;have HM:=aa hm;have HB:=aa hb;clear ho hm hb)
  | (go_at_call 139;refine (rq (some (F.cars l)) _ _ _ _ HO.out HM.out (λm h=>by cases h;exact HF.out) jq).mono ?_;rintro e w2 ⟨rfl,hb⟩;replace HB:=aa (aj HB.out hb);clear hb))
 all_goals
  go_ret;exact gH HD.out HB.out
theorem Hf{F:aN}{B g:Nat}{l t:List Int}{w:World}(h:dx F B g l t w):Calls Tryz.prog 78 #[.pointer (some ⟨g,0,none⟩),.string ⟨#[102,97,114]⟩] w (df B g (⟨l,t,fO (F.far l)⟩) w):=by
 obtain ⟨hF,hI,hd,hl,ht,hG,hB,h8⟩:=h;obtain ⟨A,c,A',c',HL,HT,hc0,hc1⟩:=hd.open_;have HD:=aa hd;have HG:=aa hG;have HC:=aa λown=>hI.far A c l own w HL.out hl;have HF:=aa (hF.far l hl);clear hd hF hI hG hB hl ht h8;go_enter Tryz.func78,Tryz.ntmps78
 go_wp2_with (first
  | (go_at_call 141;refine (HC.out _ (by first|rw[if_pos (by omega)]|rw[if_neg (by omega)])).mono ?_;rintro e w1 ⟨v,l',rfl,ho,hm,hb⟩;have HO:=aa ho;have HM:=aa hm;have HB:=aa hb;clear ho hm hb)
  | (go_at_call 139;refine (rq (some (F.far l)) _ _ _ _ HO.out HM.out (λm h=>by cases h;exact HF.out) jq).mono ?_;rintro e w2 ⟨rfl,hb⟩;replace HB:=aa (aj HB.out hb);clear hb))
 all_goals
  go_ret;exact gH HD.out HB.out
theorem AY{F:aN}{B g:Nat}{l t:List Int}{w:World}(h:dx F B g l t w):Calls Tryz.prog 78 #[.pointer (some ⟨g,0,none⟩),.string ⟨#[99,117,116,115]⟩] w (df B g (⟨l,t,fO (F.cuts l)⟩) w):=by
 obtain ⟨hF,hI,hd,hl,ht,hG,hB,h8⟩:=h;obtain ⟨A,c,A',c',HL,HT,hc0,hc1⟩:=hd.open_;have HD:=aa hd;have HG:=aa hG;have HC:=aa (hI.cuts A c l w HL.out hl);have HF:=aa (hF.cuts l hl);clear hd hF hI hG hB hl ht h8;go_enter Tryz.func78,Tryz.ntmps78
 go_wp2_with (first
  | (go_at_call 142;refine HC.out.mono ?_;rintro e w1 ⟨v,l',rfl,ho,hm,hb⟩;have HO:=aa ho;have HM:=aa hm;have HB:=aa hb;clear ho hm hb)
  | (go_at_call 139;refine (rq (some (F.cuts l)) _ _ _ _ HO.out HM.out (λm h=>by cases h;exact HF.out) jq).mono ?_;rintro e w2 ⟨rfl,hb⟩;replace HB:=aa (aj HB.out hb);clear hb))
 all_goals
  go_ret;exact gH HD.out HB.out
theorem Jz{F:aN}{B g:Nat}{l t:List Int}{w:World}(h:dx F B g l t w):Calls Tryz.prog 78 #[.pointer (some ⟨g,0,none⟩),.string ⟨#[114,97,110,107]⟩] w (df B g (⟨l,t,bL (F.rank l)⟩) w):=by
 obtain ⟨hF,hI,hd,hl,ht,hG,hB,h8⟩:=h;obtain ⟨A,c,A',c',HL,HT,hc0,hc1⟩:=hd.open_;have HD:=aa hd;have HG:=aa hG;have HC:=aa (hI.rank A c l w HL.out hl);have HF:=aa (hF.rank l hl);clear hd hF hI hG hB hl ht h8;go_enter Tryz.func78,Tryz.ntmps78
 go_wp2_with (first
  | (go_at_call 144;refine HC.out.mono ?_;rintro e w1 ⟨n,rfl,hm,hb⟩;have HM:=aa hm;have HB:=aa hb;clear hm hb)
  | (go_at_call 143;refine (rQ (some (F.rank l)) _ _ HM.out (λm h=>by cases h;exact HF.out) jq).mono ?_;rintro e w2 ⟨rfl,hb⟩;replace HB:=aa (aj HB.out hb);clear hb))
 all_goals
  go_ret;exact gH HD.out HB.out
theorem DC{F:aN}{B g:Nat}{l t:List Int}{w:World}(h:dx F B g l t w):Calls Tryz.prog 78 #[.pointer (some ⟨g,0,none⟩),.string ⟨#[99,111,115,116]⟩] w (df B g (⟨l,t,bL (F.cost t)⟩) w):=by
 obtain ⟨hF,hI,hd,hl,ht,hG,hB,h8⟩:=h;obtain ⟨A,c,A',c',HL,HT,hc0,hc1⟩:=hd.open_;have HD:=aa hd;have HG:=aa hG;have HC:=aa (hI.cost A' c' t w HT.out ht);have HF:=aa (hF.cost t ht);clear hd hF hI hG hB hl ht h8;go_enter Tryz.func78,Tryz.ntmps78
 go_wp2_with (first
  | (go_at_call 145;refine HC.out.mono ?_;rintro e w1 ⟨n,rfl,hm,hb⟩;have HM:=aa hm;have HB:=aa hb;clear hm hb)
  | (go_at_call 143;refine (rQ (some (F.cost t)) _ _ HM.out (λm h=>by cases h;exact HF.out) jq).mono ?_;rintro e w2 ⟨rfl,hb⟩;replace HB:=aa (aj HB.out hb);clear hb))
 all_goals
  go_ret;exact gH HD.out HB.out
theorem Ig{F:aN}{B g:Nat}{l t:List Int}{w:World}(h:dx F B g l t w):Calls Tryz.prog 78 #[.pointer (some ⟨g,0,none⟩),.string ⟨#[116,97,98,108,101]⟩] w (df B g (⟨l,t,mO t⟩) w):=by
 obtain ⟨hF,hI,hd,hl,ht,hG,hB,h8⟩:=h;obtain ⟨A,c,A',c',HL,HT,hc0,hc1⟩:=hd.open_;have HD:=aa hd;have HG:=aa hG;have HC:=aa (DV A' c' t w HT.out.1 (yu hF ht).1 (yu hF ht).2 hG);clear hd hF hI hG hB hl ht h8;go_enter Tryz.func78,Tryz.ntmps78
 go_wp2_with (first
  | (go_at_call 62;refine HC.out.mono ?_;rintro e w1 ⟨rfl,hb⟩;have HB:=aa hb;clear hb))
 all_goals
  go_ret;exact gH HD.out HB.out
theorem FU{F:aN}{B g:Nat}{l t:List Int}{w:World}(h:dx F B g l t w):Calls Tryz.prog 78 #[.pointer (some ⟨g,0,none⟩),.string ⟨#[108,105,115,116]⟩] w (df B g (⟨l,t,fO l⟩) w):=by
 obtain ⟨hF,hI,hd,hl,ht,hG,hB,h8⟩:=h;obtain ⟨A,c,A',c',HL,HT,hc0,hc1⟩:=hd.open_;have HD:=aa hd;have HG:=aa hG;have HC:=aa (yn A c l w HL.out.1 (uY hF hl).1 (uY hF hl).2 hG);clear hd hF hI hG hB hl ht h8;go_enter Tryz.func78,Tryz.ntmps78
 go_wp2_with (first
  | (go_at_call 146;refine HC.out.mono ?_;rintro e w1 ⟨rfl,hb⟩;have HB:=aa hb;clear hb))
 all_goals
  go_ret;exact gH HD.out HB.out
theorem D6{F:aN}{B g:Nat}{l t:List Int}{w:World}(h:dx F B g l t w)(s:ByteArray)(h0:(s.toList == ([110,101,120,116]:List UInt8))=false)(h1:(s.toList == ([99,97,114,115]:List UInt8))=false)(h2:(s.toList == ([102,97,114]:List UInt8))=false)(h3:(s.toList == ([99,117,116,115]:List UInt8))=false)(h4:(s.toList == ([114,97,110,107]:List UInt8))=false)(h5:(s.toList == ([116,97,98,108,101]:List UInt8))=false)(h6:(s.toList == ([99,111,115,116]:List UInt8))=false)(h7:(s.toList == ([108,105,115,116]:List UInt8))=false):Calls Tryz.prog 78 #[.pointer (some ⟨g,0,none⟩),.string s] w (df B g ⟨l,t,gG⟩ w):=by
 obtain ⟨hF,hI,hd,hl,ht,hG,hB,h8⟩:=h;obtain ⟨A,c,A',c',HL,HT,hc0,hc1⟩:=hd.open_;have HD:=aa hd;have HG:=aa hG;clear hd hF hI hG hB hl ht h8;go_enter Tryz.func78,Tryz.ntmps78;go_wp2
 all_goals
  go_ret;exact gH HD.out (Below.refl _ _)
theorem dJ(s:ByteArray)(c:ByteArray)(h:s.toList=c.data.toList):s=c:=by
 rw[Lib.toList_data]at h;cases s;cases c;congr 1;exact Array.ext' h
def nY(F:aN)(l t:List Int)(s:ByteArray):gF :=
 if s.toList=[110,101,120,116] then fw l t (F.next l) else
 if s.toList=[99,97,114,115] then ⟨l,t,fO (F.cars l)⟩ else
 if s.toList=[102,97,114] then ⟨l,t,fO (F.far l)⟩ else
 if s.toList=[99,117,116,115] then ⟨l,t,fO (F.cuts l)⟩ else
 if s.toList=[114,97,110,107] then ⟨l,t,bL (F.rank l)⟩ else
 if s.toList=[116,97,98,108,101] then ⟨l,t,mO t⟩ else
 if s.toList=[99,111,115,116] then ⟨l,t,bL (F.cost t)⟩ else
 if s.toList=[108,105,115,116] then ⟨l,t,fO l⟩ else
 ⟨l,t,gG⟩
theorem FL{F:aN}{B g:Nat}{l t:List Int}{w:World}(h:dx F B g l t w)(s:ByteArray):Calls Tryz.prog 78 #[.pointer (some ⟨g,0,none⟩),.string s] w (df B g (nY F l t s) w):=by
 unfold nY
 by_cases h0:s.toList=[110,101,120,116]
 · rw[if_pos h0,dJ s ⟨#[110,101,120,116]⟩ h0];exact CW h
 rw[if_neg h0]
 by_cases h1:s.toList=[99,97,114,115]
 · rw[if_pos h1,dJ s ⟨#[99,97,114,115]⟩ h1];exact CP h
 rw[if_neg h1]
 by_cases h2:s.toList=[102,97,114]
 · rw[if_pos h2,dJ s ⟨#[102,97,114]⟩ h2];exact Hf h
 rw[if_neg h2]
 by_cases h3:s.toList=[99,117,116,115]
 · rw[if_pos h3,dJ s ⟨#[99,117,116,115]⟩ h3];exact AY h
 rw[if_neg h3]
 by_cases h4:s.toList=[114,97,110,107]
 · rw[if_pos h4,dJ s ⟨#[114,97,110,107]⟩ h4];exact Jz h
 rw[if_neg h4]
 by_cases h5:s.toList=[116,97,98,108,101]
 · rw[if_pos h5,dJ s ⟨#[116,97,98,108,101]⟩ h5];exact Ig h
 rw[if_neg h5]
 by_cases h6:s.toList=[99,111,115,116]
 · rw[if_pos h6,dJ s ⟨#[99,111,115,116]⟩ h6];exact DC h
 rw[if_neg h6]
 by_cases h7:s.toList=[108,105,115,116]
 · rw[if_pos h7,dJ s ⟨#[108,105,115,116]⟩ h7];exact FU h
 rw[if_neg h7];exact D6 h s (beq_eq_false_iff_ne.2 h0) (beq_eq_false_iff_ne.2 h1) (beq_eq_false_iff_ne.2 h2) (beq_eq_false_iff_ne.2 h3) (beq_eq_false_iff_ne.2 h4) (beq_eq_false_iff_ne.2 h5) (beq_eq_false_iff_ne.2 h6) (beq_eq_false_iff_ne.2 h7)
theorem wy{B g:Nat}{l t:List Int}{w w1:World}{o:Option Int}(hd:dW w B g l t)(hb:Below w.heap.size w w1):df B g (lV l t o) w (.returned (.string (pX o))) w1:=by
 cases o with
 | none=>exact gH hd hb
 | some n=>exact gH hd hb
def tH(l t:List Int):Option (List Int × Int)->gF
 | some (t',a)=>⟨l,t',bL a⟩
 | none=>⟨l,t,iI⟩
def uC(l t:List Int):Option (Int × Int)->gF
 | some (a,c)=>⟨l,t,kQ [a,c] ⟨#[32]⟩⟩
 | none=>⟨l,t,iI⟩
theorem FB{F:aN}{B g:Nat}{l t:List Int}{w:World}(h:dx F B g l t w)(n:Int)(hn:0<=n)(hn9:n<=999999):Calls Tryz.prog 81 #[.pointer (some ⟨g,0,none⟩),.string ⟨#[99,111,117,110,116]⟩,.int .i64 n] w (df B g (lV l t (F.count n)) w):=by
 obtain ⟨hF,hI,hd,hl,ht,hG,hB,h8⟩:=h;obtain ⟨A,c,A',c',HL,HT,hc0,hc1⟩:=hd.open_;have HD:=aa hd;have HG:=aa hG;have HC:=aa (hI.count n w hn hn9);have HF:=aa (hF.count n);clear hd hF hI hG hB hl ht h8;go_enter Tryz.func81,Tryz.ntmps81
 go_wp2_with (first
  | (go_at_call 151;refine HC.out.mono ?_;rintro e w1 ⟨n',rfl,hm,hb⟩;have HM:=aa hm;have HB:=aa hb;clear hm hb)
  | (go_at_call 143;refine (rQ (F.count n) _ _ HM.out (λm h=>HF.out m h) jq).mono ?_;rintro e w2 ⟨rfl,hb⟩;replace HB:=aa (aj HB.out hb);clear hb))
 all_goals
  go_ret;exact wy HD.out HB.out
theorem IW{F:aN}{B g:Nat}{l t:List Int}{w:World}(h:dx F B g l t w)(n:Int)(hn:0<=n)(hn9:n<=999999):Calls Tryz.prog 81 #[.pointer (some ⟨g,0,none⟩),.string ⟨#[98,97,99,107]⟩,.int .i64 n] w (df B g (lV l t (F.back n)) w):=by
 obtain ⟨hF,hI,hd,hl,ht,hG,hB,h8⟩:=h;obtain ⟨A,c,A',c',HL,HT,hc0,hc1⟩:=hd.open_;have HD:=aa hd;have HG:=aa hG;have HC:=aa (hI.back n w hn hn9);have HF:=aa (hF.back n);clear hd hF hI hG hB hl ht h8;go_enter Tryz.func81,Tryz.ntmps81
 go_wp2_with (first
  | (go_at_call 152;refine HC.out.mono ?_;rintro e w1 ⟨n',rfl,hm,hb⟩;have HM:=aa hm;have HB:=aa hb;clear hm hb)
  | (go_at_call 143;refine (rQ (F.back n) _ _ HM.out (λm h=>HF.out m h) jq).mono ?_;rintro e w2 ⟨rfl,hb⟩;replace HB:=aa (aj HB.out hb);clear hb))
 all_goals
  go_ret;exact wy HD.out HB.out
theorem Dj{F:aN}{B g:Nat}{l t:List Int}{w:World}(h:dx F B g l t w)(n:Int)(hn:0<=n)(hn9:n<=999999):Calls Tryz.prog 81 #[.pointer (some ⟨g,0,none⟩),.string ⟨#[110,101,119]⟩,.int .i64 n] w (df B g (lK l t (F.empty n)) w):=by
 obtain ⟨hF,hI,hd,hl,ht,hG,hB,h8⟩:=h;obtain ⟨A,c,A',c',HL,HT,hc0,hc1⟩:=hd.open_;have HD:=aa hd;have HG:=aa hG;have HC:=aa (hI.empty n w hn hn9);have HBz:=aa hB;clear hd hF hI hG hB hl ht h8;go_enter Tryz.func81,Tryz.ntmps81
 go_wp2_with (first
  | (go_at_call 154;refine HC.out.mono ?_;rintro e w1 ⟨v,l',rfl,ho,hm,hb⟩;have HO:=aa ho;have HM:=aa hm;have HB:=aa hb;clear ho hm hb)
  | (go_at_call 153;refine (vV (F.empty n) HD.out HB.out HBz.out HO.out HM.out).mono ?_;rintro e w2 ⟨rfl,hd2,hg2⟩;have HR:=aa (kK HB.out (x:=lK l t (F.empty n)) ⟨rfl,hd2,hg2⟩);clear hd2 hg2))
 all_goals
  go_ret;exact HR.out
theorem Bh{F:aN}{B g:Nat}{l t:List Int}{w:World}(h:dx F B g l t w)(n:Int)(hn:0<=n)(hn9:n<=999999):Calls Tryz.prog 81 #[.pointer (some ⟨g,0,none⟩),.string ⟨#[100,114,111,112]⟩,.int .i64 n] w (df B g (lK l t (F.rem t n)) w):=by
 obtain ⟨hF,hI,hd,hl,ht,hG,hB,h8⟩:=h;obtain ⟨A,c,A',c',HL,HT,hc0,hc1⟩:=hd.open_;have HD:=aa hd;have HG:=aa hG;have HC:=aa (hI.rem A' c' t n w HT.out ht hn hn9);have HBz:=aa hB;clear hd hF hI hG hB hl ht h8;go_enter Tryz.func81,Tryz.ntmps81
 go_wp2_with (first
  | (go_at_call 156;refine HC.out.mono ?_;rintro e w1 ⟨v,l',rfl,ho,hm,hb⟩;have HO:=aa ho;have HM:=aa hm;have HB:=aa hb;clear ho hm hb)
  | (go_at_call 153;refine (vV (F.rem t n) HD.out HB.out HBz.out HO.out HM.out).mono ?_;rintro e w2 ⟨rfl,hd2,hg2⟩;have HR:=aa (kK HB.out (x:=lK l t (F.rem t n)) ⟨rfl,hd2,hg2⟩);clear hd2 hg2))
 all_goals
  go_ret;exact HR.out
theorem one_cell{w:World}{base:Nat}{ok:Nat->Prop}{v:Value}{xs:List Int}(h:Kd.R (Kd.int .i64) 3 w base ok v xs):v.oneCell'=true:=by
 obtain ⟨A,c,rfl⟩:=Kd.R_slice h;rfl
theorem BH{w w':World}{g:Nat}(h:dG w)(hg:w.grownBy w' (some g))(h8:8<=g):dG w' :=
 h.move hg.size λi hi=>hg.block i (by have:=h.big;omega) (by rintro ⟨⟩;omega)
theorem I7{F:aN}{B g:Nat}{l t:List Int}{w:World}(h:dx F B g l t w)(n:Int)(hn:0<=n)(hn9:n<=999999)(hq:F.ins t n=none):Calls Tryz.prog 81 #[.pointer (some ⟨g,0,none⟩),.string ⟨#[112,117,116]⟩,.int .i64 n] w (df B g ⟨l,t,iI⟩ w):=by
 obtain ⟨hF,hI,hd,hl,ht,hG,hB,h8⟩:=h;obtain ⟨A,c,A',c',HL,HT,hc0,hc1⟩:=hd.open_;have HD:=aa hd;have HG:=aa hG;have HC:=aa (hI.ins A' c' t n w HT.out ht hn hn9);rw[hq]at HC;clear hd hF hI hG hB hl ht h8 hq;go_enter Tryz.func81,Tryz.ntmps81
 go_wp2_with (first
  | (go_at_call 155;refine HC.out.mono ?_;rintro e w1 ⟨v,l',n',rfl,ho,hm,_,hb⟩;obtain ⟨Av,cv,rfl⟩:=Kd.R_slice ho;have HO:=aa ho;have HB:=aa hb;have HV:=aa (one_cell ho);clear ho hm hb)
  | (go_at_call 153;refine (wL _ B g l t _ (HD.out.below aW) HV.out).mono ?_;rintro e w2 ⟨rfl,hd2,hg2⟩;have HR:=aa hd2;have HK:=aa (mR (ku (show Below w.heap.size w _ from aW) (some g)) hg2);clear hd2 hg2)
  | (go_at_call 143;refine (zL _ _).mono ?_;rintro e w3 ⟨rfl,hb⟩;have HB3:=aa hb;clear hb))
 all_goals
  go_ret;exact ⟨rfl,HR.out.below HB3.out,mR HK.out (ku HB3.out _)⟩
theorem Gr{F:aN}{B g:Nat}{l t:List Int}{w:World}(h:dx F B g l t w)(n:Int)(hn:0<=n)(hn9:n<=999999)(t':List Int)(a:Int)(hq:F.ins t n=some (t',a)):Calls Tryz.prog 81 #[.pointer (some ⟨g,0,none⟩),.string ⟨#[112,117,116]⟩,.int .i64 n] w (df B g ⟨l,t',bL a⟩ w):=by
 obtain ⟨hF,hI,hd,hl,ht,hG,hB,h8⟩:=h;obtain ⟨A,c,A',c',HL,HT,hc0,hc1⟩:=hd.open_;have HD:=aa hd;have HG:=aa hG;have HC:=aa (hI.ins A' c' t n w HT.out ht hn hn9);rw[hq]at HC;have HBz:=aa hB;have HQ:=aa h8;have HF:=aa (hF.ins t n t' a ht hq).2;clear hd hF hI hG hB hl ht h8 hq;go_enter Tryz.func81,Tryz.ntmps81
 go_wp2_with (first
  | (go_at_call 155;refine HC.out.mono ?_;rintro e w1 ⟨v,l',n',rfl,ho,hm,_,hb⟩;obtain ⟨Av,cv,rfl⟩:=Kd.R_slice ho;have HO:=aa ho;have HB:=aa hb;cases hm _ rfl;clear ho hm hb)
  | (go_at_call 153;refine (wW HD.out aW HBz.out (ja HO.out)).mono ?_;rintro e w2 ⟨rfl,hd2,hg2⟩;have HR:=aa hd2;have HK:=aa (mR (ku (show Below w.heap.size w _ from aW) (some g)) hg2);clear hd2 hg2)
  | (go_at_call 143;refine (zY _ _ HF.out (BH HG.out HK.out (Nat.le_trans HQ.out HD.out.lo))).mono ?_;rintro e w3 ⟨rfl,hb⟩;have HB3:=aa hb;clear hb))
 all_goals
  go_ret;exact ⟨rfl,HR.out.below HB3.out,mR HK.out (ku HB3.out _)⟩
theorem AQ(a c:Int)(w:World):Kd.C (Kd.int .i64) (w.alloc (.cells #[.int .i64 a,.int .i64 c] 3)) (some ⟨w.heap.size,0,none⟩) 2 [a,c]:=by
 have hb:=bC w (.cells #[.int .i64 a,.int .i64 c] 3);refine ⟨rfl,by omega,λ_=>⟨_,rfl,λj p hj=>⟨[.int .i64 p],rfl,rfl,λi u hi=>?_⟩⟩⟩
 cases i with
 | succ i=>simp at hi
 | zero =>
  simp at hi;subst hi;have hkd:(Kd.int .i64).sz=1:=rfl;rw[hkd,add_plain,Nat.mul_one]
  refine (ah hb j).trans ?_
  match j,hj with
  | 0,hj=>simp at hj;subst hj;rfl
  | 1,hj=>simp at hj;subst hj;rfl
  | j+2,hj=>simp at hj
theorem CL{F:aN}{B g:Nat}{l t:List Int}{w:World}(h:dx F B g l t w)(n:Int)(hn:0<=n)(hn9:n<=999999)(hq:F.find t n=none):Calls Tryz.prog 81 #[.pointer (some ⟨g,0,none⟩),.string ⟨#[102,105,110,100]⟩,.int .i64 n] w (df B g ⟨l,t,iI⟩ w):=by
 obtain ⟨hF,hI,hd,hl,ht,hG,hB,h8⟩:=h;obtain ⟨A,c,A',c',HL,HT,hc0,hc1⟩:=hd.open_;have HD:=aa hd;have HG:=aa hG;have HC:=aa (hI.find A' c' t n w HT.out ht hn hn9);rw[hq]at HC;clear hd hF hI hG hB hl ht h8 hq;go_enter Tryz.func81,Tryz.ntmps81
 go_wp2_with (first
  | (go_at_call 157;refine HC.out.mono ?_;rintro e w1 ⟨a',n',rfl,hm,hb⟩;have HB:=aa hb;clear hm hb))
 all_goals
  go_ret;exact gH HD.out HB.out
theorem Dr{F:aN}{B g:Nat}{l t:List Int}{w:World}(h:dx F B g l t w)(n:Int)(hn:0<=n)(hn9:n<=999999)(a c2:Int)(hq:F.find t n=some (a,c2)):Calls Tryz.prog 81 #[.pointer (some ⟨g,0,none⟩),.string ⟨#[102,105,110,100]⟩,.int .i64 n] w (df B g ⟨l,t,kQ [a,c2] ⟨#[32]⟩⟩ w):=by
 obtain ⟨hF,hI,hd,hl,ht,hG,hB,h8⟩:=h;obtain ⟨A,c,A',c',HL,HT,hc0,hc1⟩:=hd.open_;have HD:=aa hd;have HG:=aa hG;have HC:=aa (hI.find A' c' t n w HT.out ht hn hn9);rw[hq]at HC;have HF:=aa (show ∀x∈[a,c2],bJ x from λx hx=>by have:=hF.find t n a c2 ht hq;simp at hx;unfold bJ;omega);clear hd hF hI hG hB hl ht h8 hq;go_enter Tryz.func81,Tryz.ntmps81
 go_wp2_with (first
  | (go_at_call 157;refine HC.out.mono ?_;rintro e w1 ⟨a',n',rfl,hm,hb⟩;have HB:=aa hb;cases hm _ rfl;clear hm hb)
  | (go_at_call 158;refine (zZ _ _ [a,c2] ⟨#[32]⟩ _ (AQ a c2 _) (by simp) (by decide) HF.out jq).mono ?_;rintro e w2 ⟨rfl,hb⟩;replace HB:=aa (aj aW hb);clear hb))
 all_goals
  go_ret;exact gH HD.out HB.out
theorem Fg{F:aN}{B g:Nat}{l t:List Int}{w:World}(h:dx F B g l t w)(n:Int)(s:ByteArray)(h0:(s.toList == ([99,111,117,110,116]:List UInt8))=false)(h1:(s.toList == ([98,97,99,107]:List UInt8))=false)(h2:(s.toList == ([110,101,119]:List UInt8))=false)(h3:(s.toList == ([112,117,116]:List UInt8))=false)(h4:(s.toList == ([100,114,111,112]:List UInt8))=false)(h5:(s.toList == ([102,105,110,100]:List UInt8))=false):Calls Tryz.prog 81 #[.pointer (some ⟨g,0,none⟩),.string s,.int .i64 n] w (df B g ⟨l,t,gG⟩ w):=by
 obtain ⟨hF,hI,hd,hl,ht,hG,hB,h8⟩:=h;obtain ⟨A,c,A',c',HL,HT,hc0,hc1⟩:=hd.open_;have HD:=aa hd;have HG:=aa hG;clear hd hF hI hG hB hl ht h8;go_enter Tryz.func81,Tryz.ntmps81;go_wp2
 all_goals
  go_ret;exact gH HD.out (Below.refl _ _)
theorem El{F:aN}{B g:Nat}{l t:List Int}{w:World}(h:dx F B g l t w)(n:Int)(hn:0<=n)(hn9:n<=999999):Calls Tryz.prog 81 #[.pointer (some ⟨g,0,none⟩),.string ⟨#[112,117,116]⟩,.int .i64 n] w (df B g (tH l t (F.ins t n)) w):=by
 cases hq:F.ins t n with
 | none=>exact I7 h n hn hn9 hq
 | some p=>exact Gr h n hn hn9 p.1 p.2 hq
theorem D7{F:aN}{B g:Nat}{l t:List Int}{w:World}(h:dx F B g l t w)(n:Int)(hn:0<=n)(hn9:n<=999999):Calls Tryz.prog 81 #[.pointer (some ⟨g,0,none⟩),.string ⟨#[102,105,110,100]⟩,.int .i64 n] w (df B g (uC l t (F.find t n)) w):=by
 cases hq:F.find t n with
 | none=>exact CL h n hn hn9 hq
 | some p=>exact Dr h n hn hn9 p.1 p.2 hq
def og(F:aN)(l t:List Int)(s:ByteArray)(n:Int):gF :=
 if s.toList=[99,111,117,110,116] then lV l t (F.count n) else
 if s.toList=[98,97,99,107] then lV l t (F.back n) else
 if s.toList=[110,101,119] then lK l t (F.empty n) else
 if s.toList=[112,117,116] then tH l t (F.ins t n) else
 if s.toList=[100,114,111,112] then lK l t (F.rem t n) else
 if s.toList=[102,105,110,100] then uC l t (F.find t n) else
 ⟨l,t,gG⟩
theorem Hz{F:aN}{B g:Nat}{l t:List Int}{w:World}(h:dx F B g l t w)(n:Int)(hn:0<=n)(hn9:n<=999999)(s:ByteArray):Calls Tryz.prog 81 #[.pointer (some ⟨g,0,none⟩),.string s,.int .i64 n] w (df B g (og F l t s n) w):=by
 unfold og
 by_cases h0:s.toList=[99,111,117,110,116]
 · rw[if_pos h0,dJ s ⟨#[99,111,117,110,116]⟩ h0];exact FB h n hn hn9
 rw[if_neg h0]
 by_cases h1:s.toList=[98,97,99,107]
 · rw[if_pos h1,dJ s ⟨#[98,97,99,107]⟩ h1];exact IW h n hn hn9
 rw[if_neg h1]
 by_cases h2:s.toList=[110,101,119]
 · rw[if_pos h2,dJ s ⟨#[110,101,119]⟩ h2];exact Dj h n hn hn9
 rw[if_neg h2]
 by_cases h3:s.toList=[112,117,116]
 · rw[if_pos h3,dJ s ⟨#[112,117,116]⟩ h3];exact El h n hn hn9
 rw[if_neg h3]
 by_cases h4:s.toList=[100,114,111,112]
 · rw[if_pos h4,dJ s ⟨#[100,114,111,112]⟩ h4];exact Bh h n hn hn9
 rw[if_neg h4]
 by_cases h5:s.toList=[102,105,110,100]
 · rw[if_pos h5,dJ s ⟨#[102,105,110,100]⟩ h5];exact D7 h n hn hn9
 rw[if_neg h5];exact Fg h n s (beq_eq_false_iff_ne.2 h0) (beq_eq_false_iff_ne.2 h1) (beq_eq_false_iff_ne.2 h2) (beq_eq_false_iff_ne.2 h3) (beq_eq_false_iff_ne.2 h4) (beq_eq_false_iff_ne.2 h5)
theorem dx.below{F:aN}{B g:Nat}{l t:List Int}{w w':World}(h:dx F B g l t w)(hb:Below w.heap.size w w'):dx F B g l t w':=⟨h.good,h.impl,h.at_.below hb,h.park,h.tab,h.glob.below hb,Nat.le_trans h.low hb.size,h.eight⟩
def told(s:ByteArray):Option (List Int):=match iX s with
 | some l=>if (l.all λx=>decide (0<=x/\x<=999999))=true then some l else none
 | none=>none
theorem Bq{s sep:ByteArray}{l:List Int}(h1:sep.size=1)(h:nS s sep=some l):l.length<=s.size+1:=by
 unfold nS at h
 split at h
 · cases h;simp
 ·
  have h2:=uV _ _ h;rw[Lib.splitB_all sep (by omega) 0 _ s rfl]at h2;have h3:=Lib.countB_le sep (by omega) s.size s (Nat.le_refl _);omega
theorem EW{s:ByteArray}{l:List Int}(h:iX s=some l):l.length<=s.size+1:=by
 unfold iX at h
 split at h
 · cases h
 ·
  split at h
  · cases h;simp
  ·
   split at h
   · cases h
   · exact Bq rfl h
theorem qP{s:ByteArray}{l:List Int}(h:told s=some l)(hs:s.size<=3000):fG l:=by
 unfold told at h
 cases hr:iX s with
 | none=>rw[hr]at h;cases h
 | some m =>
  rw[hr]at h;dsimp only at h
  split at h
  ·
   rename_i ha
   cases h;refine ⟨by have:=EW hr;omega,λx hx=>?_⟩;have:=List.all_eq_true.1 ha x hx;simp only[decide_eq_true_eq]at this;unfold bJ;omega
  · cases h
theorem mD{s:ByteArray}{l:List Int}(h:told s=some l):iX s=some l/\(l.all λx=>decide (0<=x/\x<=999999))=true:=by
 unfold told at h
 cases hr:iX s with
 | none=>rw[hr]at h;cases h
 | some m =>
  rw[hr]at h;dsimp only at h
  split at h
  · rename_i ha;cases h;exact ⟨rfl,ha⟩
  · cases h
theorem told_none{s:ByteArray}{l:List Int}(h:told s=none)(hr:iX s=some l):(l.all λx=>decide (0<=x/\x<=999999))=false:=by
 unfold told at h;rw[hr]at h;dsimp only at h
 split at h
 · cases h
 · rename_i ha;exact Bool.eq_false_iff.2 ha
def jy(F:aN)(l t:List Int)(a s:ByteArray):gF:=match told s with
 | none=>⟨l,t,gG⟩
 | some m=>if a.toList=[116,97,107,101] then fw l t (if F.park m=true then some m else none)else if a.toList=[106,111,105,110] then fw l t (F.join l m)else ⟨l,t,qc (F.cls m)⟩
theorem listed_nil{F:aN}{B g:Nat}{l t:List Int}{w:World}(h:dx F B g l t w)(s:ByteArray)(hs:s.size<=3000)(a:ByteArray)(hq:iX s=none):Calls Tryz.prog 79 #[.pointer (some ⟨g,0,none⟩),.string a,.string s] w (df B g (⟨l,t,gG⟩) w):=by
 obtain ⟨hF,hI,hd,hl,ht,hG,hB,h8⟩:=h;obtain ⟨A,c,A',c',HL,HT,hc0,hc1⟩:=hd.open_;have HD:=aa hd;have HG:=aa hG;have HR:=aa (pq s w (by omega) hG);rw[hq]at HR;clear hq hd hF hI hG hB hl ht h8 hs;go_enter Tryz.func79,Tryz.ntmps79
 go_wp2_with (first
  | (go_at_call 147;refine HR.out.mono ?_;rintro e w1 ⟨v,l',rfl,ho,hm,hb⟩;have HB:=aa hb;clear ho hm hb))
 go_ret;exact gH HD.out HB.out
theorem uD{F:aN}{B g:Nat}{l t:List Int}{w:World}(h:dx F B g l t w)(s:ByteArray)(hs:s.size<=3000)(a:ByteArray)(m:List Int)(hq:iX s=some m)(ha:(m.all λx=>decide (0<=x/\x<=999999))=false):Calls Tryz.prog 79 #[.pointer (some ⟨g,0,none⟩),.string a,.string s] w (df B g (⟨l,t,gG⟩) w):=by
 obtain ⟨hF,hI,hd,hl,ht,hG,hB,h8⟩:=h;obtain ⟨A,c,A',c',HL,HT,hc0,hc1⟩:=hd.open_;have HD:=aa hd;have HG:=aa hG;have HR:=aa (pq s w (by omega) hG);have HA:=aa ha;rw[hq]at HR;clear hq ha hd hF hI hG hB hl ht h8 hs;go_enter Tryz.func79,Tryz.ntmps79
 go_wp2_with (first
  | (go_at_call 147;refine HR.out.mono ?_;rintro e w1 ⟨v,l',rfl,ho,hm,hb⟩;obtain rfl:=hm _ rfl;obtain ⟨Av,cv,rfl,hcv,hCv⟩:=Kd.R_reads ho;have HO:=aa ho;have HV:=aa (show aM w1 Av cv l' from ⟨hCv,hcv⟩);have HM:=aa hm;clear hcv hCv;have HB:=aa hb;clear ho hm hb)
  | (go_at_call 95;refine (iE.calls Av cv _ 0 999999 _ _ HV.out.1 HV.out.2 (congrArg some HA.out)).mono ?_;rintro e w2 ⟨rfl,hb⟩;replace HV:=aa (aM.below HV.out hb);replace HO:=aa (Kd.R_below HO.out hb);replace HB:=aa (aj HB.out hb);clear hb))
 go_ret;exact gH HD.out aW
theorem Ej{F:aN}{B g:Nat}{l t:List Int}{w:World}(h:dx F B g l t w)(s:ByteArray)(hs:s.size<=3000)(m:List Int)(hq:told s=some m)(hp:F.park m=true):Calls Tryz.prog 79 #[.pointer (some ⟨g,0,none⟩),.string ⟨#[116,97,107,101]⟩,.string s] w (df B g (fw l t (some m)) w):=by
 obtain ⟨hF,hI,hd,hl,ht,hG,hB,h8⟩:=h;obtain ⟨A,c,A',c',HL,HT,hc0,hc1⟩:=hd.open_;have HD:=aa hd;have HG:=aa hG;have HR:=aa (pq s w (by omega) hG);have HP:=aa hp;have HC:=aa λA c l w=>hI.isPark A c l w;have HA:=aa (mD hq).2;have HF:=aa (qP hq hs);have HBz:=aa hB;rw[(mD hq).1]at HR;clear hq hp hd hF hI hG hB hl ht h8 hs;go_enter Tryz.func79,Tryz.ntmps79
 go_wp2_with (first
  | (go_at_call 147;refine HR.out.mono ?_;rintro e w1 ⟨v,l',rfl,ho,hm,hb⟩;obtain rfl:=hm _ rfl;obtain ⟨Av,cv,rfl,hcv,hCv⟩:=Kd.R_reads ho;have HO:=aa ho;have HV:=aa (show aM w1 Av cv l' from ⟨hCv,hcv⟩);have HM:=aa hm;clear hcv hCv;have HB:=aa hb;clear ho hm hb)
  | (go_at_call 95;refine (iE.calls Av cv _ 0 999999 _ _ HV.out.1 HV.out.2 (congrArg some HA.out)).mono ?_;rintro e w2 ⟨rfl,hb⟩;replace HV:=aa (aM.below HV.out hb);replace HO:=aa (Kd.R_below HO.out hb);replace HB:=aa (aj HB.out hb);clear hb)
  | (go_at_call 60;refine (HC.out Av cv _ _ HV.out HF.out).mono ?_;rintro e w3 ⟨rfl,hb⟩;rw[HP.out];replace HO:=aa (Kd.R_below (ja HO.out) hb);replace HB:=aa (aj (show Below w.heap.size w _ from aW) hb);clear hb)
  | (go_at_call 82;refine (xB HD.out aW HBz.out HO.out).mono ?_;rintro e w4 ⟨rfl,hd2,hg2⟩;have HX:=aa (kK (show Below w.heap.size w _ from aW) (x:=fw l t (some _)) ⟨rfl,hd2,hg2⟩);clear hd2 hg2))
 go_ret;exact HX.out
theorem Dl{F:aN}{B g:Nat}{l t:List Int}{w:World}(h:dx F B g l t w)(s:ByteArray)(hs:s.size<=3000)(m:List Int)(hq:told s=some m)(hp:F.park m=false):Calls Tryz.prog 79 #[.pointer (some ⟨g,0,none⟩),.string ⟨#[116,97,107,101]⟩,.string s] w (df B g (fw l t none) w):=by
 obtain ⟨hF,hI,hd,hl,ht,hG,hB,h8⟩:=h;obtain ⟨A,c,A',c',HL,HT,hc0,hc1⟩:=hd.open_;have HD:=aa hd;have HG:=aa hG;have HR:=aa (pq s w (by omega) hG);have HP:=aa hp;have HC:=aa λA c l w=>hI.isPark A c l w;have HA:=aa (mD hq).2;have HF:=aa (qP hq hs);have HBz:=aa hB;rw[(mD hq).1]at HR;clear hq hp hd hF hI hG hB hl ht h8 hs;go_enter Tryz.func79,Tryz.ntmps79
 go_wp2_with (first
  | (go_at_call 147;refine HR.out.mono ?_;rintro e w1 ⟨v,l',rfl,ho,hm,hb⟩;obtain rfl:=hm _ rfl;obtain ⟨Av,cv,rfl,hcv,hCv⟩:=Kd.R_reads ho;have HO:=aa ho;have HV:=aa (show aM w1 Av cv l' from ⟨hCv,hcv⟩);have HM:=aa hm;clear hcv hCv;have HB:=aa hb;clear ho hm hb)
  | (go_at_call 95;refine (iE.calls Av cv _ 0 999999 _ _ HV.out.1 HV.out.2 (congrArg some HA.out)).mono ?_;rintro e w2 ⟨rfl,hb⟩;replace HV:=aa (aM.below HV.out hb);replace HO:=aa (Kd.R_below HO.out hb);replace HB:=aa (aj HB.out hb);clear hb)
  | (go_at_call 60;refine (HC.out Av cv _ _ HV.out HF.out).mono ?_;rintro e w3 ⟨rfl,hb⟩;rw[HP.out];replace HO:=aa (Kd.R_below (ja HO.out) hb);replace HB:=aa (aj (show Below w.heap.size w _ from aW) hb);clear hb)
  | (go_at_call 82;refine (vW _ B g l t _ (HD.out.below aW)).mono ?_;rintro e w4 ⟨rfl,hd2,hg2⟩;have HX:=aa (kK (show Below w.heap.size w _ from aW) (x:=fw l t none) ⟨rfl,hd2,hg2⟩);clear hd2 hg2))
 go_ret;exact HX.out
theorem BQ{F:aN}{B g:Nat}{l t:List Int}{w:World}(h:dx F B g l t w)(s:ByteArray)(hs:s.size<=3000)(m:List Int)(hq:told s=some m):Calls Tryz.prog 79 #[.pointer (some ⟨g,0,none⟩),.string ⟨#[106,111,105,110]⟩,.string s] w (df B g (fw l t (F.join l m)) w):=by
 obtain ⟨hF,hI,hd,hl,ht,hG,hB,h8⟩:=h;obtain ⟨A,c,A',c',HL,HT,hc0,hc1⟩:=hd.open_;have HD:=aa hd;have HG:=aa hG;have HR:=aa (pq s w (by omega) hG);have HC:=aa λA' c' m w hA=>hI.join A c l A' c' m w hA;have HPk:=aa hl;have HA:=aa (mD hq).2;have HF:=aa (qP hq hs);have HBz:=aa hB;rw[(mD hq).1]at HR;clear hq hd hF hI hG hB hl ht h8 hs;go_enter Tryz.func79,Tryz.ntmps79
 go_wp2_with (first
  | (go_at_call 147;refine HR.out.mono ?_;rintro e w1 ⟨v,l',rfl,ho,hm,hb⟩;obtain rfl:=hm _ rfl;obtain ⟨Av,cv,rfl,hcv,hCv⟩:=Kd.R_reads ho;have HO:=aa ho;have HV:=aa (show aM w1 Av cv l' from ⟨hCv,hcv⟩);have HM:=aa hm;clear hcv hCv;have HB:=aa hb;clear ho hm hb)
  | (go_at_call 95;refine (iE.calls Av cv _ 0 999999 _ _ HV.out.1 HV.out.2 (congrArg some HA.out)).mono ?_;rintro e w2 ⟨rfl,hb⟩;replace HV:=aa (aM.below HV.out hb);replace HO:=aa (Kd.R_below HO.out hb);replace HB:=aa (aj HB.out hb);have hc0':w2.cell? ⟨g,0,none⟩=some (.slice A l.length c):=(HB.out.cell (World.block_lt_of_cell? w _ hc0)).trans hc0;clear hb)
  | (go_at_call 148;refine (HC.out Av cv _ _ (aM.below HL.out aW) HV.out HPk.out HF.out).mono ?_;rintro e w3 ⟨v3,l3,rfl,ho,hm3,hb⟩;replace HO:=aa (Kd.R_lower ho (ay (show Below w.heap.size w _ from aW)));have HM3:=aa hm3;replace HB:=aa (aj (show Below w.heap.size w _ from aW) hb);clear ho hm3 hb)
  | (go_at_call 82;refine (tX (F.join l _) HD.out aW HBz.out HO.out HM3.out).mono ?_;rintro e w4 ⟨rfl,hd2,hg2⟩;have HX:=aa (kK (show Below w.heap.size w _ from aW) (x:=fw l t (F.join l _)) ⟨rfl,hd2,hg2⟩);clear hd2 hg2))
 go_ret;exact HX.out
theorem G6{F:aN}{B g:Nat}{l t:List Int}{w:World}(h:dx F B g l t w)(s:ByteArray)(hs:s.size<=3000)(m:List Int)(hq:told s=some m):Calls Tryz.prog 79 #[.pointer (some ⟨g,0,none⟩),.string ⟨#[99,108,97,115,115]⟩,.string s] w (df B g (⟨l,t,qc (F.cls m)⟩) w):=by
 obtain ⟨hF,hI,hd,hl,ht,hG,hB,h8⟩:=h;obtain ⟨A,c,A',c',HL,HT,hc0,hc1⟩:=hd.open_;have HD:=aa hd;have HG:=aa hG;have HR:=aa (pq s w (by omega) hG);have HC:=aa λA c m w=>hI.cls A c m w;have HFc:=aa λm=>hF.cls m;have HA:=aa (mD hq).2;have HF:=aa (qP hq hs);have HBz:=aa hB;rw[(mD hq).1]at HR;clear hq hd hF hI hG hB hl ht h8 hs;go_enter Tryz.func79,Tryz.ntmps79
 go_wp2_with (first
  | (go_at_call 147;refine HR.out.mono ?_;rintro e w1 ⟨v,l',rfl,ho,hm,hb⟩;obtain rfl:=hm _ rfl;obtain ⟨Av,cv,rfl,hcv,hCv⟩:=Kd.R_reads ho;have HO:=aa ho;have HV:=aa (show aM w1 Av cv l' from ⟨hCv,hcv⟩);have HM:=aa hm;clear hcv hCv;have HB:=aa hb;clear ho hm hb)
  | (go_at_call 95;refine (iE.calls Av cv _ 0 999999 _ _ HV.out.1 HV.out.2 (congrArg some HA.out)).mono ?_;rintro e w2 ⟨rfl,hb⟩;replace HV:=aa (aM.below HV.out hb);replace HO:=aa (Kd.R_below HO.out hb);replace HB:=aa (aj HB.out hb);clear hb)
  | (go_at_call 149;refine (HC.out Av cv _ _ HV.out HF.out).mono ?_;rintro e w3 ⟨v3,l3,n3,rfl,ho,hm3,hb⟩;replace HO:=aa ho;have HM3:=aa hm3;replace HB:=aa (aj (show Below w.heap.size w _ from aW) hb);clear ho hm3 hb)
  | (go_at_call 139;refine (rq (F.cls _) _ _ _ _ HO.out HM3.out (λm h=>HFc.out _ m h) jq).mono ?_;rintro e w4 ⟨rfl,hb⟩;replace HB:=aa (aj HB.out hb);clear hb))
 go_ret;exact gH HD.out HB.out
theorem G8{F:aN}{B g:Nat}{l t:List Int}{w:World}(h:dx F B g l t w)(s:ByteArray)(hs:s.size<=3000):Calls Tryz.prog 79 #[.pointer (some ⟨g,0,none⟩),.string ⟨#[116,97,107,101]⟩,.string s] w (df B g (jy F l t ⟨#[116,97,107,101]⟩ s) w):=by
 unfold jy
 cases hq:told s with
 | none =>
  cases hr:iX s with
  | none=>exact listed_nil h s hs _ hr
  | some m=>exact uD h s hs _ m hr (told_none hq hr)
 | some m =>
  dsimp only;rw[if_pos (by rw[Lib.toList_data])]
  cases hp:F.park m with
  | true=>rw[if_pos rfl];exact Ej h s hs m hq hp
  | false=>rw[if_neg (by decide)];exact Dl h s hs m hq hp
theorem FW{F:aN}{B g:Nat}{l t:List Int}{w:World}(h:dx F B g l t w)(s:ByteArray)(hs:s.size<=3000):Calls Tryz.prog 79 #[.pointer (some ⟨g,0,none⟩),.string ⟨#[106,111,105,110]⟩,.string s] w (df B g (jy F l t ⟨#[106,111,105,110]⟩ s) w):=by
 unfold jy
 cases hq:told s with
 | none =>
  cases hr:iX s with
  | none=>exact listed_nil h s hs _ hr
  | some m=>exact uD h s hs _ m hr (told_none hq hr)
 | some m =>
  dsimp only;rw[if_neg (by rw[Lib.toList_data];decide),if_pos (by rw[Lib.toList_data])];exact BQ h s hs m hq
theorem IB{F:aN}{B g:Nat}{l t:List Int}{w:World}(h:dx F B g l t w)(s:ByteArray)(hs:s.size<=3000):Calls Tryz.prog 79 #[.pointer (some ⟨g,0,none⟩),.string ⟨#[99,108,97,115,115]⟩,.string s] w (df B g (jy F l t ⟨#[99,108,97,115,115]⟩ s) w):=by
 unfold jy
 cases hq:told s with
 | none =>
  cases hr:iX s with
  | none=>exact listed_nil h s hs _ hr
  | some m=>exact uD h s hs _ m hr (told_none hq hr)
 | some m =>
  dsimp only;rw[if_neg (by rw[Lib.toList_data];decide),if_neg (by rw[Lib.toList_data];decide)];exact G6 h s hs m hq
set_option maxHeartbeats 1000000
def pieces(s:ByteArray)(c:UInt8):List ByteArray:=Lib.splitB ⟨#[c]⟩ 0 (Lib.countB s ⟨#[c]⟩) s
theorem jE(s:ByteArray)(c:UInt8):(pieces s c).length=Lib.countB s ⟨#[c]⟩+1:=Lib.splitB_all ⟨#[c]⟩ (Nat.le_refl 1) 0 _ s rfl
theorem kI(s:ByteArray)(c:UInt8)(w:World)(hs:s.size<=1000000)(hG:dG w) :
  Calls Tryz.prog 77 #[.string s,.string ⟨#[c]⟩] w λe w'=>e=.returned (.slice (some ⟨w.heap.size,0,none⟩) (pieces s c).length (pieces s c).length)/\w'=w.alloc (.cells ((pieces s c).map Value.string).toArray 9):=by
 obtain ⟨m,hm⟩:=hG.len;rw[jE];exact Tryz.strings_Split s ⟨#[c]⟩ m w (by omega) hm (Nat.le_refl 1)
theorem iC{s x:ByteArray}{c:UInt8}(h:x∈pieces s c):x.size<=s.size:=uN _ _ _ _ h
def d_(F:aN)(l t:List Int)(s:ByteArray):gF:=match pieces s 32 with
 | [a]=>nY F l t a
 | [a,b]=>if a.toList=[116,97,107,101]\/a.toList=[106,111,105,110]\/a.toList=[99,108,97,115,115] then jy F l t a b else match bT b with
  | none=>⟨l,t,gG⟩
  | some n=>og F l t a n
 | [a,b,c]=>if a.toList=[97,116] then match bT b,bT c with
  | some n,some r=>fw l t (F.at_ n r)
  | _,_=>⟨l,t,gG⟩
  else ⟨l,t,gG⟩
 | _=>⟨l,t,gG⟩
theorem nR{s:ByteArray}{n:Int}(h:bT s=some n):0<=n/\n<=999999:=by
 unfold bT at h
 cases hr:rdNum s with
 | none=>rw[hr]at h;cases h
 | some m =>
  rw[hr]at h;dsimp only at h
  split at h
  · rename_i h1;cases h;exact h1
  · cases h
theorem Gt{F:aN}{B g:Nat}{l t:List Int}{w:World}(h:dx F B g l t w)(s:ByteArray)(hs:s.size<=3000)(a:ByteArray)(hp:pieces s 32=[a]):Calls Tryz.prog 55 #[.pointer (some ⟨g,0,none⟩),.string s] w (df B g (nY F l t a) w):=by
 have HS:=aa (show Calls Tryz.prog 77 #[.string s,.string ⟨#[32]⟩] w λe w'=>e=.returned (.slice (some ⟨w.heap.size,0,none⟩) 1 1)/\w'=w.alloc (.cells #[.string a] 9) by have h1:=kI s 32 w (by omega) h.glob;rw[hp]at h1;exact h1);have HH:=aa h;have HB:=aa (Below.refl w.heap.size w);clear h hp hs;go_enter Tryz.func55,Tryz.ntmps55
 go_wp2_with (first
  | (go_at_call 77;refine HS.out.mono ?_;rintro e w1 ⟨rfl,rfl⟩)
  | (go_at_call 78;refine (FL (HH.out.below aW) a).mono ?_;rintro e w9 ⟨rfl,hd2,hg2⟩;have HX:=aa (kK (show Below w.heap.size w _ from aW) (x:=nY F l t a) ⟨rfl,hd2,hg2⟩);clear hd2 hg2))
 go_ret;exact HX.out
theorem CB{F:aN}{B g:Nat}{l t:List Int}{w:World}(h:dx F B g l t w)(s:ByteArray)(hs:s.size<=3000)(b:ByteArray)(hp:pieces s 32=[⟨#[116,97,107,101]⟩,b]):Calls Tryz.prog 55 #[.pointer (some ⟨g,0,none⟩),.string s] w (df B g (jy F l t ⟨#[116,97,107,101]⟩ b) w):=by
 have HS:=aa (show Calls Tryz.prog 77 #[.string s,.string ⟨#[32]⟩] w λe w'=>e=.returned (.slice (some ⟨w.heap.size,0,none⟩) 2 2)/\w'=w.alloc (.cells #[.string ⟨#[116,97,107,101]⟩,.string b] 9) by have h1:=kI s 32 w (by omega) h.glob;rw[hp]at h1;exact h1);have HH:=aa h;have HB:=aa (Below.refl w.heap.size w);have HZ:=aa (show b.size<=3000 from Nat.le_trans (iC (x:=b) (c:=32) (by rw[hp];simp)) hs);clear h hp hs;go_enter Tryz.func55,Tryz.ntmps55
 go_wp2_with (first
  | (go_at_call 77;refine HS.out.mono ?_;rintro e w1 ⟨rfl,rfl⟩)
  | (go_at_call 79;refine (G8 (HH.out.below aW) b HZ.out).mono ?_;rintro e w9 ⟨rfl,hd2,hg2⟩;have HX:=aa (kK (show Below w.heap.size w _ from aW) (x:=jy F l t ⟨#[116,97,107,101]⟩ b) ⟨rfl,hd2,hg2⟩);clear hd2 hg2))
 go_ret;exact HX.out
theorem Cy{F:aN}{B g:Nat}{l t:List Int}{w:World}(h:dx F B g l t w)(s:ByteArray)(hs:s.size<=3000)(b:ByteArray)(hp:pieces s 32=[⟨#[106,111,105,110]⟩,b]):Calls Tryz.prog 55 #[.pointer (some ⟨g,0,none⟩),.string s] w (df B g (jy F l t ⟨#[106,111,105,110]⟩ b) w):=by
 have HS:=aa (show Calls Tryz.prog 77 #[.string s,.string ⟨#[32]⟩] w λe w'=>e=.returned (.slice (some ⟨w.heap.size,0,none⟩) 2 2)/\w'=w.alloc (.cells #[.string ⟨#[106,111,105,110]⟩,.string b] 9) by have h1:=kI s 32 w (by omega) h.glob;rw[hp]at h1;exact h1);have HH:=aa h;have HB:=aa (Below.refl w.heap.size w);have HZ:=aa (show b.size<=3000 from Nat.le_trans (iC (x:=b) (c:=32) (by rw[hp];simp)) hs);clear h hp hs;go_enter Tryz.func55,Tryz.ntmps55
 go_wp2_with (first
  | (go_at_call 77;refine HS.out.mono ?_;rintro e w1 ⟨rfl,rfl⟩)
  | (go_at_call 79;refine (FW (HH.out.below aW) b HZ.out).mono ?_;rintro e w9 ⟨rfl,hd2,hg2⟩;have HX:=aa (kK (show Below w.heap.size w _ from aW) (x:=jy F l t ⟨#[106,111,105,110]⟩ b) ⟨rfl,hd2,hg2⟩);clear hd2 hg2))
 go_ret;exact HX.out
theorem IG{F:aN}{B g:Nat}{l t:List Int}{w:World}(h:dx F B g l t w)(s:ByteArray)(hs:s.size<=3000)(b:ByteArray)(hp:pieces s 32=[⟨#[99,108,97,115,115]⟩,b]):Calls Tryz.prog 55 #[.pointer (some ⟨g,0,none⟩),.string s] w (df B g (jy F l t ⟨#[99,108,97,115,115]⟩ b) w):=by
 have HS:=aa (show Calls Tryz.prog 77 #[.string s,.string ⟨#[32]⟩] w λe w'=>e=.returned (.slice (some ⟨w.heap.size,0,none⟩) 2 2)/\w'=w.alloc (.cells #[.string ⟨#[99,108,97,115,115]⟩,.string b] 9) by have h1:=kI s 32 w (by omega) h.glob;rw[hp]at h1;exact h1);have HH:=aa h;have HB:=aa (Below.refl w.heap.size w);have HZ:=aa (show b.size<=3000 from Nat.le_trans (iC (x:=b) (c:=32) (by rw[hp];simp)) hs);clear h hp hs;go_enter Tryz.func55,Tryz.ntmps55
 go_wp2_with (first
  | (go_at_call 77;refine HS.out.mono ?_;rintro e w1 ⟨rfl,rfl⟩)
  | (go_at_call 79;refine (IB (HH.out.below aW) b HZ.out).mono ?_;rintro e w9 ⟨rfl,hd2,hg2⟩;have HX:=aa (kK (show Below w.heap.size w _ from aW) (x:=jy F l t ⟨#[99,108,97,115,115]⟩ b) ⟨rfl,hd2,hg2⟩);clear hd2 hg2))
 go_ret;exact HX.out
theorem Cj{F:aN}{B g:Nat}{l t:List Int}{w:World}(h:dx F B g l t w)(s:ByteArray)(hs:s.size<=3000)(a b:ByteArray)(hp:pieces s 32=[a,b])(h0:(a.toList == ([116,97,107,101]:List UInt8))=false)(h1:(a.toList == ([106,111,105,110]:List UInt8))=false)(h2:(a.toList == ([99,108,97,115,115]:List UInt8))=false)(hr:bT b=none):Calls Tryz.prog 55 #[.pointer (some ⟨g,0,none⟩),.string s] w (df B g (⟨l,t,gG⟩) w):=by
 have HS:=aa (show Calls Tryz.prog 77 #[.string s,.string ⟨#[32]⟩] w λe w'=>e=.returned (.slice (some ⟨w.heap.size,0,none⟩) 2 2)/\w'=w.alloc (.cells #[.string a,.string b] 9) by have h1:=kI s 32 w (by omega) h.glob;rw[hp]at h1;exact h1);have HH:=aa h;have HB:=aa (Below.refl w.heap.size w);have HC:=aa (lH b (w.alloc (.cells #[.string a,.string b] 9)) (Nat.le_trans (Nat.le_trans (iC (x:=b) (c:=32) (by rw[hp];simp)) hs) (by omega)) (h.glob.below (aG (Below.refl _ _) _)));have HR:=aa hr;clear hr h hp hs;go_enter Tryz.func55,Tryz.ntmps55
 go_wp2_with (first
  | (go_at_call 77;refine HS.out.mono ?_;rintro e w1 ⟨rfl,rfl⟩)
  | (go_at_call 80;refine HC.out.mono ?_;rintro e w2 ⟨n',rfl,hn,hb⟩;rw[HR.out];dsimp only[Option.isSome];replace HB:=aa (aj (show Below w.heap.size w _ from aW) hb);clear hn hb))
 go_ret;exact gH HH.out.at_ (show Below w.heap.size w _ from aW)
theorem Jf{F:aN}{B g:Nat}{l t:List Int}{w:World}(h:dx F B g l t w)(s:ByteArray)(hs:s.size<=3000)(a b:ByteArray)(hp:pieces s 32=[a,b])(h0:(a.toList == ([116,97,107,101]:List UInt8))=false)(h1:(a.toList == ([106,111,105,110]:List UInt8))=false)(h2:(a.toList == ([99,108,97,115,115]:List UInt8))=false)(n:Int)(hr:bT b=some n):Calls Tryz.prog 55 #[.pointer (some ⟨g,0,none⟩),.string s] w (df B g (og F l t a n) w):=by
 have HS:=aa (show Calls Tryz.prog 77 #[.string s,.string ⟨#[32]⟩] w λe w'=>e=.returned (.slice (some ⟨w.heap.size,0,none⟩) 2 2)/\w'=w.alloc (.cells #[.string a,.string b] 9) by have h1:=kI s 32 w (by omega) h.glob;rw[hp]at h1;exact h1);have HH:=aa h;have HB:=aa (Below.refl w.heap.size w);have HC:=aa (lH b (w.alloc (.cells #[.string a,.string b] 9)) (Nat.le_trans (Nat.le_trans (iC (x:=b) (c:=32) (by rw[hp];simp)) hs) (by omega)) (h.glob.below (aG (Below.refl _ _) _)));have HR:=aa hr;have HN:=aa (nR hr);clear hr h hp hs;go_enter Tryz.func55,Tryz.ntmps55
 go_wp2_with (first
  | (go_at_call 77;refine HS.out.mono ?_;rintro e w1 ⟨rfl,rfl⟩)
  | (go_at_call 80;refine HC.out.mono ?_;rintro e w2 ⟨n',rfl,hn,hb⟩;rw[HR.out];dsimp only[Option.isSome];obtain rfl:=hn _ HR.out;replace HB:=aa (aj (show Below w.heap.size w _ from aW) hb);clear hn hb)
  | (go_at_call 81;refine (Hz (HH.out.below HB.out) _ HN.out.1 HN.out.2 a).mono ?_;rintro e w9 ⟨rfl,hd2,hg2⟩;have HX:=aa (kK (show Below w.heap.size w _ from aW) (x:=og F l t a _) ⟨rfl,hd2,hg2⟩);clear hd2 hg2))
 go_ret;exact HX.out
theorem JC{F:aN}{B g:Nat}{l t:List Int}{w:World}(h:dx F B g l t w)(s:ByteArray)(hs:s.size<=3000)(b c:ByteArray)(hp:pieces s 32=[⟨#[97,116]⟩,b,c])(h1:bT b=none)(h2:bT c=none):Calls Tryz.prog 55 #[.pointer (some ⟨g,0,none⟩),.string s] w (df B g (⟨l,t,gG⟩) w):=by
 have HS:=aa (show Calls Tryz.prog 77 #[.string s,.string ⟨#[32]⟩] w λe w'=>e=.returned (.slice (some ⟨w.heap.size,0,none⟩) 3 3)/\w'=w.alloc (.cells #[.string ⟨#[97,116]⟩,.string b,.string c] 9) by have h1:=kI s 32 w (by omega) h.glob;rw[hp]at h1;exact h1);have HH:=aa h;have HB:=aa (Below.refl w.heap.size w);have HC:=aa (lH b (w.alloc (.cells #[.string ⟨#[97,116]⟩,.string b,.string c] 9)) (Nat.le_trans (Nat.le_trans (iC (x:=b) (c:=32) (by rw[hp];simp)) hs) (by omega)) (h.glob.below (aG (Below.refl _ _) _)));have HZ:=aa (show c.size<=1000000 from Nat.le_trans (Nat.le_trans (iC (x:=c) (c:=32) (by rw[hp];simp)) hs) (by omega));have HT2:=aa (show (w.alloc (.cells #[.string ⟨#[97,116]⟩,.string b,.string c] 9)).cell? ⟨w.heap.size,2,none⟩=some (.string c) from ah (bC w _) 2);have HR1:=aa h1;have HR2:=aa h2;clear h1 h2 h hp hs;go_enter Tryz.func55,Tryz.ntmps55
 go_wp2_with (first
  | (go_at_call 77;refine HS.out.mono ?_;rintro e w1 ⟨rfl,rfl⟩)
  | (go_at_call_of 80 b;refine HC.out.mono ?_;rintro e w2 ⟨n1,rfl,hn,hb⟩;rw[HR1.out];dsimp only[Option.isSome];have hc2:w2.cell? ⟨w.heap.size,2,none⟩=some (.string c):=(hb.cell (World.block_lt_of_cell? _ _ HT2.out)).trans HT2.out;replace HB:=aa (aj (show Below w.heap.size w _ from aW) hb);clear hn hb)
  | (go_at_call_of 80 c;refine (lH c _ HZ.out (HH.out.glob.below aW)).mono ?_;rintro e w3 ⟨n2,rfl,hn,hb⟩;rw[HR2.out];dsimp only[Option.isSome];replace HB:=aa (aj (show Below w.heap.size w _ from aW) hb);clear hn hb))
 go_ret;exact gH HH.out.at_ (show Below w.heap.size w _ from aW)
theorem Ip{F:aN}{B g:Nat}{l t:List Int}{w:World}(h:dx F B g l t w)(s:ByteArray)(hs:s.size<=3000)(b c:ByteArray)(hp:pieces s 32=[⟨#[97,116]⟩,b,c])(m:Int)(h1:bT b=none)(h2:bT c=some m):Calls Tryz.prog 55 #[.pointer (some ⟨g,0,none⟩),.string s] w (df B g (⟨l,t,gG⟩) w):=by
 have HS:=aa (show Calls Tryz.prog 77 #[.string s,.string ⟨#[32]⟩] w λe w'=>e=.returned (.slice (some ⟨w.heap.size,0,none⟩) 3 3)/\w'=w.alloc (.cells #[.string ⟨#[97,116]⟩,.string b,.string c] 9) by have h1:=kI s 32 w (by omega) h.glob;rw[hp]at h1;exact h1);have HH:=aa h;have HB:=aa (Below.refl w.heap.size w);have HC:=aa (lH b (w.alloc (.cells #[.string ⟨#[97,116]⟩,.string b,.string c] 9)) (Nat.le_trans (Nat.le_trans (iC (x:=b) (c:=32) (by rw[hp];simp)) hs) (by omega)) (h.glob.below (aG (Below.refl _ _) _)));have HZ:=aa (show c.size<=1000000 from Nat.le_trans (Nat.le_trans (iC (x:=c) (c:=32) (by rw[hp];simp)) hs) (by omega));have HT2:=aa (show (w.alloc (.cells #[.string ⟨#[97,116]⟩,.string b,.string c] 9)).cell? ⟨w.heap.size,2,none⟩=some (.string c) from ah (bC w _) 2);have HR1:=aa h1;have HR2:=aa h2;clear h1 h2 h hp hs;go_enter Tryz.func55,Tryz.ntmps55
 go_wp2_with (first
  | (go_at_call 77;refine HS.out.mono ?_;rintro e w1 ⟨rfl,rfl⟩)
  | (go_at_call_of 80 b;refine HC.out.mono ?_;rintro e w2 ⟨n1,rfl,hn,hb⟩;rw[HR1.out];dsimp only[Option.isSome];have hc2:w2.cell? ⟨w.heap.size,2,none⟩=some (.string c):=(hb.cell (World.block_lt_of_cell? _ _ HT2.out)).trans HT2.out;replace HB:=aa (aj (show Below w.heap.size w _ from aW) hb);clear hn hb)
  | (go_at_call_of 80 c;refine (lH c _ HZ.out (HH.out.glob.below aW)).mono ?_;rintro e w3 ⟨n2,rfl,hn,hb⟩;rw[HR2.out];dsimp only[Option.isSome];obtain rfl:=hn _ HR2.out;replace HB:=aa (aj (show Below w.heap.size w _ from aW) hb);clear hn hb))
 go_ret;exact gH HH.out.at_ (show Below w.heap.size w _ from aW)
theorem Gh{F:aN}{B g:Nat}{l t:List Int}{w:World}(h:dx F B g l t w)(s:ByteArray)(hs:s.size<=3000)(b c:ByteArray)(hp:pieces s 32=[⟨#[97,116]⟩,b,c])(m:Int)(h1:bT b=some m)(h2:bT c=none):Calls Tryz.prog 55 #[.pointer (some ⟨g,0,none⟩),.string s] w (df B g (⟨l,t,gG⟩) w):=by
 have HS:=aa (show Calls Tryz.prog 77 #[.string s,.string ⟨#[32]⟩] w λe w'=>e=.returned (.slice (some ⟨w.heap.size,0,none⟩) 3 3)/\w'=w.alloc (.cells #[.string ⟨#[97,116]⟩,.string b,.string c] 9) by have h1:=kI s 32 w (by omega) h.glob;rw[hp]at h1;exact h1);have HH:=aa h;have HB:=aa (Below.refl w.heap.size w);have HC:=aa (lH b (w.alloc (.cells #[.string ⟨#[97,116]⟩,.string b,.string c] 9)) (Nat.le_trans (Nat.le_trans (iC (x:=b) (c:=32) (by rw[hp];simp)) hs) (by omega)) (h.glob.below (aG (Below.refl _ _) _)));have HZ:=aa (show c.size<=1000000 from Nat.le_trans (Nat.le_trans (iC (x:=c) (c:=32) (by rw[hp];simp)) hs) (by omega));have HT2:=aa (show (w.alloc (.cells #[.string ⟨#[97,116]⟩,.string b,.string c] 9)).cell? ⟨w.heap.size,2,none⟩=some (.string c) from ah (bC w _) 2);have HR1:=aa h1;have HR2:=aa h2;clear h1 h2 h hp hs;go_enter Tryz.func55,Tryz.ntmps55
 go_wp2_with (first
  | (go_at_call 77;refine HS.out.mono ?_;rintro e w1 ⟨rfl,rfl⟩)
  | (go_at_call_of 80 b;refine HC.out.mono ?_;rintro e w2 ⟨n1,rfl,hn,hb⟩;rw[HR1.out];dsimp only[Option.isSome];obtain rfl:=hn _ HR1.out;have hc2:w2.cell? ⟨w.heap.size,2,none⟩=some (.string c):=(hb.cell (World.block_lt_of_cell? _ _ HT2.out)).trans HT2.out;replace HB:=aa (aj (show Below w.heap.size w _ from aW) hb);clear hn hb)
  | (go_at_call_of 80 c;refine (lH c _ HZ.out (HH.out.glob.below aW)).mono ?_;rintro e w3 ⟨n2,rfl,hn,hb⟩;rw[HR2.out];dsimp only[Option.isSome];replace HB:=aa (aj (show Below w.heap.size w _ from aW) hb);clear hn hb))
 go_ret;exact gH HH.out.at_ (show Below w.heap.size w _ from aW)
theorem Gx{F:aN}{B g:Nat}{l t:List Int}{w:World}(h:dx F B g l t w)(s:ByteArray)(hs:s.size<=3000)(b c:ByteArray)(hp:pieces s 32=[⟨#[97,116]⟩,b,c])(n r:Int)(h1:bT b=some n)(h2:bT c=some r):Calls Tryz.prog 55 #[.pointer (some ⟨g,0,none⟩),.string s] w (df B g (fw l t (F.at_ n r)) w):=by
 have HS:=aa (show Calls Tryz.prog 77 #[.string s,.string ⟨#[32]⟩] w λe w'=>e=.returned (.slice (some ⟨w.heap.size,0,none⟩) 3 3)/\w'=w.alloc (.cells #[.string ⟨#[97,116]⟩,.string b,.string c] 9) by have h1:=kI s 32 w (by omega) h.glob;rw[hp]at h1;exact h1);have HH:=aa h;have HB:=aa (Below.refl w.heap.size w);have HC:=aa (lH b (w.alloc (.cells #[.string ⟨#[97,116]⟩,.string b,.string c] 9)) (Nat.le_trans (Nat.le_trans (iC (x:=b) (c:=32) (by rw[hp];simp)) hs) (by omega)) (h.glob.below (aG (Below.refl _ _) _)));have HZ:=aa (show c.size<=1000000 from Nat.le_trans (Nat.le_trans (iC (x:=c) (c:=32) (by rw[hp];simp)) hs) (by omega));have HT2:=aa (show (w.alloc (.cells #[.string ⟨#[97,116]⟩,.string b,.string c] 9)).cell? ⟨w.heap.size,2,none⟩=some (.string c) from ah (bC w _) 2);have HR1:=aa h1;have HR2:=aa h2;have HN1:=aa (nR h1);have HN2:=aa (nR h2);clear h1 h2 h hp hs;go_enter Tryz.func55,Tryz.ntmps55
 go_wp2_with (first
  | (go_at_call 77;refine HS.out.mono ?_;rintro e w1 ⟨rfl,rfl⟩)
  | (go_at_call_of 80 b;refine HC.out.mono ?_;rintro e w2 ⟨n1,rfl,hn,hb⟩;rw[HR1.out];dsimp only[Option.isSome];obtain rfl:=hn _ HR1.out;have hc2:w2.cell? ⟨w.heap.size,2,none⟩=some (.string c):=(hb.cell (World.block_lt_of_cell? _ _ HT2.out)).trans HT2.out;replace HB:=aa (aj (show Below w.heap.size w _ from aW) hb);clear hn hb)
  | (go_at_call_of 80 c;refine (lH c _ HZ.out (HH.out.glob.below aW)).mono ?_;rintro e w3 ⟨n2,rfl,hn,hb⟩;rw[HR2.out];dsimp only[Option.isSome];obtain rfl:=hn _ HR2.out;replace HB:=aa (aj (show Below w.heap.size w _ from aW) hb);clear hn hb)
  | (go_at_call 63;refine (HH.out.impl.at_ _ _ _ HN1.out.1 HN1.out.2 HN2.out.1 HN2.out.2).mono ?_;rintro e w4 ⟨v,l',rfl,ho,hm,hb⟩;have HO:=aa (Kd.R_lower ho (ay (show Below w.heap.size w _ from aW)));have HM:=aa hm;replace HB:=aa (aj (show Below w.heap.size w _ from aW) hb);clear ho hm hb)
  | (go_at_call 82;refine (tX (F.at_ _ _) HH.out.at_ aW HH.out.low HO.out HM.out).mono ?_;rintro e w9 ⟨rfl,hd2,hg2⟩;have HX:=aa (kK (show Below w.heap.size w _ from aW) (x:=fw l t (F.at_ _ _)) ⟨rfl,hd2,hg2⟩);clear hd2 hg2))
 go_ret;exact HX.out
theorem Ie{F:aN}{B g:Nat}{l t:List Int}{w:World}(h:dx F B g l t w)(s:ByteArray)(hs:s.size<=3000)(a b c:ByteArray)(hp:pieces s 32=[a,b,c])(h0:(a.toList == ([97,116]:List UInt8))=false):Calls Tryz.prog 55 #[.pointer (some ⟨g,0,none⟩),.string s] w (df B g (⟨l,t,gG⟩) w):=by
 have HS:=aa (show Calls Tryz.prog 77 #[.string s,.string ⟨#[32]⟩] w λe w'=>e=.returned (.slice (some ⟨w.heap.size,0,none⟩) 3 3)/\w'=w.alloc (.cells #[.string a,.string b,.string c] 9) by have h1:=kI s 32 w (by omega) h.glob;rw[hp]at h1;exact h1);have HH:=aa h;have HB:=aa (Below.refl w.heap.size w);clear h hp hs;go_enter Tryz.func55,Tryz.ntmps55
 go_wp2_with (first
  | (go_at_call 77;refine HS.out.mono ?_;rintro e w1 ⟨rfl,rfl⟩))
 go_ret;exact gH HH.out.at_ (show Below w.heap.size w _ from aW)
theorem Ji{F:aN}{B g:Nat}{l t:List Int}{w:World}(h:dx F B g l t w)(s:ByteArray)(hs:s.size<=3000)(a b c d:ByteArray)(r:List ByteArray)(hp:pieces s 32=a :: b :: c :: d :: r):Calls Tryz.prog 55 #[.pointer (some ⟨g,0,none⟩),.string s] w (df B g ⟨l,t,gG⟩ w):=by
 obtain ⟨n,hn⟩:∃n,n=(a :: b :: c :: d :: r).length:=⟨_,rfl⟩
 have HS:=aa (show Calls Tryz.prog 77 #[.string s,.string ⟨#[32]⟩] w λe w'=>e=.returned (.slice (some ⟨w.heap.size,0,none⟩) n n)/\w'.cell? ⟨w.heap.size,0,none⟩=some (.string a)/\Below w.heap.size w w' from
  (kI s 32 w (by omega) h.glob).mono λe w' h1=>by
   rw[hp,<- hn]at h1;refine ⟨h1.1,?_,?_⟩
   · rw[h1.2];exact ah (bC w _) 0
   · rw[h1.2];exact aG (Below.refl _ _) _)
 have HH:=aa h;have q1:((n:Int) == 1)=false:=beq_eq_false_iff_ne.2 (by simp at hn;omega);have q2:((n:Int) == 2)=false:=beq_eq_false_iff_ne.2 (by simp at hn;omega);have q3:((n:Int) == 3)=false:=beq_eq_false_iff_ne.2 (by simp at hn;omega)
 have q4:(0:Nat)<n:=by simp at hn;omega
 clear h hp hs hn;go_enter Tryz.func55,Tryz.ntmps55
 go_wp2_with (go_at_call 77;refine HS.out.mono ?_;rintro e w1 ⟨rfl,hx,hb⟩;have HB:=aa hb;clear hb)
 go_ret;exact gH HH.out.at_ HB.out
theorem zI{F:aN}{B g:Nat}{l t:List Int}{w:World}(h:dx F B g l t w)(s:ByteArray)(hs:s.size<=3000):Calls Tryz.prog 55 #[.pointer (some ⟨g,0,none⟩),.string s] w (df B g (d_ F l t s) w):=by
 unfold d_;have hlen:=jE s 32
 cases hp:pieces s 32 with
 | nil=>rw[hp]at hlen;simp at hlen
 | cons a p1 =>
 cases p1 with
 | nil=>exact Gt h s hs a hp
 | cons b p2 =>
 cases p2 with
 | nil =>
  dsimp only
  by_cases h0:a.toList=[116,97,107,101]
  ·
   rw[if_pos (Or.inl h0)];obtain rfl:=dJ a ⟨#[116,97,107,101]⟩ h0;exact CB h s hs b hp
  by_cases h1:a.toList=[106,111,105,110]
  ·
   rw[if_pos (Or.inr (Or.inl h1))];obtain rfl:=dJ a ⟨#[106,111,105,110]⟩ h1;exact Cy h s hs b hp
  by_cases h2:a.toList=[99,108,97,115,115]
  ·
   rw[if_pos (Or.inr (Or.inr h2))];obtain rfl:=dJ a ⟨#[99,108,97,115,115]⟩ h2;exact IG h s hs b hp
  rw[if_neg (by rintro (h|h|h);exact h0 h;exact h1 h;exact h2 h)]
  cases hr:bT b with
  | none=>exact Cj h s hs a b hp (beq_eq_false_iff_ne.2 h0) (beq_eq_false_iff_ne.2 h1) (beq_eq_false_iff_ne.2 h2) hr
  | some n=>exact Jf h s hs a b hp (beq_eq_false_iff_ne.2 h0) (beq_eq_false_iff_ne.2 h1) (beq_eq_false_iff_ne.2 h2) n hr
 | cons c p3 =>
 cases p3 with
 | nil =>
  dsimp only
  by_cases h0:a.toList=[97,116]
  ·
   rw[if_pos h0];obtain rfl:=dJ a ⟨#[97,116]⟩ h0
   cases h1:bT b with
   | none=>cases h2:bT c with
    | none=>exact JC h s hs b c hp h1 h2
    | some m=>exact Ip h s hs b c hp m h1 h2
   | some n=>cases h2:bT c with
    | none=>exact Gh h s hs b c hp n h1 h2
    | some r=>exact Gx h s hs b c hp n r h1 h2
  ·
   rw[if_neg h0];exact Ie h s hs a b c hp (beq_eq_false_iff_ne.2 h0)
 | cons d r=>exact Ji h s hs a b c d r hp
theorem occ_one(l:List UInt8)(c:UInt8)(i:Nat)(h:Lib.occAt l [c] i=true):l.take (i+1)=l.take i++[c]:=by
 unfold Lib.occAt at h
 have h1:(l.drop i).take 1=[c]:=by
  cases hd:l.drop i with
  | nil=>rw[hd]at h;simp at h
  | cons x r=>rw[hd]at h;simp at h;rw[h];rfl
 rw[<- h1,List.take_add]
theorem Jn(l:List UInt8)(c:UInt8):Lib.trimSuffix (l++[c]) [c]=l:=by
 unfold Lib.trimSuffix Lib.hasSuffix;rw[if_pos (List.isSuffixOf_iff_suffix.2 ⟨l,rfl⟩)];simp
theorem vH(c:UInt8):∀ (k:Nat) (l:List UInt8),Lib.count l [c]=k->(∀j x,(Lib.splitK [c] 1 k l)[j]?=some x->j<k->(Lib.splitK [c] 0 k l)[j]?=some (Lib.trimSuffix x [c]))/\(Lib.splitK [c] 1 k l)[k]?=(Lib.splitK [c] 0 k l)[k]?
 | 0,l,_=>⟨λj x _ h=>absurd h (by omega),rfl⟩
 | k+1,l,h=>by
  rcases Lib.index_spec l [c] with ⟨hi,_⟩|⟨i,hi,hil,ho,_⟩
  · rw[Lib.count_miss hi]at h;omega
  ·
   have hk:Lib.count (l.drop (i+1)) [c]=k:=by
    have:=Lib.count_hit (s:=l) (sub:=[c]) (i:=i) (by simp) hi;rw[h]at this;simp at this;omega
   obtain ⟨ih1,ih2⟩:=vH c k (l.drop (i+1)) hk
   have hn:¬ (Lib.index l [c] == -1)=true:=λe=>by have:=beq_iff_eq.1 e;omega
   have e1:∀sv,Lib.splitK [c] sv (k+1) l=l.take (i+sv) :: Lib.splitK [c] sv k (l.drop (i+1)):=λsv=>by
    rw[Lib.splitK,if_neg hn,hi];rfl
   rw[e1,e1];refine ⟨λj x hj hlt=>?_,ih2⟩
   cases j with
   | zero =>
    simp at hj;subst hj;rw[occ_one l c i ho,Jn];rfl
   | succ j=>exact ih1 j x (by simpa using hj) (by omega)
def gU(s:ByteArray)(c:UInt8):List ByteArray:=Lib.splitB ⟨#[c]⟩ 1 (Lib.countB s ⟨#[c]⟩) s
theorem sj(s:ByteArray)(c:UInt8):(gU s c).length=Lib.countB s ⟨#[c]⟩+1:=Lib.splitB_all ⟨#[c]⟩ (Nat.le_refl 1) 1 _ s rfl
def trimB(x:ByteArray)(c:UInt8):ByteArray:=⟨(Lib.trimSuffix x.data.toList [c]).toArray⟩
theorem Gp(s:ByteArray)(c:UInt8)(j:Nat)(hj:j<Lib.countB s ⟨#[c]⟩)(h1:j<(gU s c).length)(h2:j<(pieces s c).length):trimB (gU s c)[j] c=(pieces s c)[j]:=by
 have h:=(vH c (Lib.countB s ⟨#[c]⟩) s.data.toList rfl).1 j;have d1:=Lib.splitB_data ⟨#[c]⟩ 1 (Lib.countB s ⟨#[c]⟩) s;have d0:=Lib.splitB_data ⟨#[c]⟩ 0 (Lib.countB s ⟨#[c]⟩) s
 have e1:(Lib.splitK [c] 1 (Lib.countB s ⟨#[c]⟩) s.data.toList)[j]?=some (gU s c)[j].data.toList:=by
  show (Lib.splitK (⟨#[c]⟩:ByteArray).data.toList 1 _ _)[j]?=_;rw[<- d1];show ((gU s c).map _)[j]?=_;rw[List.getElem?_map,List.getElem?_eq_getElem h1];rfl
 have e0:(Lib.splitK [c] 0 (Lib.countB s ⟨#[c]⟩) s.data.toList)[j]?=some (pieces s c)[j].data.toList:=by
  show (Lib.splitK (⟨#[c]⟩:ByteArray).data.toList 0 _ _)[j]?=_;rw[<- d0];show ((pieces s c).map _)[j]?=_;rw[List.getElem?_map,List.getElem?_eq_getElem h2];rfl
 have:=h _ e1 hj;rw[e0]at this;have e:=Option.some.inj this;unfold trimB;rw[<- e]
theorem zK(s:ByteArray)(c:UInt8)(h1:Lib.countB s ⟨#[c]⟩<(gU s c).length)(h2:Lib.countB s ⟨#[c]⟩<(pieces s c).length):(gU s c)[Lib.countB s ⟨#[c]⟩]=(pieces s c)[Lib.countB s ⟨#[c]⟩]:=by
 have h:=(vH c (Lib.countB s ⟨#[c]⟩) s.data.toList rfl).2;have d1:=Lib.splitB_data ⟨#[c]⟩ 1 (Lib.countB s ⟨#[c]⟩) s;have d0:=Lib.splitB_data ⟨#[c]⟩ 0 (Lib.countB s ⟨#[c]⟩) s
 have e1:(Lib.splitK [c] 1 (Lib.countB s ⟨#[c]⟩) s.data.toList)[Lib.countB s ⟨#[c]⟩]?=some (gU s c)[Lib.countB s ⟨#[c]⟩].data.toList:=by
  show (Lib.splitK (⟨#[c]⟩:ByteArray).data.toList 1 _ _)[_]?=_;rw[<- d1];show ((gU s c).map _)[_]?=_;rw[List.getElem?_map,List.getElem?_eq_getElem h1];rfl
 have e0:(Lib.splitK [c] 0 (Lib.countB s ⟨#[c]⟩) s.data.toList)[Lib.countB s ⟨#[c]⟩]?=some (pieces s c)[Lib.countB s ⟨#[c]⟩].data.toList:=by
  show (Lib.splitK (⟨#[c]⟩:ByteArray).data.toList 0 _ _)[_]?=_;rw[<- d0];show ((pieces s c).map _)[_]?=_;rw[List.getElem?_map,List.getElem?_eq_getElem h2];rfl
 rw[e1,e0]at h;have e:=Option.some.inj h;exact ByteArray.ext (Array.ext' e)
theorem Bu(s:ByteArray)(c:UInt8)(w:World)(hs:s.size<=2000000)(hG:dG w) :
  Calls Tryz.prog 68 #[.string s,.string ⟨#[c]⟩] w λe w'=>e=.returned (.slice (some ⟨w.heap.size,0,none⟩) (Lib.countB s ⟨#[c]⟩+1) (Lib.countB s ⟨#[c]⟩+1))/\w'=w.alloc (.cells ((gU s c).map Value.string).toArray 9):=by
 obtain ⟨m,hm⟩:=hG.len;have hle:=Lib.countB_le ⟨#[c]⟩ (Nat.le_refl 1) s.size s (Nat.le_refl _);have C:=Tryz.strings_genSplit s ⟨#[c]⟩ 1 (-1) (Lib.countB s ⟨#[c]⟩+1) m w (by omega) hm (Nat.le_refl 1) (Nat.le_refl 1) (by decide) (by decide) (by rw[if_pos (by decide)];omega)
 have HC:=aa (C.mono (R':=λe w'=>e=.returned (.slice (some ⟨w.heap.size,0,none⟩) (Lib.countB s ⟨#[c]⟩+1) (Lib.countB s ⟨#[c]⟩+1))/\w'=w.alloc (.cells ((gU s c).map Value.string).toArray 9)) λe w' h=>by
  obtain ⟨h1,h2⟩:=h;rw[Nat.add_sub_cancel]at h1 h2;have e1:(Lib.splitB ⟨#[c]⟩ 1 (Lib.countB s ⟨#[c]⟩) s).length=Lib.countB s ⟨#[c]⟩+1:=sj s c;rw[e1]at h1;rw[<- e1,Lib.cellsOf_full]at h2
  exact ⟨h1,h2⟩)
 clear C hm hle hG hs;go_enter Tryz.func68,Tryz.ntmps68
 go_wp2_with (go_at_call 108;refine HC.out.mono ?_;rintro e w1 ⟨rfl,rfl⟩)
 go_ret;exact ⟨rfl,rfl⟩
def firstT:List Int:=List.replicate 7 (-1)
def jg(F:aN)(st:List Int × List Int × List ByteArray)(s:ByteArray):List Int × List Int × List ByteArray:=((d_ F st.1 st.2.1 s).l,(d_ F st.1 st.2.1 s).t,st.2.2++[(d_ F st.1 st.2.1 s).r])
def bP(F:aN)(ls:List ByteArray):List Int × List Int × List ByteArray:=ls.foldl (jg F) ([0],firstT,[])
theorem vK(F:aN)(ls:List ByteArray)(s:ByteArray):bP F (ls++[s])=jg F (bP F ls) s:=by unfold bP;rw[List.foldl_append];rfl
def eZ(F:aN)(s:ByteArray):Option (List Int × List Int × List ByteArray) :=
 if s.size<=3000/\Lib.countB s ⟨#[10]⟩<=50/\((pieces s 10).getD (Lib.countB s ⟨#[10]⟩) ⟨#[0]⟩).toList=[] then some (bP F ((pieces s 10).take (Lib.countB s ⟨#[10]⟩)))else none
theorem r_{F:aN}{l t:List Int}{o:Option (List Int)}(hl:F.park l=true)(ht:F.tab t=true)(h:∀m,o=some m->F.park m=true):F.park (fw l t o).l=true/\F.tab (fw l t o).t=true:=by
 cases o with
 | none=>exact ⟨hl,ht⟩
 | some m=>exact ⟨h m rfl,ht⟩
theorem yH{F:aN}{l t:List Int}{o:Option (List Int)}(hl:F.park l=true)(ht:F.tab t=true)(h:∀m,o=some m->F.tab m=true):F.park (lK l t o).l=true/\F.tab (lK l t o).t=true:=by
 cases o with
 | none=>exact ⟨hl,ht⟩
 | some m=>exact ⟨hl,h m rfl⟩
theorem I_{F:aN}(hF:Good F){l t:List Int}(hl:F.park l=true)(ht:F.tab t=true)(s:ByteArray):F.park (d_ F l t s).l=true/\F.tab (d_ F l t s).t=true:=by
 have h0:F.park (⟨l,t,gG⟩:gF).l=true/\F.tab (⟨l,t,gG⟩:gF).t=true:=⟨hl,ht⟩
 unfold d_
 split
 ·
  unfold nY
  repeat' split
  all_goals first|exact ⟨hl,ht⟩|exact r_ hl ht λm h=>hF.next l m hl h
 ·
  split
  ·
   unfold jy
   repeat' split
   all_goals first
    | exact ⟨hl,ht⟩
    | exact r_ hl ht λm h=>hF.join l _ m h
    | (refine r_ hl ht λm h=>?_;cases h <;> assumption)
  ·
   split
   · exact h0
   ·
    unfold og
    repeat' split
    all_goals first
     | exact ⟨hl,ht⟩
     | exact yH hl ht λm h=>hF.empty _ m h
     | exact yH hl ht λm h=>hF.rem t _ m ht h
     | (unfold lV;split <;> exact ⟨hl,ht⟩)
     | (unfold uC;split <;> exact ⟨hl,ht⟩)
     | (unfold tH;split <;> first|exact ⟨hl,ht⟩|(rename_i hq;exact ⟨hl,(hF.ins t _ _ _ ht hq).1⟩))
 ·
  split
  ·
   split
   · exact r_ hl ht λm h=>hF.at_ _ _ m h
   · exact h0
  · exact h0
 · exact h0
theorem oZ{F:aN}(hF:Good F)(h0:F.park [0]=true)(h1:F.tab firstT=true)(ls:List ByteArray):F.park (bP F ls).1=true/\F.tab (bP F ls).2.1=true/\(bP F ls).2.2.length=ls.length:=by
 suffices h:∀ (ls:List ByteArray) (st:List Int × List Int × List ByteArray),F.park st.1=true->F.tab st.2.1=true->F.park (ls.foldl (jg F) st).1=true/\F.tab (ls.foldl (jg F) st).2.1=true/\(ls.foldl (jg F) st).2.2.length=st.2.2.length+ls.length by
  have:=h ls ([0],firstT,[]) h0 h1;simpa [bP] using this
 intro ls
 induction ls with
 | nil=>intro st h2 h3;exact ⟨h2,h3,rfl⟩
 | cons x r ih =>
  intro st h2 h3;have h4:=I_ hF h2 h3 x;have h5:=ih (jg F st x) h4.1 h4.2;refine ⟨h5.1,h5.2.1,?_⟩;have h6:=h5.2.2;simp only[List.foldl_cons,List.length_cons];rw[h6];simp[jg];omega
def l6(y:ByteArray):Bool:=(y.toList == [110,111]) || (y.toList == [119,104,97,116])
theorem zS(sep:ByteArray)(sv:Nat):∀ (k:Nat) (s:ByteArray) (x:ByteArray),x∈Lib.splitB sep sv k s->x.size<=s.size
 | 0,s,x,h=>by
  rw[Lib.splitB_zero]at h;obtain rfl:=List.mem_singleton.1 h;exact Nat.le_refl _
 | k+1,s,x,h=>by
  unfold Lib.splitB at h
  split at h
  ·
   obtain rfl:=List.mem_singleton.1 h;exact Nat.le_refl _
  ·
   rcases List.mem_cons.1 h with rfl|h
   · simp[ByteArray.size_extract];omega
   ·
    have:=zS sep sv k _ x h;simp[ByteArray.size_extract]at this;omega
def nk(l t:List Int)(w:World)(e:Ending)(w':World):Prop:=∃v0 v1,e=.returned (.agg #[v0,v1])/\Kd.R (Kd.int .i64) 3 w' w.heap.size (λ_=>True) v0 l/\Kd.R (Kd.int .i64) 3 w' w.heap.size (λ_=>True) v1 t/\gZ v0 v1/\Below w.heap.size w w'
def l_(o:Option (List Int × List Int × List ByteArray))(w:World)(e:Ending)(w':World):Prop:=∃v0 v1 v2 l t rs,e=.returned (.tuple #[.agg #[v0,v1],v2,.bool o.isSome])/\Kd.R (Kd.int .i64) 3 w' w.heap.size (λ_=>True) v0 l/\Kd.R (Kd.int .i64) 3 w' w.heap.size (λ_=>True) v1 t/\gZ v0 v1/\Kd.R Kd.string 9 w' w.heap.size (λ_=>True) v2 rs/\(∀m,o=some m->(l,t,rs)=m)/\Below w.heap.size w w'
def mf(w:World)(e:Ending)(w':World):Prop:=e=.returned (.tuple #[.agg #[.slice none 0 0,.slice none 0 0],.slice none 0 0,.bool false])/\Below w.heap.size w w'
theorem mf.got{w w':World}{e:Ending}(h:mf w e w'):l_ none w e w':=⟨_,_,_,[],[],[],h.1,Kd.R_nil _ _ _ _ _,Kd.R_nil _ _ _ _ _,λk h=>(by cases h),Kd.R_nil _ _ _ _ _,λm h=>(by cases h),h.2⟩
theorem zx(s:ByteArray)(hs:s.size<=2000000)(w:World)(hG:dG w) :
  Calls Tryz.prog 68 #[.string s,.string ⟨#[10]⟩] (w.alloc (.cells #[.slice none 0 0,.slice none 0 0] 36)) λe w'=>e=.returned (.slice (some ⟨w.heap.size+1,0,none⟩) (Lib.countB s ⟨#[10]⟩+1) (Lib.countB s ⟨#[10]⟩+1))/\w'.heap[w.heap.size+1]?=some (.cells ((gU s 10).map Value.string).toArray 9 (0,0))/\w'.heap[w.heap.size]?=some (.cells #[.slice none 0 0,.slice none 0 0] 36 (0,0))/\Below w.heap.size w w':=by
 have hb:=aG (Below.refl w.heap.size w) (.cells #[.slice none 0 0,.slice none 0 0] 36)
 have hsz:(w.alloc (.cells #[.slice none 0 0,.slice none 0 0] 36)).heap.size=w.heap.size+1:=by simp
 refine (Bu s 10 _ hs (hG.below hb)).mono λe w' h=>?_
 rw[hsz]at h;refine ⟨h.1,?_,?_,?_⟩
 · rw[h.2,<- hsz];exact bC _ _
 · rw[h.2];exact bq (bC w _) _
 · rw[h.2];exact aG hb _
theorem oG(s:ByteArray)(hs:s.size<=2000000)(w:World)(hG:dG w)(x:ByteArray)(hx:((gU s 10).map Value.string)[Lib.countB s ⟨#[10]⟩]?=some (.string x))
  (hq:decide ((s.size:Int)>3000)=true\/decide ((s.size:Int)>3000)=false/\decide (((Lib.countB s ⟨#[10]⟩:Nat):Int)>50)=true\/decide ((s.size:Int)>3000)=false/\decide (((Lib.countB s ⟨#[10]⟩:Nat):Int)>50)=false/\x.toList.isEmpty=false) :
  Calls Tryz.prog 39 #[.string s] w (mf w):=by
 have HS:=aa (zx s hs w hG);have hle:=Lib.countB_le ⟨#[10]⟩ (Nat.le_refl 1) s.size s (Nat.le_refl _)
 obtain ⟨n,hn⟩:∃n,n=Lib.countB s ⟨#[10]⟩:=⟨_,rfl⟩
 rw[<- hn]at HS hx hq hle
 have hn9:n<=2000000:=by omega
 have HX:=aa hx;clear hn hs hG hx hle
 rcases hq with q1|⟨q1,q2⟩|⟨q1,q2,q3⟩
 all_goals
  go_enter Tryz.func39,Tryz.ntmps39
  go_wp2_with (go_at_call 68;refine HS.out.mono ?_;rintro e w1 ⟨rfl,hp,h0,hb⟩;have HB:=aa hb;have H0:=aa h0;have hc0:w1.cell? ⟨w.heap.size,0,none⟩=some (.slice none 0 0):=ah h0 0;have hc1:w1.cell? ⟨w.heap.size,1,none⟩=some (.slice none 0 0):=ah h0 1;have hf0:=au h0 0;have hf1:=au h0 1;have hcx:w1.cell? ⟨w.heap.size+1,n,none⟩=some (.string x):=(ah hp n).trans (by simpa using HX.out);clear hp h0 hb)
  have HF:=aa (show Below w.heap.size w ((w1.setCell ⟨w.heap.size,0,none⟩ (.slice none 0 0)).setCell ⟨w.heap.size,1,none⟩ (.slice none 0 0)) from bf (bf HB.out (Nat.le_refl _)) (Nat.le_refl _));exact bodyPost_ret (v:=.tuple #[.agg #[.slice none 0 0,.slice none 0 0],.slice none 0 0,.bool false]) (by simp[results,Tryz.results39,go_sem,hc0,hc1]) rfl ⟨rfl,HF.out⟩
theorem oC{α:Type}{d:Kd α}{e g t base:Nat}{ok:Nat->Prop}{W w1:World}{v:Value}{xs:List α}{cells:Array Value}(h:d.R e W base ok v xs)(hb:W.heap[g]?=some (.cells cells t (0,0)))(ht:∀q,q∈e :: d.E->q≠t)(hg:W.grownBy w1 (some g)):d.R e w1 base ok v xs :=
 Kd.R_mono (Kd.R_grown (Kd.R_types h hb ht) hg (λk hk=>by rintro ⟨⟩;exact hk.2 rfl)) (λ_ hk=>hk.1)
theorem dW.append{W w1:World}{B g base:Nat}{l t:List Int}{ok:Nat->Prop}{v:Value}{xs:List ByteArray}(h:dW W B g l t)(ho:Kd.R Kd.string 9 W base ok v xs)(hg:W.grownBy w1 v.ownBlock):dW w1 B g l t:=by
 obtain ⟨h0,v0,v1,h1,h2,h3,h4⟩:=h
 have hr:∀ {u:Value} {ys:List Int},Kd.R (Kd.int .i64) 3 W B (λ_=>True) u ys->Kd.R (Kd.int .i64) 3 w1 B (λ_=>True) u ys:=by
  intro u ys hu
  cases hv:v.ownBlock with
  | none=>rw[hv]at hg;exact Kd.R_grown hu hg (λ_ _=>by simp)
  | some k =>
   obtain ⟨inner,hown⟩:=Kd.R_own ho;obtain ⟨cells,hc⟩:=oF hown k hv;rw[hv]at hg;exact oC hu hc (by decide) hg
 exact ⟨h0,v0,v1,iM h1 hg (Kd.R_ne ho h1 (by decide)),hr h2,hr h3,h4⟩
theorem dW.desk{w:World}{B g:Nat}{l t:List Int}(h:dW w B g l t):∃v0 v1,w.heap[g]?=some (.cells #[v0,v1] 36 (0,0)):=by
 obtain ⟨_,v0,v1,h1,_⟩:=h;exact ⟨v0,v1,h1⟩
theorem set2{α:Type}{d:Kd α}{e g t base:Nat}{ok:Nat->Prop}{W:World}{v a b:Value}{xs:List α}{cells:Array Value}(hb:W.heap[g]?=some (.cells cells t (0,0)))(h:d.R e W base ok v xs)(ht:∀q,q∈e :: d.E->q≠t):d.R e ((W.setCell ⟨g,0,none⟩ a).setCell ⟨g,1,none⟩ b) base ok v xs :=
 Kd.R_set (Kd.R_set h hb ht 0 a) (iq hb 0 a) ht 1 b
theorem AU(F:aN)(hF:Good F)(hI:nN F)(hp0:F.park [0]=true)(ht0:F.tab firstT=true)(hD:∀w,Calls Tryz.prog 37 #[] w (nk [0] firstT w))(s:ByteArray)(hs:s.size<=3000)(w:World)(hG:dG w)(x:ByteArray)(hx:((gU s 10).map Value.string)[Lib.countB s ⟨#[10]⟩]?=some (.string x))(hx0:x.toList.isEmpty=true)(hc:Lib.countB s ⟨#[10]⟩<=50) :
  Calls Tryz.prog 39 #[.string s] w (l_ (some (bP F ((pieces s 10).take (Lib.countB s ⟨#[10]⟩)))) w):=by
 have HS:=aa (zx s (by omega) w hG);have HT:=aa (Gp s 10);have HPA:=aa (sj s 10);have HPB:=aa (jE s 10);have HZ:=aa (show ∀y∈pieces s 10,y.size<=3000 from λy hy=>Nat.le_trans (iC hy) hs);have HZA:=aa (show ∀y∈gU s 10,y.size<=9223372036854775807 from λy hy=>by have:=zS ⟨#[10]⟩ 1 _ _ _ hy;omega);have q1:decide ((s.size:Int)>3000)=false:=decide_eq_false (by omega)
 obtain ⟨n,hn⟩:∃n,n=Lib.countB s ⟨#[10]⟩:=⟨_,rfl⟩
 rw[<- hn]at HS hx hc HT HPA HPB ⊢;have q2:decide ((n:Int)>50)=false:=decide_eq_false (by omega);have HX:=aa hx;have HG:=aa hG;have HI:=aa hI;have HK:=aa (oZ hF hp0 ht0);have HF:=aa hF;clear hn hs hG hx hI hF hp0 ht0;go_enter Tryz.func39,Tryz.ntmps39
 go_wp2_with (first
  | (go_at_call 68;refine HS.out.mono ?_;rintro e w1 ⟨rfl,hp,h0,hb⟩;have HB:=aa hb;have H0:=aa h0;have HP:=aa hp;have hcx:w1.cell? ⟨w.heap.size+1,n,none⟩=some (.string x):=(ah hp n).trans (by simpa using HX.out);clear hp h0 hb)
  | (go_at_call 37;refine (hD _).mono ?_;rintro e w2 ⟨v0,v1,rfl,hr0,hr1,hne,hb⟩;obtain ⟨A0,c0,rfl⟩:=Kd.R_slice hr0;obtain ⟨A1,c1,rfl⟩:=Kd.R_slice hr1;have H0:=aa (aI H0.out hb);have HP:=aa (aI HP.out hb);have HR0:=aa (Kd.R_lower hr0 (ay HB.out));have HR1:=aa (Kd.R_lower hr1 (ay HB.out));have HNE:=aa hne;have HL:=aa (show w.heap.size+1<w2.heap.size from Nat.lt_of_lt_of_le (dC HP.out) (Nat.le_refl _));replace HB:=aa (aj HB.out hb);clear hr0 hr1 hne hb))
 obtain ⟨W0,hW0⟩:∃W0,W0=(w2.alloc (.cells #[] 9)).alloc (.cells #[.slice A0 1 c0,.slice A1 firstT.length c1] 36):=⟨_,rfl⟩
 have hs1:(w2.alloc (.cells #[] 9)).heap.size=w2.heap.size+1:=by simp
 have hb1:=aG (Below.refl w2.heap.size w2) (.cells #[] 9);have hb2:=aG hb1 (.cells #[.slice A0 1 c0,.slice A1 firstT.length c1] 36)
 have HD:=aa (show dW W0 w.heap.size (w2.heap.size+1) [0] firstT from
  ⟨by have:=HL.out;omega,_,_,by rw[hW0,<- hs1];exact bC _ _,by rw[hW0];exact Kd.R_below HR0.out hb2,by rw[hW0];exact Kd.R_below HR1.out hb2,HNE.out⟩)
 have HO:=aa (show Kd.R Kd.string 9 W0 w2.heap.size (λ_=>True) (.slice (some ⟨w2.heap.size,0,none⟩) 0 0) [] by rw[hW0];exact Kd.R_alloc (vz w2) _);have HB2:=aa (show Below w2.heap.size w2 W0 by rw[hW0];exact hb2);rw[<- hW0];clear hW0 hs1 hb1 hb2 HR0 HR1 HNE
 go_loopg [8,37] n (λkq v8 v37 w'=>∃ (i:Nat) (iz:Int),v37=.int .i64 iz/\ae (iz=(i:Int))/\ae (i+kq=n)/\ae (dW w' w.heap.size (w2.heap.size+1) (bP F ((pieces s 10).take i)).1 (bP F ((pieces s 10).take i)).2.1)/\ae (Kd.R Kd.string 9 w' w2.heap.size (λ_=>True) v8 (bP F ((pieces s 10).take i)).2.2)/\ae (Below w2.heap.size w2 w'))
 case atStart=>exact ⟨0,0,rfl,⟨rfl⟩,⟨by omega⟩,HD,HO,HB2⟩
 case round =>
  clear HO HD HB2;obtain ⟨i,iz,rfl,NI,NK,HD,HO,HB2⟩:=hrel
  cases gk with
  | zero =>
   have hi:i=n:=by have:=NK.out;omega
   subst hi;have q4:decide (iz<(i:Int))=false:=decide_eq_false (by have:=NI.out;omega);obtain ⟨hlo,v0,v1,h1,h2,h3,hne⟩:=HD.out;obtain ⟨B0,d0,rfl⟩:=Kd.R_slice h2;obtain ⟨B1,d1,rfl⟩:=Kd.R_slice h3;have h0:wr.heap[w.heap.size]?=some (.cells #[.slice none 0 0,.slice none 0 0] 36 (0,0)):=(HB2.out.block _ (by have:=HL.out;omega)).trans H0.out;have hcg0:wr.cell? ⟨w2.heap.size+1,0,none⟩=some (.slice B0 _ d0):=(ah h1 0).trans rfl;have hcg1:wr.cell? ⟨w2.heap.size+1,1,none⟩=some (.slice B1 _ d1):=(ah h1 1).trans rfl;have hc0:wr.cell? ⟨w.heap.size,0,none⟩=some (.slice none 0 0):=ah h0 0;have hc1:wr.cell? ⟨w.heap.size,1,none⟩=some (.slice none 0 0):=ah h0 1;have hf0:=au h0 0;have hf1:=au h0 1;have H1:=aa h0;have H2:=aa h2;have H3:=aa h3;have HN:=aa hne;clear h0 h1 h2 h3 hne hlo;go_wp2;have HW:=aa (aj HB.out HB2.out);have HE:=aa (show Below w.heap.size w ((wr.setCell ⟨w.heap.size,0,none⟩ (.slice B0 (bP F ((pieces s 10).take i)).1.length d0)).setCell ⟨w.heap.size,1,none⟩ (.slice B1 (bP F ((pieces s 10).take i)).2.1.length d1)) from bf (bf HW.out (Nat.le_refl _)) (Nat.le_refl _))
   exact bodyPost_ret (v:=.tuple #[.agg #[.slice B0 (bP F ((pieces s 10).take i)).1.length d0,.slice B1 (bP F ((pieces s 10).take i)).2.1.length d1],u8,.bool true]) (by simp[results,Tryz.results39,go_sem,hc0,hc1]) rfl
    ⟨_,_,_,_,_,_,rfl,set2 H1.out H2.out (by decide),set2 H1.out H3.out (by decide),HN.out,set2 H1.out (Kd.R_lower HO.out (ay HB.out)) (by decide),λm h=>(by cases h;rfl),HE.out⟩
  | succ d =>
   have hi0:0<=iz:=by have:=NI.out;omega
   have hin:iz<(n:Int):=by have:=NI.out;have:=NK.out;omega
   have q4:decide (iz<(n:Int))=true:=decide_eq_true hin
   have hia:i<(gU s 10).length:=by have:=NK.out;have:=HPA.out;omega
   have hib:i<(pieces s 10).length:=by have:=NK.out;have:=HPB.out;omega
   obtain ⟨y,hy⟩:∃y,y=(gU s 10)[i]:=⟨_,rfl⟩
   obtain ⟨z,hz⟩:∃z,z=(pieces s 10)[i]:=⟨_,rfl⟩
   have hyz:(⟨(Lib.trimSuffix y.data.toList [10]).toArray⟩:ByteArray)=z:=by rw[hy,hz];exact HT.out i (by have:=NK.out;omega) hia hib
   have hpp:wr.heap[w.heap.size+1]?=some (.cells ((gU s 10).map Value.string).toArray 9 (0,0)):=(HB2.out.block _ HL.out).trans HP.out;have hxl:wr.cell? ⟨w.heap.size+1,iz.toNat,none⟩=some (.string y):=(ah hpp _).trans (by rw[NI.out,Int.toNat_natCast,hy];simp[hia]);have HY:=aa (show y.size<=9223372036854775807 from HZA.out y (by rw[hy];exact List.getElem_mem _));have HZz:=aa (show z.size<=3000 from HZ.out z (by rw[hz];exact List.getElem_mem _));have HTk:=aa (show bP F ((pieces s 10).take (i+1))=jg F (bP F ((pieces s 10).take i)) z by rw[List.take_succ_eq_append_getElem hib,vK,hz]);have HLt:=aa (show (bP F ((pieces s 10).take i)).2.2.length<8796093022208 by rw[(HK.out _).2.2,List.length_take];have:=NK.out;omega);have HYZ:=aa hyz;have HIz:=aa (show wrap64 (iz+1)=((i+1:Nat):Int) by rw[NI.out];have:=NK.out;rw[wrap64_in _ (by omega) (by omega)];omega);clear hy hz hyz hpp hia hib
   obtain ⟨st,hst⟩:∃st,st=bP F ((pieces s 10).take i):=⟨_,rfl⟩
   have HKk:=aa (HK.out ((pieces s 10).take i));rw[<- hst]at HD HO HTk HLt HKk;clear hst;replace hi0:=eq_true hi0;replace hin:=eq_true hin
   go_wp2_with (first
    | (go_at_call 69;refine (Tryz.strings_TrimSuffix y ⟨#[10]⟩ _ HY.out).mono ?_;rintro e w3 ⟨rfl,rfl⟩;rw[HYZ.out])
    | (go_at_call 55;refine (zI (F:=F) (B:=w.heap.size) (g:=w2.heap.size+1) (l:=st.1) (t:=st.2.1) ⟨HF.out,HI.out,HD.out,HKk.out.1,HKk.out.2.1,HG.out.below (aj HB.out HB2.out),Nat.le_trans (ay HB.out) HB2.out.size,HG.out.big⟩ z HZz.out).mono ?_;rintro e w3 ⟨rfl,hd,hg⟩;obtain ⟨u0,u1,hgd⟩:=HD.out.desk;replace HO:=aa (oC HO.out hgd (by decide) hg);replace HD:=aa hd;replace HB2:=aa (rf HB2.out (some (w2.heap.size+1)) HB2.out.size hg (λk hk=>by cases hk;exact Nat.le_succ _));clear hd hg hgd)
    | (at_builtin;refine qL (.tmp 41) (.tmp 45) _ _ _ HO.out HB2.out HLt.out ?_;intro v1 w4 ho hb hg;replace HD:=aa (dW.append HD.out HO.out hg);replace HO:=aa ho;replace HB2:=aa hb;clear ho hb hg))
   go_roundg d
   case measure=>omega
   case rel=>exact ⟨i+1,_,rfl,HIz,⟨by have:=NK.out;omega⟩,⟨by rw[HTk.out];exact HD.out⟩,⟨by rw[HTk.out];exact HO.out⟩,HB2⟩
theorem zU(F:aN)(s:ByteArray)(hs:s.size<=2000000)(w:World)(hG:dG w)(hq:eZ F s=none):Calls Tryz.prog 39 #[.string s] w (mf w):=by
 have h1:Lib.countB s ⟨#[10]⟩<(gU s 10).length:=by rw[sj];omega
 have h2:Lib.countB s ⟨#[10]⟩<(pieces s 10).length:=by rw[jE];omega
 have hl:=zK s 10 h1 h2
 obtain ⟨x,hx⟩:∃x,x=(pieces s 10)[Lib.countB s ⟨#[10]⟩]:=⟨_,rfl⟩
 have hgx:((gU s 10).map Value.string)[Lib.countB s ⟨#[10]⟩]?=some (.string x):=by
  rw[List.getElem?_map,List.getElem?_eq_getElem h1,hl,hx];rfl
 have hgd:(pieces s 10).getD (Lib.countB s ⟨#[10]⟩) ⟨#[0]⟩=x:=by
  rw[List.getD_eq_getElem?_getD,List.getElem?_eq_getElem h2,hx];rfl
 unfold eZ at hq;rw[hgd]at hq
 by_cases c1:s.size<=3000
 ·
  by_cases c2:Lib.countB s ⟨#[10]⟩<=50
  ·
   by_cases c3:x.toList=[]
   ·
    rw[if_pos ⟨c1,c2,c3⟩]at hq;cases hq
   · exact oG s hs w hG x hgx (.inr (.inr ⟨decide_eq_false (by omega),decide_eq_false (by omega),by cases hq:x.toList with|nil=>exact absurd hq c3|cons _ _=>rfl⟩))
  · exact oG s hs w hG x hgx (.inr (.inl ⟨decide_eq_false (by omega),decide_eq_true (by omega)⟩))
 · exact oG s hs w hG x hgx (.inl (decide_eq_true (by omega)))
theorem uq(F:aN)(hF:Good F)(hI:nN F)(hp0:F.park [0]=true)(ht0:F.tab firstT=true)(hD:∀w,Calls Tryz.prog 37 #[] w (nk [0] firstT w))(s:ByteArray)(hs:s.size<=2000000)(w:World)(hG:dG w) :
  Calls Tryz.prog 39 #[.string s] w (l_ (eZ F s) w):=by
 have h1:Lib.countB s ⟨#[10]⟩<(gU s 10).length:=by rw[sj];omega
 have h2:Lib.countB s ⟨#[10]⟩<(pieces s 10).length:=by rw[jE];omega
 have hl:=zK s 10 h1 h2
 obtain ⟨x,hx⟩:∃x,x=(pieces s 10)[Lib.countB s ⟨#[10]⟩]:=⟨_,rfl⟩
 have hgx:((gU s 10).map Value.string)[Lib.countB s ⟨#[10]⟩]?=some (.string x):=by
  rw[List.getElem?_map,List.getElem?_eq_getElem h1,hl,hx];rfl
 have hgd:(pieces s 10).getD (Lib.countB s ⟨#[10]⟩) ⟨#[0]⟩=x:=by
  rw[List.getD_eq_getElem?_getD,List.getElem?_eq_getElem h2,hx];rfl
 unfold eZ;rw[hgd]
 by_cases c1:s.size<=3000
 ·
  by_cases c2:Lib.countB s ⟨#[10]⟩<=50
  ·
   by_cases c3:x.toList=[]
   ·
    rw[if_pos ⟨c1,c2,c3⟩];exact AU F hF hI hp0 ht0 hD s c1 w hG x hgx (by rw[c3];rfl) c2
   ·
    rw[if_neg (λh=>c3 h.2.2)];exact (oG s hs w hG x hgx (.inr (.inr ⟨decide_eq_false (by omega),decide_eq_false (by omega),by cases hq:x.toList with|nil=>exact absurd hq c3|cons _ _=>rfl⟩))).mono λe w' h=>h.got
  ·
   rw[if_neg (λh=>c2 h.2.1)];exact (oG s hs w hG x hgx (.inr (.inl ⟨decide_eq_false (by omega),decide_eq_true (by omega)⟩))).mono λe w' h=>h.got
 ·
  rw[if_neg (λh=>c1 h.1)];exact (oG s hs w hG x hgx (.inl (decide_eq_true (by omega)))).mono λe w' h=>h.got
theorem zR{α β:Type}{d:Kd α}{d2:Kd β}{e e2 base b2:Nat}{ok ok2:Nat->Prop}{W w1:World}{v v2:Value}{xs:List α}{ys:List β}(h:d.R e W base ok v xs)(ho:d2.R e2 W b2 ok2 v2 ys)(hne:∀q,q∈e :: d.E->q≠e2)(hg:W.grownBy w1 v2.ownBlock):d.R e w1 base ok v xs:=by
 cases hv:v2.ownBlock with
 | none=>rw[hv]at hg;exact Kd.R_grown h hg (λ_ _=>by simp)
 | some k =>
  obtain ⟨inner,hown⟩:=Kd.R_own ho;obtain ⟨cells,hc⟩:=oF hown k hv;rw[hv]at hg;exact oC h hc hne hg
theorem wJ{w:World}{A:Option Addr}{xs:List ByteArray}(h:Kd.C Kd.string w A xs.length xs)(i:Nat)(hi:i<xs.length):∃ad,A=some ad/\w.cell? (ad.add i)=some (.string xs[i]):=by
 obtain ⟨ad,e,hc⟩:=h.2.2 (by omega);obtain ⟨c,hs,hr,hcell⟩:=hc i _ (List.getElem?_eq_getElem hi);have hc1:c=[.string xs[i]]:=hr;subst hc1;refine ⟨ad,e,?_⟩;have:=hcell 0 _ rfl;have hkd:(Kd.string).sz=1:=rfl
 rwa [hkd,Nat.mul_one,Nat.add_zero]at this
def dN(rs:List ByteArray):Nat->List Int
 | 0=>[]
 | n+1=>if l6 (rs.getD n ⟨#[]⟩)=true then dN rs n++[((n+1:Nat):Int)] else dN rs n
theorem uA(rs:List ByteArray):∀n,(dN rs n).length<=n
 | 0=>Nat.le_refl _
 | n+1=>by
  have:=uA rs n;rw[dN]
  split
  · rw[List.length_append,List.length_singleton];omega
  · omega
def qY(F:aN)(s:ByteArray):Option (List Int):=(eZ F s).map λx=>dN x.2.2 x.2.2.length
def qM(o:Option (List Int))(w:World)(e:Ending)(w':World):Prop:=∃v,e=.returned (.tuple #[v,.bool o.isSome])/\Kd.R (Kd.int .i64) 3 w' w.heap.size (λ_=>True) v (o.getD [])/\Below w.heap.size w w'
theorem qM.of{l:List Int}{w w':World}{e:Ending}(h:jo (some l) w e w'):qM (some l) w e w':=by
 obtain ⟨v,l',rfl,h1,h2,h3⟩:=h;obtain rfl:=h2 _ rfl;exact ⟨v,rfl,h1,h3⟩
section
variable (F:aN) (s:ByteArray) (w:World) (HR:Calls Tryz.prog 39 #[.string s] w (l_ (eZ F s) w))
include HR
theorem Fy(hq:eZ F s=none):Calls Tryz.prog 10 #[.string s] w (qM none w):=by
 have HC:=aa HR;rw[hq]at HC;clear HR hq;go_enter Tryz.func10,Tryz.ntmps10
 go_wp2_with (go_at_call 39;refine HC.out.mono ?_;rintro e w1 ⟨v0,v1,v2,l,t,rs,rfl,h0,h1,h2,h3,h4,hb⟩;obtain ⟨A0,c0,rfl⟩:=Kd.R_slice h0;obtain ⟨A1,c1,rfl⟩:=Kd.R_slice h1;obtain ⟨A2,c2,rfl⟩:=Kd.R_slice h3;have HB:=aa hb;clear h0 h1 h2 h3 h4 hb)
 go_ret2;exact ⟨_,rfl,Kd.R_nil _ _ _ _ _,aW⟩
theorem CX(l t:List Int)(rs:List ByteArray)(hq:eZ F s=some (l,t,rs))(hn:rs.length<=1000):Calls Tryz.prog 10 #[.string s] w (jo (some (dN rs rs.length)) w):=by
 have HC:=aa HR;rw[hq]at HC
 have HN:ae (rs.length<=1000):=⟨hn⟩
 clear HR hq hn;go_enter Tryz.func10,Tryz.ntmps10
 go_wp2_with (go_at_call 39;refine HC.out.mono ?_;rintro e w1 ⟨v0,v1,v2,l',t',rs',rfl,h0,h1,h2,h3,h4,hb⟩;cases h4 _ rfl;obtain ⟨A0,c0,rfl⟩:=Kd.R_slice h0;obtain ⟨A1,c1,rfl⟩:=Kd.R_slice h1;obtain ⟨A2,c2,rfl⟩:=Kd.R_slice h3;have HP:=aa h3;have HB:=aa hb;clear h0 h1 h2 h3 h4 hb)
 obtain ⟨W,hW⟩:∃W,W=w1.alloc (.cells #[.slice A0 l.length c0,.slice A1 t.length c1] 36):=⟨_,rfl⟩
 have HO:=aa (rY W);have HW:=aa (show Below w.heap.size w W by rw[hW];exact aW);replace HP:=aa (show Kd.R Kd.string 9 (W.alloc (.cells #[] 3)) w.heap.size (λ_=>True) (.slice A2 rs.length c2) rs by rw[hW];exact ja HP.out);have HB2:=aa (show Below W.heap.size W (W.alloc (.cells #[] 3)) from aG (Below.refl _ _) _)
 have hWs:W.heap.size=w1.heap.size+1:=by rw[hW];simp
 rw[hWs]at HO;rw[<- hW];clear hW
 go_loopg [7,21] rs.length (λkq v7 v21 w'=>∃ (i:Nat) (iz:Int),v21=.int .i64 iz/\ae (iz=(i:Int))/\ae (i+kq=rs.length)/\ae (Kd.R Kd.string 9 w' w.heap.size (λ_=>True) (.slice A2 rs.length c2) rs)/\ae (Kd.R (Kd.int .i64) 3 w' W.heap.size (λ_=>True) v7 (dN rs i))/\ae (Below W.heap.size W w'))
 case atStart=>exact ⟨0,0,rfl,⟨rfl⟩,⟨by omega⟩,HP,⟨by rw[hWs];exact HO.out⟩,HB2⟩
 case round =>
  clear HO HP HB2 hWs;obtain ⟨i,iz,rfl,NI,NK,HP,HO,HB2⟩:=hrel
  cases gk with
  | zero =>
   have hi:i=rs.length:=by have:=NK.out;omega
   subst hi;have q1:decide (iz<(rs.length:Int))=false:=decide_eq_false (by have:=NI.out;omega);go_wp2;go_ret2;exact ⟨_,_,rfl,Kd.R_lower HO.out (ay HW.out),λm h=>(by cases h;rfl),aj HW.out HB2.out⟩
  | succ d =>
   have hi0:0<=iz:=by have:=NI.out;omega
   have hin:iz<(rs.length:Int):=by have:=NI.out;have:=NK.out;omega
   have q1:decide (iz<(rs.length:Int))=true:=decide_eq_true hin
   have hi1:i<rs.length:=by have:=NK.out;omega
   obtain ⟨ad,e0,hx⟩:=wJ (Kd.R_reads' HP.out).2.2 i hi1;cases e0
   obtain ⟨y,hy⟩:∃y,y=rs[i]:=⟨_,rfl⟩
   rw[<- hy,show i=iz.toNat by rw[NI.out];simp]at hx;have HY:=aa (show rs.getD i ⟨#[]⟩=y by rw[List.getD_eq_getElem?_getD,List.getElem?_eq_getElem hi1,hy];rfl);have HLt:=aa (show (dN rs i).length<17592186044416 by have:=uA rs i;have:=HN.out;omega);have HI:=aa (show wrap64 (iz+1)=((i+1:Nat):Int) by rw[NI.out];have:=HN.out;rw[wrap64_in _ (by omega) (by omega)];omega);clear hi1 hy;replace hi0:=eq_true hi0;replace hin:=eq_true hin
   by_cases hb0:y.toList=[110,111]
   ·
    have q2:(y.toList == ([110,111]:List UInt8))=true:=beq_iff_eq.2 hb0;have HT:=aa (show dN rs i++[wrap64 (iz+1)]=dN rs (i+1) by rw[dN,HY.out,l6,q2,Bool.true_or,if_pos rfl,HI.out]);clear hb0
    go_wp2_with (at_builtin;refine qf (.tmp 32) (.tmp 35) _ _ _ HO.out HB2.out HLt.out ?_;intro v1 w4 ho hb hg;rw[HT.out]at ho;replace HP:=aa (zR HP.out HO.out (by decide) hg);replace HO:=aa ho;replace HB2:=aa hb;clear ho hb hg)
    go_roundg d
    case measure=>omega
    case rel=>exact ⟨i+1,_,rfl,HI,⟨by have:=NK.out;omega⟩,HP,HO,HB2⟩
   have q2:(y.toList == ([110,111]:List UInt8))=false:=beq_eq_false_iff_ne.2 hb0;clear hb0
   by_cases hb1:y.toList=[119,104,97,116]
   ·
    have q3:(y.toList == ([119,104,97,116]:List UInt8))=true:=beq_iff_eq.2 hb1;have HT:=aa (show dN rs i++[wrap64 (iz+1)]=dN rs (i+1) by rw[dN,HY.out,l6,q2,q3,Bool.or_true,if_pos rfl,HI.out]);clear hb1
    go_wp2_with (at_builtin;refine qf (.tmp 32) (.tmp 35) _ _ _ HO.out HB2.out HLt.out ?_;intro v1 w4 ho hb hg;rw[HT.out]at ho;replace HP:=aa (zR HP.out HO.out (by decide) hg);replace HO:=aa ho;replace HB2:=aa hb;clear ho hb hg)
    go_roundg d
    case measure=>omega
    case rel=>exact ⟨i+1,_,rfl,HI,⟨by have:=NK.out;omega⟩,HP,HO,HB2⟩
   have q3:(y.toList == ([119,104,97,116]:List UInt8))=false:=beq_eq_false_iff_ne.2 hb1;have HT:=aa (show dN rs (i+1)=dN rs i by rw[dN,HY.out,l6,q2,q3];exact if_neg (by decide));clear hb1;go_wp2
   go_roundg d
   case measure=>omega
   case rel=>exact ⟨i+1,_,rfl,HI,⟨by have:=NK.out;omega⟩,HP,⟨by rw[HT.out];exact HO.out⟩,HB2⟩
end
theorem zD{F:aN}(hF:Good F)(h0:F.park [0]=true)(h1:F.tab firstT=true){s:ByteArray}{x:List Int × List Int × List ByteArray}(h:eZ F s=some x):x.2.2.length<=50/\F.park x.1=true/\F.tab x.2.1=true:=by
 unfold eZ at h
 split at h
 ·
  rename_i hc
  cases h;have:=oZ hF h0 h1 ((pieces s 10).take (Lib.countB s ⟨#[10]⟩));rw[List.length_take]at this;exact ⟨by omega,this.1,this.2.1⟩
 · cases h
theorem Fz(F:aN)(hF:Good F)(hI:nN F)(hp0:F.park [0]=true)(ht0:F.tab firstT=true)(hD:∀w,Calls Tryz.prog 37 #[] w (nk [0] firstT w))(s:ByteArray)(hs:s.size<=2000000)(w:World)(hG:dG w) :
  Calls Tryz.prog 10 #[.string s] w (qM (qY F s) w):=by
 have h:=uq F hF hI hp0 ht0 hD s hs w hG;unfold qY
 cases hq:eZ F s with
 | none=>exact Fy F s w h hq
 | some x=>exact (CX F s w h x.1 x.2.1 x.2.2 hq (by have:=(zD hF hp0 ht0 hq).1;omega)).mono λe w' h=>qM.of h
end Go.Proofs.YtjdlhefjgceabaaGreatDoor.Hand
