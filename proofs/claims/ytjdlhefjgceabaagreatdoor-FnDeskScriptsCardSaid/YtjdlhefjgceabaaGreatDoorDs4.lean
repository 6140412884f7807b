/- What a script's bytes come to, line by line; and the laws' comparisons where both sides are alike. Conditions: few numbers, few texts. -/
import Derived.Test.YtjdlhefjgceabaaGreatDoorDb4
import Derived.Test.YtjdlhefjgceabaaGreatDoorDw4
set_option linter.unusedVariables false
set_option linter.unusedSimpArgs false
namespace Go.Proofs.YtjdlhefjgceabaaGreatDoor.Hand
open Go.RowKit YtjdlhefjgceabaaGreatDoorW.PrintWords YtjdlhefjgceabaaGreatDoorW.PrintLast YtjdlhefjgceabaaGreatDoorW.PrintMore PAll
open Plain (cutL l5 preL gQ pieces_eq ext_list size_list)
set_option maxRecDepth 100000
set_option maxHeartbeats 4000000
theorem Ef{b c:UInt8}{r x:List UInt8}(h:b≠c):preL x (cutL c (b :: r))=preL (x++[b]) (cutL c r):=by
 rw[cutL,if_neg h]
 cases hc:cutL c r with
 | nil=>exact absurd hc (l5 c r)
 | cons p ps=>simp[preL]
theorem Ed{c:UInt8}{r x:List UInt8}:preL x (cutL c (c :: r))=x :: cutL c r:=by
 rw[cutL,if_pos rfl];simp[preL]
theorem pre_nil(c:UInt8)(r:List UInt8):preL [] (cutL c r)=cutL c r:=by
 cases hc:cutL c r with
 | nil=>exact absurd hc (l5 c r)
 | cons p ps=>rfl
theorem zk{c:UInt8}:∀ (l:List UInt8),∀x∈cutL c l,c ∉ x
 | [],x,hx=>by
  simp only[cutL,List.mem_singleton]at hx;rw[hx];simp
 | b :: r,x,hx=>by
  have ih:=zk (c:=c) r;rw[cutL]at hx
  by_cases h:b=c
  ·
   rw[if_pos h]at hx
   rcases List.mem_cons.1 hx with rfl|hx
   · simp
   · exact ih x hx
  ·
   rw[if_neg h]at hx
   cases hc:cutL c r with
   | nil=>exact absurd hc (l5 c r)
   | cons p ps =>
    rw[hc]at hx ih
    rcases List.mem_cons.1 hx with rfl|hx
    ·
     have:=ih p List.mem_cons_self;simp only[List.mem_cons,not_or];exact ⟨λe=>h e.symm,this⟩
    · exact ih x (List.mem_cons_of_mem _ hx)
theorem mk_data(x:ByteArray):gQ x.data.toList=x:=by unfold gQ;rw[Array.toArray_toList]
def m_(s:ByteArray)(i c:Nat)(x:ByteArray):Prop:=(cutL 10 s.data.toList).drop c=preL x.data.toList (cutL 10 (s.data.toList.drop i))/\x.size<=i
theorem DN(s:ByteArray):m_ s 0 0 ⟨#[]⟩:=⟨by rw[List.drop_zero,List.drop_zero];exact (pre_nil _ _).symm,Nat.le_refl 0⟩
theorem rz(s:ByteArray):(cutL 10 s.data.toList).length=Lib.countB s ⟨#[10]⟩+1:=by
 have h:=jE s 10;rw[pieces_eq,List.length_map]at h;exact h
theorem Er{s x:ByteArray}{i c:Nat}(h:m_ s i c x)(hi:i<s.data.toList.length)(hb:s.data.toList[i]≠10):m_ s (i+1) c (x++s.extract i (i+1)):=by
 have e:(s.extract i (i+1)).data.toList=[s.data.toList[i]]:=by
  rw[ext_list];show (List.drop i (List.take (i+1) s.data.toList)).toArray.toList=_;rw[List.take_succ_eq_append_getElem hi,List.drop_append_of_le_length (by rw[List.length_take];omega),List.drop_eq_nil_of_le (by rw[List.length_take];omega)];rfl
 refine ⟨?_,?_⟩
 ·
  rw[h.1,List.drop_eq_getElem_cons hi,Ef hb]
  congr 1
  rw[<- e];simp
 ·
  have:=h.2
  have h1:(s.extract i (i+1)).size=1:=by rw[<- size_list,e];rfl
  rw[ByteArray.size_append];omega
theorem Cx{s x:ByteArray}{i c:Nat}(h:m_ s i c x)(hi:i<s.data.toList.length)(hb:s.data.toList[i]=10):c<Lib.countB s ⟨#[10]⟩/\(pieces s 10)[c]?=some x/\m_ s (i+1) (c+1) ⟨#[]⟩:=by
 have h1:=h.1;rw[List.drop_eq_getElem_cons hi,hb,Ed]at h1;have hne:=l5 10 (s.data.toList.drop (i+1));have hl:=congrArg List.length h1;rw[List.length_drop,rz,List.length_cons]at hl;have hp:=List.length_pos_iff.2 hne
 have hc:c<(cutL 10 s.data.toList).length:=by rw[rz];omega
 have hd:=h1;rw[List.drop_eq_getElem_cons hc]at hd
 injection hd with hd1 hd2
 refine ⟨by omega,?_,?_,Nat.zero_le _⟩
 ·
  rw[pieces_eq,List.getElem?_map,List.getElem?_eq_getElem hc,hd1];exact congrArg some (mk_data x)
 · rw[hd2];exact (pre_nil _ _).symm
theorem Ik{s x:ByteArray}{c:Nat}(h:m_ s s.data.toList.length c x):c=Lib.countB s ⟨#[10]⟩:=by
 have h1:=congrArg List.length h.1;rw[List.drop_length,List.length_drop,rz]at h1;simp[cutL,preL]at h1;omega
theorem Eg{s x:ByteArray}(h:x∈pieces s 10):Lib.countB x ⟨#[10]⟩=0:=by
 rw[pieces_eq]at h;obtain ⟨y,hy,rfl⟩:=List.mem_map.1 h;have h1:=zk _ y hy;have e:Lib.countB (gQ y) ⟨#[10]⟩=(gQ y).data.toList.count 10:=Lib.count_one _ _;rw[e];exact List.count_eq_zero.2 h1
theorem Ae(F:aN):∀ (ls:List ByteArray) (st:List Int × List Int × List ByteArray),∃tl,(ls.foldl (jg F) st).2.2=st.2.2++tl
 | [],st=>⟨[],by simp⟩
 | x :: r,st=>by
  obtain ⟨tl,h⟩:=Ae F r (jg F st x);exact ⟨(d_ F st.1 st.2.1 x).r :: tl,by rw[List.foldl_cons,h];simp[jg]⟩
theorem JG{F:aN}(hF:Good F)(h0:F.park [0]=true)(h1:F.tab firstT=true){ls:List ByteArray}{c:Nat}{x:ByteArray}(h:ls[c]?=some x):(bP F ls).2.2[c]?=some (d_ F (bP F (ls.take c)).1 (bP F (ls.take c)).2.1 x).r/\bP F (ls.take (c+1))=jg F (bP F (ls.take c)) x:=by
 obtain ⟨hc,hx⟩:=List.getElem?_eq_some_iff.1 h
 have e:bP F (ls.take (c+1))=jg F (bP F (ls.take c)) x:=by rw[List.take_succ_eq_append_getElem hc,vK,hx]
 refine ⟨?_,e⟩;have hl:=(oZ hF h0 h1 (ls.take c)).2.2;rw[List.length_take]at hl;obtain ⟨tl,ht⟩:=Ae F (ls.drop (c+1)) (bP F (ls.take (c+1)))
 have e2:bP F ls=(ls.drop (c+1)).foldl (jg F) (bP F (ls.take (c+1))):=by
  unfold bP;rw[<- List.foldl_append,List.take_append_drop]
 rw[e2,ht,e];show ((bP F (ls.take c)).2.2++[_]++tl)[c]?=_;rw[List.append_assoc,List.getElem?_append_right (by omega)]
 have:c - (bP F (ls.take c)).2.2.length=0:=by omega
 rw[this];rfl
theorem zl(rs:List ByteArray):∀ (n m:Nat),m<=n->∃tl,dN rs n=dN rs m++tl
 | 0,m,h=>⟨[],by rw[show m=0 by omega];simp⟩
 | n+1,m,h=>by
  by_cases e:m=n+1
  · exact ⟨[],by rw[e];simp⟩
  ·
   obtain ⟨tl,ht⟩:=zl rs n m (by omega);rw[dN]
   split
   · exact ⟨tl++[((n+1:Nat):Int)],by rw[ht,List.append_assoc]⟩
   · exact ⟨tl,ht⟩
theorem Eo{rs:List ByteArray}{n c:Nat}(hc:c<n)(hb:l6 (rs.getD c ⟨#[]⟩)=true):(dN rs c).length<(dN rs n).length/\(dN rs n)[(dN rs c).length]?=some ((c+1:Nat):Int)/\(dN rs (c+1)).length=(dN rs c).length+1:=by
 obtain ⟨tl,ht⟩:=zl rs n (c+1) (by omega)
 have e:dN rs (c+1)=dN rs c++[((c+1:Nat):Int)]:=by rw[dN,if_pos hb]
 rw[ht,e];refine ⟨by simp,?_,by simp⟩;rw[List.append_assoc,List.getElem?_append_right (Nat.le_refl _),Nat.sub_self];rfl
theorem yP{w:World}{A B:Option Addr}{c d:Nat}{l:List Int}(h:aM w A c l)(k:aM w B d l)(hl:l.length<=2000000):Calls Tryz.prog 34 #[.slice A l.length c,.slice B l.length d] w λe w'=>e=.returned (.bool true)/\Below w.heap.size w w':=by
 have hh:∀ (d n:Nat),n+d=l.length->Ev (λk=>iU.l0 k l l (l.length:Int) (n:Int)) true:=by
  intro d
  induction d with
  | zero =>
   intro n hn;refine Ev.step (f:=λ_=>some true) (λk=>?_) (Plain.Ev.const rfl);rw[iU.l0,if_neg (by omega)]
  | succ d ih =>
   intro n hn;refine Ev.step (f:=λk=>iU.l0 k l l (l.length:Int) ((n+1:Nat):Int)) (λk=>?_) (ih (n+1) (by omega));rw[iU.l0,if_pos (by omega),if_pos (by omega),if_pos (by omega),if_pos (by omega),if_pos rfl,wrap64_in _ (by omega) (by omega)];rfl
 obtain ⟨n,hn⟩:=hh l.length 0 (by omega)
 exact (iU.calls n A c l B d l true w h.1 h.2 k.1 k.2 (by unfold iU.f;rw[if_pos rfl];exact hn n (Nat.le_refl _))).mono λe w' h=>⟨h.1,h.2.below⟩
theorem xk{w:World}{A B:Option Addr}{c d:Nat}{l:List ByteArray}(h0:Kd.C Kd.string w A l.length l)(h1:l.length<=c)(k0:Kd.C Kd.string w B l.length l)(k1:l.length<=d)(hl:l.length<=2000000):Calls Tryz.prog 36 #[.slice A l.length c,.slice B l.length d] w λe w'=>e=.returned (.bool true)/\Below w.heap.size w w':=by
 have hh:∀ (d n:Nat),n+d=l.length->Ev (λk=>jK.l0 k l l (l.length:Int) (n:Int)) true:=by
  intro d
  induction d with
  | zero =>
   intro n hn;refine Ev.step (f:=λ_=>some true) (λk=>?_) (Plain.Ev.const rfl);rw[jK.l0,if_neg (by omega)]
  | succ d ih =>
   intro n hn;refine Ev.step (f:=λk=>jK.l0 k l l (l.length:Int) ((n+1:Nat):Int)) (λk=>?_) (ih (n+1) (by omega));rw[jK.l0,if_pos (by omega),if_pos (by omega),if_pos (by omega),if_pos (by omega),if_pos rfl,wrap64_in _ (by omega) (by omega)];rfl
 obtain ⟨n,hn⟩:=hh l.length 0 (by omega)
 exact (jK.calls n A c l B d l true w h0 h1 k0 k1 (by unfold jK.f;rw[if_pos rfl];exact hn n (Nat.le_refl _))).mono λe w' h=>⟨h.1,h.2.below⟩
theorem FT{w:World}{A B:Option Addr}{c d:Nat}{l:List Int}(h:aM w A c l)(k:aM w B d l)(hl:l.length<=2000000):Calls Tryz.prog 59 #[.agg #[.slice A l.length c],.agg #[.slice B l.length d]] w λe w'=>e=.returned (.bool true)/\Below w.heap.size w w':=by
 have hu:=Tryz.underlying34;have HB:=ae.mk (Below.refl w.heap.size w);have H:=ae.mk h;have K:=ae.mk k;have HL:=ae.mk hl;clear h k hl;go_enter Tryz.func59,Tryz.ntmps59
 go_wp2_with (go_at_call 34;go_loud (refine (yP (H.out.below aW) (K.out.below aW) HL.out).mono ?_;rintro e w1 ⟨rfl,hb⟩;replace HB:=ae.mk (aj (show Below w.heap.size w _ from aW) hb);clear hb))
 go_ret;exact ⟨rfl,HB.out⟩
theorem EM{w:World}{A0 A1 B0 B1:Option Addr}{c0 c1 d0 d1:Nat}{l t:List Int}(h0:aM w A0 c0 l)(h1:aM w A1 c1 t)(k0:aM w B0 d0 l)(k1:aM w B1 d1 t)(hl:l.length<=2000000)(ht:t.length<=2000000):Calls Tryz.prog 30 #[.agg #[.slice A0 l.length c0,.slice A1 t.length c1],.agg #[.slice B0 l.length d0,.slice B1 t.length d1]] w λe w'=>e=.returned (.bool true)/\Below w.heap.size w w':=by
 have hu:=Tryz.underlying34;have hu36:=Tryz.underlying36
 have z1:(w.alloc (.cells #[.slice A0 l.length c0,.slice A1 t.length c1] 36)).heap.size=w.heap.size+1:=by simp
 have q0:=ae.mk (bq (bC w (.cells #[.slice A0 l.length c0,.slice A1 t.length c1] 36)) (.cells #[.slice B0 l.length d0,.slice B1 t.length d1] 36));have q1:=bC (w.alloc (.cells #[.slice A0 l.length c0,.slice A1 t.length c1] 36)) (.cells #[.slice B0 l.length d0,.slice B1 t.length d1] 36);rw[z1]at q1;have Q1:=ae.mk q1;have HB:=ae.mk (Below.refl w.heap.size w);have H:=ae.mk (And.intro (And.intro h0 h1) (And.intro k0 k1));have HL:=ae.mk (And.intro hl ht);clear h0 h1 k0 k1 hl ht z1 q1;go_enter Tryz.func30,Tryz.ntmps30
 go_wp2_with (first
  | (go_at_call 34;go_loud (refine (yP (H.out.1.1.below aW) (H.out.2.1.below aW) HL.out.1).mono ?_;rintro e w1 ⟨rfl,hb⟩;have p0:=ah (aI q0.out hb) 1;have p1:=ah (aI Q1.out hb) 1;replace HB:=ae.mk (aj (show Below w.heap.size w _ from aW) hb);clear hb))
  | (go_at_call 59;go_loud (refine (FT (H.out.1.2.below HB.out) (H.out.2.2.below HB.out) HL.out.2).mono ?_;rintro e w2 ⟨rfl,hb⟩;replace HB:=ae.mk (aj HB.out hb);clear hb)))
 go_ret;exact ⟨rfl,HB.out⟩
end Go.Proofs.YtjdlhefjgceabaaGreatDoor.Hand
namespace Go.Proofs.YtjdlhefjgceabaaGreatDoor.Hand
open Go.RowKit YtjdlhefjgceabaaGreatDoorW.PrintWords YtjdlhefjgceabaaGreatDoorW.PrintLast YtjdlhefjgceabaaGreatDoorW.PrintMore PAll
set_option maxRecDepth 100000
set_option maxHeartbeats 40000000
theorem ED{s x:ByteArray}{i c:Nat}(h:m_ s i c x):c<=Lib.countB s ⟨#[10]⟩:=by
 have h1:=congrArg List.length h.1;rw[List.length_drop,rz]at h1
 have h2:0<(Plain.preL x.data.toList (Plain.cutL 10 (s.data.toList.drop i))).length:=by
  cases hc:Plain.cutL 10 (s.data.toList.drop i) <;> simp[Plain.preL]
 omega
structure zz (s:ByteArray) (b:Bool) (rs:List ByteArray) (l t fl:List Int):Prop where
 impl:∀w,dG w->Calls Tryz.prog 15 #[.string s] w λe w'=>∃v,e=.returned (.tuple #[v,.bool b])/\Kd.R Kd.string 9 w' w.heap.size (λ_=>True) v rs/\Below w.heap.size w w'
 spec:∀w,Calls Tryz.prog 14 #[.string s] w λe w'=>∃v,e=.returned (.tuple #[v,.bool b])/\Kd.R Kd.string 9 w' w.heap.size (λ_=>True) v rs/\Below w.heap.size w w'
 desk:∀w,dG w->Calls Tryz.prog 20 #[.string s] w λe w'=>∃v0 v1,e=.returned (.tuple #[.agg #[v0,v1],.bool b])/\Kd.R (Kd.int .i64) 3 w' w.heap.size (λ_=>True) v0 l/\Kd.R (Kd.int .i64) 3 w' w.heap.size (λ_=>True) v1 t/\gZ v0 v1/\Below w.heap.size w w'
 fail:∀w,dG w->Calls Tryz.prog 10 #[.string s] w λe w'=>∃v,e=.returned (.tuple #[v,.bool b])/\Kd.R (Kd.int .i64) 3 w' w.heap.size (λ_=>True) v fl/\Below w.heap.size w w'
 few:rs.length<=59
theorem Ju(s:ByteArray)(hs:s.size<=200000) :
  (eZ Plain.dom s=none/\zz s false [] [] [] [])\/(s.size<=3000/\zz s true (bP Plain.dom ((pieces s 10).take (Lib.countB s ⟨#[10]⟩))).2.2 (bP Plain.dom ((pieces s 10).take (Lib.countB s ⟨#[10]⟩))).1 (bP Plain.dom ((pieces s 10).take (Lib.countB s ⟨#[10]⟩))).2.1 (dN (bP Plain.dom ((pieces s 10).take (Lib.countB s ⟨#[10]⟩))).2.2 (bP Plain.dom ((pieces s 10).take (Lib.countB s ⟨#[10]⟩))).2.2.length)):=by
 have hs2:s.size<=2000000:=by omega
 have h1:=λw hG=>EC Plain.dom Plain.dom_good qX Plain.dom_park0 Plain.dom_first rO s hs2 w hG;have h2:=λw=>He Plain.dom s w (Eb Plain.dom Plain.dom_good Plain.dom_pos zJ Plain.dom_park0 Plain.dom_first EO s hs2 w)
 have h3:=λ(w:World) (hG:dG w)=>CG Plain.dom s w λw1 hb=>⟨zU Plain.dom s hs2 w1 (hG.below hb),λy hq=>by have h:=uq Plain.dom Plain.dom_good qX Plain.dom_park0 Plain.dom_first rO s hs2 w1 (hG.below hb);rwa [hq]at h⟩
 have h4:=λw hG=>Fz Plain.dom Plain.dom_good qX Plain.dom_park0 Plain.dom_first rO s hs2 w hG
 cases hq:eZ Plain.dom s with
 | none =>
  refine .inl ⟨rfl,?_⟩;unfold nK at h1 h2;unfold sI at h3;unfold qY at h4;rw[hq]at h1 h2 h3 h4;exact ⟨h1,h2,h3,h4,Nat.zero_le _⟩
 | some y =>
  have hl:=(zD Plain.dom_good Plain.dom_park0 Plain.dom_first hq).1;unfold nK at h1 h2;unfold sI at h3;unfold qY at h4;rw[hq]at h1 h2 h3 h4;unfold eZ at hq
  split at hq
  ·
   rename_i hc
   cases hq;exact .inr ⟨hc.1,h1,h2,h3,h4,by omega⟩
  · cases hq
theorem Iz(code more:List Int)(A:Option Addr)(c:Nat)(A':Option Addr)(c':Nat)(w:World)(hr0:Kd.C (Kd.int .u8) w A code.length code)(hc0:code.length<=c)(hr1:Kd.C (Kd.int .u8) w A' more.length more)(hc1:more.length<=c')(hby:Plain.Bytes code)(hG:dG w) :
  Calls Tryz.prog 8 #[.slice A code.length c,.slice A' more.length c'] w λe w'=>e=.returned (.bool true)/\Below w.heap.size w w':=by
 obtain ⟨b,hb⟩:∃b,kT.f code more=some b:=by unfold kT.f;split <;> exact ⟨_,rfl⟩
 have HBIG:=aa (kT.calls A c code A' c' more b w hr0 hc0 hr1 hc1 hb);have HDR:=aa λW (hW:Below w.heap.size w W)=>Fp zJ code A c W hby (Kd.C_below hr0 hW);have HG:=aa hG;clear hr0 hc0 hr1 hc1 hby hG hb
 cases b with
 | true =>
  go_enter Tryz.func8,Tryz.ntmps8
  go_wp2_with (go_at_call 28;go_loud (refine HBIG.out.mono ?_;rintro e w1 ⟨rfl,hd⟩;have HB:=aa hd.below;clear hd))
  go_ret;exact ⟨rfl,HB.out⟩
 | false =>
 go_enter Tryz.func8,Tryz.ntmps8
 go_wp2_with (first
  | (go_at_call 28;go_loud (refine HBIG.out.mono ?_;rintro e w1 ⟨rfl,hd⟩;have HB:=aa hd.below;clear hd))
  | (go_at_call 35;go_loud (refine (HDR.out _ HB.out).mono ?_;rintro e w2 ⟨s,rfl,hs,hb⟩;replace HB:=aa (aj HB.out hb);have HZ:=aa hs;clear hs hb)))
 obtain ⟨n,hn⟩:∃n,n=Lib.countB s ⟨#[10]⟩:=⟨_,rfl⟩
 obtain ⟨ls,hls⟩:∃ls,ls=(pieces s 10).take n:=⟨_,rfl⟩
 have hsc:=Ju s HZ.out;rw[<- hn,<- hls]at hsc;have HN:=aa hn;have HLS:=aa hls;clear hn hls HBIG HDR
 rcases hsc with ⟨_,hsc⟩|⟨hs3,hsc⟩
 ·
  have HSC:=aa hsc;clear hsc
  go_wp2_with (go_at_call 15;go_loud (refine (HSC.out.impl _ (HG.out.below HB.out)).mono ?_;rintro e w3 ⟨v,rfl,hv,hb⟩;obtain ⟨A0,c0,rfl⟩:=Kd.R_slice hv;have HV0:=aa hv;replace HB:=aa (aj HB.out hb);clear hv hb))
  go_wp2_with (go_at_call 14;go_loud (refine (HSC.out.spec _).mono ?_;rintro e w4 ⟨v,rfl,hv,hb⟩;obtain ⟨A1,c1,rfl⟩:=Kd.R_slice hv;have HV1:=aa hv;replace HV0:=aa (Kd.R_below HV0.out hb);replace HB:=aa (aj HB.out hb);clear hv hb))
  go_wp2_with (go_at_call 20;go_loud (refine (HSC.out.desk _ (HG.out.below HB.out)).mono ?_;rintro e w5 ⟨v0,v1,rfl,r0,r1,hne,hb⟩;obtain ⟨B0,d0,rfl⟩:=Kd.R_slice r0;obtain ⟨B1,d1,rfl⟩:=Kd.R_slice r1;have hba:=aG hb (.cells #[.slice B0 0 d0,.slice B1 0 d1] 36);replace HV0:=aa (Kd.R_below HV0.out hba);replace HV1:=aa (Kd.R_below HV1.out hba);replace HB:=aa (aj HB.out hba);clear r0 r1 hne hb hba))
  go_wp2_with (go_at_call 10;go_loud (refine (HSC.out.fail _ (HG.out.below HB.out)).mono ?_;rintro e w6 ⟨v,rfl,hv,hb⟩;obtain ⟨F0,f0,rfl⟩:=Kd.R_slice hv;replace HV0:=aa (Kd.R_below HV0.out hb);replace HV1:=aa (Kd.R_below HV1.out hb);replace HB:=aa (aj HB.out hb);clear hv hb))
  go_wp2_with (go_at_call 36;go_loud (refine (xk (Kd.R_reads' HV0.out).2.2 (Kd.R_reads' HV0.out).2.1 (Kd.R_reads' HV1.out).2.2 (Kd.R_reads' HV1.out).2.1 (Nat.zero_le _)).mono ?_;rintro e w7 ⟨rfl,hb⟩;replace HB:=aa (aj HB.out hb);clear hb))
  go_ret;exact ⟨rfl,HB.out⟩
 obtain ⟨yl,hyl⟩:∃x,x=(bP Plain.dom ls).1:=⟨_,rfl⟩
 obtain ⟨yt,hyt⟩:∃x,x=(bP Plain.dom ls).2.1:=⟨_,rfl⟩
 obtain ⟨rs,hrs⟩:∃x,x=(bP Plain.dom ls).2.2:=⟨_,rfl⟩
 have hlsl:ls.length=n:=by rw[HLS.out,List.length_take,jE,<- HN.out];omega
 have hok:=oZ Plain.dom_good Plain.dom_park0 Plain.dom_first ls;rw[<- hyl,<- hyt,<- hrs,hlsl]at hok;rw[<- hyl,<- hyt,<- hrs,hok.2.2]at hsc
 obtain ⟨fl,hfl⟩:∃x,x=dN rs n:=⟨_,rfl⟩
 rw[<- hfl]at hsc;have HSC:=aa hsc;have HRL:=aa hok.2.2;have HYL:=aa hyl;have HYT:=aa hyt;have HRS:=aa hrs;have HFL:=aa hfl;have HS3:=aa hs3;have HSMALL:=aa (show yl.length<=2000000/\yt.length<=2000000 from ⟨by have:=(Plain.dom_good.park _ hok.1).1;omega,by have:=(Plain.dom_good.tab _ hok.2.1).1;omega⟩);have HLL:=aa hlsl;clear hsc hyl hyt hrs hfl hs3 hok hlsl
 go_wp2_with (go_at_call 15;go_loud (refine (HSC.out.impl _ (HG.out.below HB.out)).mono ?_;rintro e w3 ⟨v,rfl,hv,hb⟩;obtain ⟨A0,c0,rfl⟩:=Kd.R_slice hv;have HV0:=aa hv;replace HB:=aa (aj HB.out hb);clear hv hb))
 go_wp2_with (go_at_call 14;go_loud (refine (HSC.out.spec _).mono ?_;rintro e w4 ⟨v,rfl,hv,hb⟩;obtain ⟨A1,c1,rfl⟩:=Kd.R_slice hv;have HV1:=aa hv;replace HV0:=aa (Kd.R_below HV0.out hb);replace HB:=aa (aj HB.out hb);clear hv hb))
 go_wp2_with (go_at_call 20;go_loud (refine (HSC.out.desk _ (HG.out.below HB.out)).mono ?_;rintro e w5 ⟨v0,v1,rfl,r0,r1,hne,hb⟩;obtain ⟨B0,d0,rfl⟩:=Kd.R_slice r0;obtain ⟨B1,d1,rfl⟩:=Kd.R_slice r1;have HDV:=aa (jU.made r0 r1 hne);have hba:=aG hb (.cells #[.slice B0 yl.length d0,.slice B1 yt.length d1] 36);replace HV0:=aa (Kd.R_below HV0.out hba);replace HV1:=aa (Kd.R_below HV1.out hba);replace HB:=aa (aj HB.out hba);clear r0 r1 hne hb hba))
 go_wp2_with (go_at_call 10;go_loud (refine (HSC.out.fail _ (HG.out.below HB.out)).mono ?_;rintro e w6 ⟨v,rfl,hv,hb⟩;obtain ⟨F0,f0,rfl⟩:=Kd.R_slice hv;have HFV:=aa hv;replace HV0:=aa (Kd.R_below HV0.out hb);replace HV1:=aa (Kd.R_below HV1.out hb);replace HDV:=aa (HDV.out.below hb);replace HB:=aa (aj HB.out hb);clear hv hb))
 go_wp2_with (go_at_call 36;go_loud (refine (xk (Kd.R_reads' HV0.out).2.2 (Kd.R_reads' HV0.out).2.1 (Kd.R_reads' HV1.out).2.2 (Kd.R_reads' HV1.out).2.1 (by have:=HSC.out.few;omega)).mono ?_;rintro e w7 ⟨rfl,hb⟩;replace HV0:=aa (Kd.R_below HV0.out hb);replace HFV:=aa (Kd.R_below HFV.out hb);replace HDV:=aa (HDV.out.below hb);replace HB:=aa (aj HB.out hb);clear hb HV1))
 go_wp2_with (go_at_call 37;go_loud (refine (rO _).mono ?_;rintro e w8 ⟨v0,v1,rfl,r0,r1,hne,hb⟩;obtain ⟨E0,e0,rfl⟩:=Kd.R_slice r0;obtain ⟨E1,e1,rfl⟩:=Kd.R_slice r1;have HD:=aa (show dW (w8.alloc (.cells #[.slice E0 [(0:Int)].length e0,.slice E1 firstT.length e1] 36)) w7.heap.size w8.heap.size [0] firstT from ⟨hb.size,_,_,bC _ _,Kd.R_alloc r0 _,Kd.R_alloc r1 _,hne⟩);have HBW:=aa (aG hb (.cells #[.slice E0 [(0:Int)].length e0,.slice E1 firstT.length e1] 36));clear r0 r1 hne hb))
 obtain ⟨W0,hW0⟩:∃W,W=w8.alloc (.cells #[.slice E0 1 e0,.slice E1 firstT.length e1] 36):=⟨_,rfl⟩
 replace HD:=aa (show dW W0 w7.heap.size w8.heap.size [0] firstT by rw[hW0];exact HD.out);replace HBW:=aa (show Below w7.heap.size w7 W0 by rw[hW0];exact HBW.out);rw[<- hW0];clear hW0
 go_loopg [15,16,17,18] s.data.toList.length (λkq v15 v16 v17 v18 w'=>∃ (i c:Nat) (x:ByteArray) (iz cz bz:Int),v15=.string x/\v16=.int .i64 cz/\v17=.int .i64 bz/\v18=.int .i64 iz/\ae (iz=(i:Int))/\ae (cz=(c:Int))/\ae (bz=((dN rs c).length:Int))/\ae (i+kq=s.data.toList.length)/\ae (m_ s i c x)/\ae (dW w' w7.heap.size w8.heap.size (bP Plain.dom (ls.take c)).1 (bP Plain.dom (ls.take c)).2.1)/\ae (Below w7.heap.size w7 w'))
 case atStart=>exact ⟨0,0,⟨#[]⟩,0,0,0,rfl,rfl,rfl,rfl,⟨rfl⟩,⟨rfl⟩,⟨rfl⟩,⟨by omega⟩,⟨DN s⟩,⟨by rw[List.take_zero];exact HD.out⟩,HBW⟩
 case round =>
  clear HD HBW;obtain ⟨i,c,x,iz,cz,bz,rfl,rfl,rfl,rfl,NI,NC,NB,NK,HBIT,HD,HBW⟩:=hrel;have hcn:=ED HBIT.out;rw[<- HN.out]at hcn;have HCN:=aa hcn;have HSL:=aa (Plain.size_list s);clear hcn
  cases gk with
  | zero =>
   have hi:i=s.data.toList.length:=by have:=NK.out;omega
   subst hi
   have hc:c=n:=by rw[HN.out];exact Ik HBIT.out
   subst hc;have q1:decide (iz<(s.size:Int))=false:=decide_eq_false (by have:=NI.out;have:=HSL.out;omega);have q2:(cz == (rs.length:Int))=true:=beq_iff_eq.2 (by rw[NC.out,HRL.out]);have q3:(bz == (fl.length:Int))=true:=beq_iff_eq.2 (by rw[NB.out,HFL.out]);have hD:=HD.out;rw[List.take_of_length_le (by have:=HLL.out;omega),<- HYL.out,<- HYT.out]at hD;obtain ⟨G0,g0,G1,g1,hL,hT,p0,p1⟩:=hD.open_;have HDC:=aa (HDV.out.below HBW.out);have p2:=HDC.out.k0;have p3:=HDC.out.k1;clear hD
   go_wp2_with (go_at_call 30;go_loud (refine (EM hL.out hT.out HDC.out.s0 HDC.out.s1 HSMALL.out.1 HSMALL.out.2).mono ?_;rintro e w9 ⟨rfl,hb⟩;replace HB:=aa (aj HB.out (aj HBW.out hb));clear hb))
   go_ret;exact ⟨rfl,HB.out⟩
  | succ d =>
   have hil:i<s.data.toList.length:=by have:=NK.out;omega
   have hi0:0<=iz:=by have:=NI.out;omega
   have hin:iz<(s.size:Int):=by have:=NI.out;have:=HSL.out;omega
   have q1:decide (iz<(s.size:Int))=true:=decide_eq_true hin;have hbt:=Plain.bt_get s i (by have:=HSL.out;omega);rw[<- NI.out]at hbt
   have hsb:∀h:iz.toNat<s.size,(((s[iz.toNat]'h):UInt8).toNat:Int)=bt s iz:=λh=>by unfold bt;rw[dif_pos h]
   have HI1:=aa (show wrap64 (iz+1)=((i+1:Nat):Int) by rw[NI.out];have:=HSL.out;have:=HS3.out;rw[wrap64_in _ (by omega) (by omega)];omega)
   by_cases hb10:s.data.toList[i]=10
   ·
    obtain ⟨hcn,hpc,hbit⟩:=Cx HBIT.out hil hb10;rw[<- HN.out]at hcn;have hx:=List.mem_of_getElem? hpc
    have hg:ls[c]?=some x:=by rw[HLS.out,List.getElem?_take,if_pos hcn];exact hpc
    obtain ⟨hgr,hst⟩:=JG Plain.dom_good Plain.dom_park0 Plain.dom_first hg;rw[<- HRS.out]at hgr;have HRX:=aa hgr;have HST:=aa hst;have HBIT2:=aa hbit;have hokc:=oZ Plain.dom_good Plain.dom_park0 Plain.dom_first (ls.take c)
    have hx3:x.size<=3000:=by have:=HBIT.out.2;have:=HS3.out;have:=HSL.out;omega
    have hlp:qV Plain.dom (bP Plain.dom (ls.take c)).1 (bP Plain.dom (ls.take c)).2.1 x=some (d_ Plain.dom (bP Plain.dom (ls.take c)).1 (bP Plain.dom (ls.take c)).2.1 x):=by
     unfold qV;rw[if_pos ⟨hokc.1,hokc.2.1,hx3,Eg hx⟩]
    obtain ⟨lc,hlc⟩:∃y,y=(bP Plain.dom (ls.take c)).1:=⟨_,rfl⟩
    obtain ⟨tc,htc⟩:∃y,y=(bP Plain.dom (ls.take c)).2.1:=⟨_,rfl⟩
    rw[<- hlc,<- htc]at hlp hokc HRX;have hD:=HD.out;rw[<- hlc,<- htc]at hD
    obtain ⟨ex,hex⟩:∃y,y=d_ Plain.dom lc tc x:=⟨_,rfl⟩
    rw[<- hex]at hlp HRX
    have HLN:=aa λ(W:World) (A0 A1:Option Addr) (c0 c1:Nat) (L0:aM W A0 c0 lc) (L1:aM W A1 c1 tc) (hG:dG W)=>(show Calls Tryz.prog 27 #[.agg #[.slice A0 lc.length c0,.slice A1 tc.length c1],.string x] W (qR (some ex) W) from hlp▸AV lc tc x (by have:=(Plain.dom_good.tab _ hokc.2.1).1;omega) (by omega) W A0 A1 c0 c1 L0 L1 hG)
    have HNX:=aa (show (bP Plain.dom (ls.take (c+1))).1=ex.l/\(bP Plain.dom (ls.take (c+1))).2.1=ex.t by rw[HST.out,hex,hlc,htc];exact ⟨rfl,rfl⟩)
    obtain ⟨r,hr⟩:∃y,y=ex.r:=⟨_,rfl⟩
    rw[<- hr]at HRX;have HR:=aa hr;have hblk:=hD.desk;obtain ⟨u0,u1,hblk⟩:=hblk;have HBLK:=aa hblk;have HLO:=aa hD.lo;obtain ⟨G0,g0,G1,g1,hL,hT,p0,p1⟩:=hD.open_;obtain ⟨hcr,hcr2⟩:=List.getElem?_eq_some_iff.1 HRX.out;obtain ⟨ad0,e0,hx0⟩:=wJ (Kd.R_reads' (Kd.R_below HV0.out HBW.out)).2.2 c hcr;cases e0;rw[hcr2,show c=cz.toNat by rw[NC.out];simp]at hx0;have HX0:=aa hx0
    have q2:∀h:iz.toNat<s.size,((((s[iz.toNat]'h):UInt8).toNat:Int) != 10)=false:=λh=>by rw[hsb h,hbt,hb10];rfl
    have q3:decide (cz >= (rs.length:Int))=false:=decide_eq_false (by rw[NC.out];omega);have HC1:=aa (show wrap64 (cz+1)=((c+1:Nat):Int) by rw[NC.out];have:=HRL.out;have:=HSC.out.few;rw[wrap64_in _ (by omega) (by omega)];omega)
    have hq:((r.toList == ([110,111]:List UInt8))=true/\l6 r=true)\/((r.toList == ([110,111]:List UInt8))=false/\(r.toList == ([119,104,97,116]:List UInt8))=true/\l6 r=true)\/((r.toList == ([110,111]:List UInt8))=false/\(r.toList == ([119,104,97,116]:List UInt8))=false/\l6 r=false):=by
     unfold l6
     cases h1:(r.toList == ([110,111]:List UInt8)) <;> cases h2:(r.toList == ([119,104,97,116]:List UInt8)) <;> simp
    have HGD:=aa (show rs.getD c ⟨#[]⟩=r by rw[List.getD_eq_getElem?_getD,HRX.out];rfl)
    have hcz0:0<=cz:=by rw[NC.out];omega
    have hczn:cz<(rs.length:Int):=by rw[NC.out];omega
    have HCC:=aa (show c<n from hcn);replace hi0:=eq_true hi0;replace hin:=eq_true hin;replace hcz0:=eq_true hcz0;replace hczn:=eq_true hczn;clear hgr hst hbit hokc hx3 hlp hlc htc hD hex hr hblk hcr hcr2 hx0 hx hg hpc hcn hbt hb10 hil hsb
    rcases hq with ⟨q4,hbad⟩|⟨q4,q5,hbad⟩|⟨q4,q5,hbad⟩
    rotate_left
    rotate_left
    ·
     have HB1:=aa (show ((dN rs (c+1)).length:Int)=((dN rs c).length:Int) by rw[dN,HGD.out,if_neg (by rw[hbad];decide)]);clear hbad
     go_wp2_with (go_at_call 27;go_loud (refine (HLN.out _ _ _ _ _ hL.out hT.out (HG.out.below (aj HB.out HBW.out))).mono ?_;rintro e w9 ⟨v0,v1,rfl,r0,r1,hne,hb⟩;dsimp only[Option.getD,Option.isSome]at r0 r1 ⊢;rw[<- HR.out];obtain ⟨M0,m0,rfl⟩:=Kd.R_slice r0;obtain ⟨M1,m1,rfl⟩:=Kd.R_slice r1;have hk:=bq (aI HBLK.out hb) (.cells #[.slice M0 ex.l.length m0,.slice M1 ex.t.length m1] 36);have hy0:=ma (bR HX0.out hb) (.cells #[.slice M0 ex.l.length m0,.slice M1 ex.t.length m1] 36);have hn:=bC w9 (.cells #[.slice M0 ex.l.length m0,.slice M1 ex.t.length m1] 36);have p4:=ah hn 0;have p5:=ah hn 1;have p6:=ah hk 0;have p7:=ah hk 1;have f0:=au hk 0;have f1:=au hk 1;have HD2:=aa (show dW (((w9.alloc (.cells #[.slice M0 ex.l.length m0,.slice M1 ex.t.length m1] 36)).setCell ⟨w8.heap.size,0,none⟩ (.slice M0 ex.l.length m0)).setCell ⟨w8.heap.size,1,none⟩ (.slice M1 ex.t.length m1)) w7.heap.size w8.heap.size ex.l ex.t from ⟨HLO.out,_,_,dV (dV hk 0 _ rfl) 1 _ rfl,set2 hk (Kd.R_alloc (Kd.R_lower r0 (ay HBW.out)) _) (by decide),set2 hk (Kd.R_alloc (Kd.R_lower r1 (ay HBW.out)) _) (by decide),hne⟩);have HB2:=aa (bf (g:=w8.heap.size) (j:=1) (v:=.slice M1 ex.t.length m1) (bf (g:=w8.heap.size) (j:=0) (v:=.slice M0 ex.l.length m0) (aG (aj HBW.out hb) (.cells #[.slice M0 ex.l.length m0,.slice M1 ex.t.length m1] 36)) HLO.out) HLO.out);clear r0 r1 hne hb hk hn))
     go_roundg d
     case measure=>omega
     case rel=>exact ⟨i+1,c+1,⟨#[]⟩,_,_,_,rfl,rfl,rfl,rfl,HI1,HC1,⟨by rw[HB1.out];exact NB.out⟩,⟨by have:=NK.out;omega⟩,HBIT2,⟨by rw[HNX.out.1,HNX.out.2];exact HD2.out⟩,HB2⟩
    all_goals
     have hft:=Eo (rs:=rs) HCC.out (by rw[HGD.out];exact hbad);rw[<- HFL.out,<- Int.toNat_natCast (dN rs c).length,<- NB.out]at hft
     have hz0:0<=bz:=by rw[NB.out];omega
     have hz1:bz<(fl.length:Int):=by have:=hft.1;omega
     obtain ⟨ad1,e1,hx1⟩:=Kd.at_int (Kd.R_reads' (Kd.R_below HFV.out HBW.out)).2.2 bz hz0 hz1;cases e1;rw[show rd fl bz=wrap64 (cz+1) by rw[HC1.out];unfold rd;rw[List.getD_eq_getElem?_getD,hft.2.1];rfl]at hx1;have HX1:=aa hx1;have q6:decide (bz >= (fl.length:Int))=false:=decide_eq_false (by omega);have HB1:=aa (show wrap64 (bz+1)=((dN rs (c+1)).length:Int) by have h1:=uA rs c;have h2:=HCC.out;have h3:=HRL.out;have h4:=HSC.out.few;have h5:=hft.2.2;have h6:=NB.out;rw[wrap64_in _ (by omega) (by omega)];omega);replace hz0:=eq_true hz0;replace hz1:=eq_true hz1;clear hbad hft hx1
     go_wp2_with (go_at_call 27;go_loud (refine (HLN.out _ _ _ _ _ hL.out hT.out (HG.out.below (aj HB.out HBW.out))).mono ?_;rintro e w9 ⟨v0,v1,rfl,r0,r1,hne,hb⟩;dsimp only[Option.getD,Option.isSome]at r0 r1 ⊢;rw[<- HR.out];obtain ⟨M0,m0,rfl⟩:=Kd.R_slice r0;obtain ⟨M1,m1,rfl⟩:=Kd.R_slice r1;have hk:=bq (aI HBLK.out hb) (.cells #[.slice M0 ex.l.length m0,.slice M1 ex.t.length m1] 36);have hy0:=ma (bR HX0.out hb) (.cells #[.slice M0 ex.l.length m0,.slice M1 ex.t.length m1] 36);have hy1:=ma (bR HX1.out hb) (.cells #[.slice M0 ex.l.length m0,.slice M1 ex.t.length m1] 36);have hn:=bC w9 (.cells #[.slice M0 ex.l.length m0,.slice M1 ex.t.length m1] 36);have p4:=ah hn 0;have p5:=ah hn 1;have p6:=ah hk 0;have p7:=ah hk 1;have f0:=au hk 0;have f1:=au hk 1;have HD2:=aa (show dW (((w9.alloc (.cells #[.slice M0 ex.l.length m0,.slice M1 ex.t.length m1] 36)).setCell ⟨w8.heap.size,0,none⟩ (.slice M0 ex.l.length m0)).setCell ⟨w8.heap.size,1,none⟩ (.slice M1 ex.t.length m1)) w7.heap.size w8.heap.size ex.l ex.t from ⟨HLO.out,_,_,dV (dV hk 0 _ rfl) 1 _ rfl,set2 hk (Kd.R_alloc (Kd.R_lower r0 (ay HBW.out)) _) (by decide),set2 hk (Kd.R_alloc (Kd.R_lower r1 (ay HBW.out)) _) (by decide),hne⟩);have HB2:=aa (bf (g:=w8.heap.size) (j:=1) (v:=.slice M1 ex.t.length m1) (bf (g:=w8.heap.size) (j:=0) (v:=.slice M0 ex.l.length m0) (aG (aj HBW.out hb) (.cells #[.slice M0 ex.l.length m0,.slice M1 ex.t.length m1] 36)) HLO.out) HLO.out);clear r0 r1 hne hb hk hn))
     go_roundg d
     case measure=>omega
     case rel=>exact ⟨i+1,c+1,⟨#[]⟩,_,_,_,rfl,rfl,rfl,rfl,HI1,HC1,HB1,⟨by have:=NK.out;omega⟩,HBIT2,⟨by rw[HNX.out.1,HNX.out.2];exact HD2.out⟩,HB2⟩
   ·
    have hbit:=Er HBIT.out hil hb10
    have hex:(s.extract i (i+1)).size=1:=by rw[ByteArray.size_extract];have:=HSL.out;omega
    have HE:=aa (show s.extract iz.toNat (wrap64 (iz+1)).toNat=s.extract i (i+1) by rw[HI1.out,NI.out];simp);have HBIT2:=aa hbit;have q2:∀h:iz.toNat<s.size,((((s[iz.toNat]'h):UInt8).toNat:Int) != 10)=true:=λh=>bne_iff_ne.2 (by rw[hsb h,hbt];intro e;exact hb10 (UInt8.toNat_inj.1 (by simpa using Int.ofNat.inj e)))
    have q3:x.size+(s.extract iz.toNat (wrap64 (iz+1)).toNat).size<=9223372036854775807:=by rw[HE.out,hex];have:=HBIT.out.2;have:=HS3.out;have:=HSL.out;omega
    have q4:(iz<=wrap64 (iz+1))=True:=eq_true (by rw[HI1.out,NI.out];omega);have q5:(wrap64 (iz+1)<=(s.size:Int))=True:=eq_true (by rw[HI1.out];have:=HSL.out;omega);have q6:(0<=wrap64 (iz+1))=True:=eq_true (by rw[HI1.out];omega);replace hi0:=eq_true hi0;replace hin:=eq_true hin;clear hbit hex hbt hb10 hil hsb;go_wp2
    go_roundg d
    case measure=>omega
    case rel=>exact ⟨i+1,c,_,_,cz,bz,rfl,rfl,rfl,rfl,HI1,NC,NB,⟨by have:=NK.out;omega⟩,⟨by rw[HE.out];exact HBIT2.out⟩,HD,HBW⟩
end Go.Proofs.YtjdlhefjgceabaaGreatDoor.Hand
