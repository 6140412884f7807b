/- The reference's reading of a line. Conditions: a line of at most 3000 bytes. -/
import Derived.Test.YtjdlhefjgceabaaGreatDoorCb4
import Derived.BigRegion
set_option linter.unusedVariables false
set_option linter.unusedSimpArgs false
namespace Go.Proofs.YtjdlhefjgceabaaGreatDoor.Hand
open Go.RowKit YtjdlhefjgceabaaGreatDoorW.PrintWords YtjdlhefjgceabaaGreatDoorW.PrintLast YtjdlhefjgceabaaGreatDoorW.PrintMore
set_option maxRecDepth 100000
set_option maxHeartbeats 1000000
def gI(s:ByteArray):Option (ByteArray × List Int × List Int):=match pieces s 32 with
 | [a]=>if (bV a).data.toList=[] then some (a,[],[])else none
 | [a,b]=>if (bV a).data.toList=[110] then (bT b).map λk=>(a,[],[k])else if (bV a).data.toList=[108] then (told b).map λm=>(a,m,[])else none
 | [a,b,c]=>if (bV a).data.toList=[110,110] then match bT b,bT c with
  | some k,some r=>some (a,[],[k,r])
  | _,_=>none
  else none
 | _=>none
def lW(A:Option Addr)(n0 c:Nat)(A':Option Addr)(n1 c':Nat)(o:Option (ByteArray × List Int × List Int))(w:World)(e:Ending)(w':World):Prop :=
 ∃x v2 v3 m n,e=.returned (.tuple #[.string x,.agg #[.slice A n0 c,.slice A' n1 c',v2,v3],.bool o.isSome])/\Kd.R (Kd.int .i64) 3 w' w.heap.size (λ_=>True) v2 m/\Kd.R (Kd.int .i64) 3 w' w.heap.size (λ_=>True) v3 n/\(∀p,o=some p->(x,m,n)=p)/\Below w.heap.size w w'
def qo(A:Option Addr)(n0 c:Nat)(A':Option Addr)(n1 c':Nat)(ps:List ByteArray)(n:Nat)(w:World)(e:Ending)(w':World):Prop:=∃gb cap cur,e=.returned (.slice (some ⟨gb,0,none⟩) n cap)/\n<=cap/\w.heap.size+3<=gb/\w'.heap[gb]?=some (.cells cur 9 (0,0))/\(∀ (i:Nat) x,ps[i]?=some x->cur[i]?=some (.string x))/\w'.heap[w.heap.size+1]?=some (.cells #[.slice none 0 0,.slice none 0 0,.slice none 0 0,.slice none 0 0] 87 (0,0))/\w'.heap[w.heap.size+1+1]?=some (.cells #[.slice A n0 c,.slice A' n1 c',.slice none 0 0,.slice none 0 0] 87 (0,0))/\Below w.heap.size w w'
theorem yZ{w:World}{base:Nat}{v:Value}{xs:List ByteArray}(h:Kd.R Kd.string 9 w base (λ_=>True) v xs)(h0:0<xs.length):∃gb cap,v=.slice (some ⟨gb,0,none⟩) xs.length cap/\xs.length<=cap/\base<=gb/\∃cur:Array Value,w.heap[gb]?=some (.cells cur 9 (0,0))/\∀ (i:Nat) x,xs[i]?=some x->cur[i]?=some (.string x):=by
 obtain ⟨_,h2⟩:=Kd.own_of_R h
 rcases h2 with ⟨rfl,h3⟩|⟨g,cap,cur,rfl,hb,hh,h3,h4,h5,h6⟩
 · omega
 ·
  refine ⟨g,cap,rfl,h3,hb,cur,hh,λj x hj=>?_⟩
  have e1:cur[j]?=some (Value.string x):=by
   have e2:(cur.toList.take (xs.length * 1))[j]?=(encs Value.string xs)[j]?:=by rw[h6]
   have hjl:j<xs.length:=(List.getElem?_eq_some_iff.1 hj).1;rw[List.getElem?_take,if_pos (by omega)]at e2;simpa [encs,hj] using e2
  exact e1
theorem qy{α:Type}{d:Kd α}{e g t base:Nat}{ok:Nat->Prop}{W:World}{v:Value}{xs:List α}{cells:Array Value}(hb:W.heap[g]?=some (.cells cells t (0,0)))(h:d.R e W base ok v xs)(ht:∀q,q∈e :: d.E->q≠t)(a0 a1 a2 a3:Value):d.R e ((((W.setCell ⟨g,0,none⟩ a0).setCell ⟨g,1,none⟩ a1).setCell ⟨g,2,none⟩ a2).setCell ⟨g,3,none⟩ a3).drew base ok v xs :=
 Kd.R_drew (Kd.R_set (Kd.R_set (Kd.R_set (Kd.R_set h hb ht 0 a0) (iq hb 0 a0) ht 1 a1) (iq (iq hb 0 a0) 1 a1) ht 2 a2) (iq (iq (iq hb 0 a0) 1 a1) 2 a2) ht 3 a3)
theorem nW{w W:World}{g:Nat}(h:Below w.heap.size w W)(hg:w.heap.size<=g)(a0 a1 a2 a3:Value):Below w.heap.size w ((((W.setCell ⟨g,0,none⟩ a0).setCell ⟨g,1,none⟩ a1).setCell ⟨g,2,none⟩ a2).setCell ⟨g,3,none⟩ a3).drew :=
 dw (bf (bf (bf (bf h hg) hg) hg) hg)
section
variable {F:aN} (hS:iK F) (A:Option Addr) (n0 c:Nat) (A':Option Addr) (n1 c':Nat) (s:ByteArray) (hs:s.size<=3000) (w:World)
include hS hs
theorem qO:Calls Tryz.prog 48 #[.string s,.int .u8 32] (((w.alloc (.cells #[.slice A n0 c,.slice A' n1 c'] 36)).alloc (.cells #[.slice none 0 0,.slice none 0 0,.slice none 0 0,.slice none 0 0] 87)).alloc (.cells #[.slice A n0 c,.slice A' n1 c',.slice none 0 0,.slice none 0 0] 87)) (qo A n0 c A' n1 c' (pieces s 32) (pieces s 32).length w):=by
 have z1:(w.alloc (.cells #[.slice A n0 c,.slice A' n1 c'] 36)).heap.size=w.heap.size+1:=by simp
 have z2:((w.alloc (.cells #[.slice A n0 c,.slice A' n1 c'] 36)).alloc (.cells #[.slice none 0 0,.slice none 0 0,.slice none 0 0,.slice none 0 0] 87)).heap.size=w.heap.size+1+1:=by simp
 obtain ⟨W1,hW1⟩:∃W,W=w.alloc (.cells #[.slice A n0 c,.slice A' n1 c'] 36):=⟨_,rfl⟩
 have b1:Below w.heap.size w W1:=by rw[hW1];exact aG (Below.refl _ _) _
 rw[<- hW1]at z1 z2 ⊢
 obtain ⟨W2,hW2⟩:∃W,W=W1.alloc (.cells #[.slice none 0 0,.slice none 0 0,.slice none 0 0,.slice none 0 0] 87):=⟨_,rfl⟩
 have b2:Below w.heap.size w W2:=by rw[hW2];exact aG b1 _
 have k2:W2.heap[w.heap.size+1]?=some (.cells #[.slice none 0 0,.slice none 0 0,.slice none 0 0,.slice none 0 0] 87 (0,0)):=by rw[hW2,<- z1];exact bC _ _
 rw[<- hW2]at z2 ⊢
 obtain ⟨W3,hW3⟩:∃W,W=W2.alloc (.cells #[.slice A n0 c,.slice A' n1 c',.slice none 0 0,.slice none 0 0] 87):=⟨_,rfl⟩
 have b3:Below w.heap.size w W3:=by rw[hW3];exact aG b2 _
 have k3:W3.heap[w.heap.size+1+1]?=some (.cells #[.slice A n0 c,.slice A' n1 c',.slice none 0 0,.slice none 0 0] 87 (0,0)):=by rw[hW3,<- z2];exact bC _ _
 have k2':W3.heap[w.heap.size+1]?=some (.cells #[.slice none 0 0,.slice none 0 0,.slice none 0 0,.slice none 0 0] 87 (0,0)):=by rw[hW3];exact bq k2 _
 have z3:W3.heap.size=w.heap.size+3:=by rw[hW3];simp[z2]
 rw[<- hW3]
 refine (hS.split32 s W3 (by omega)).mono λe w' h=>?_
 obtain ⟨v,he,hr,hb⟩:=h;obtain ⟨gb,cap,hv,h1,h2,cur,h3,h4⟩:=yZ hr (by rw[jE];omega);exact ⟨gb,cap,cur,by rw[he,hv],h1,by omega,h3,h4,aI k2' hb,aI k3 hb,aj b3 hb⟩
theorem JA(hq:((bV ((pieces s 32).getD 0 ⟨#[]⟩)).size:Int)≠(((pieces s 32).length:Nat):Int) - 1) :
  Calls Tryz.prog 73 #[.agg #[.slice A n0 c,.slice A' n1 c'],.string s] w (lW A n0 c A' n1 c' none w):=by
 have HSP:=aa (qO hS A n0 c A' n1 c' s hs w);have hl:=jE s 32
 obtain ⟨ps,hps⟩:∃ps,ps=pieces s 32:=⟨_,rfl⟩
 rw[<- hps]at HSP hl hq
 obtain ⟨a,ha⟩:∃a,a=ps.getD 0 ⟨#[]⟩:=⟨_,rfl⟩
 rw[<- ha]at hq;have HA:=aa (show ps[0]?=some a by rw[ha,List.getD_eq_getElem?_getD,List.getElem?_eq_getElem (by omega)];rfl);have HSH:=aa λW=>hS.shape a W
 obtain ⟨sh,hsh⟩:∃sh,sh=bV a:=⟨_,rfl⟩
 rw[<- hsh]at HSH hq
 have hn0:0<ps.length:=by omega
 have hn9:ps.length<=1000000:=by have:=Lib.countB_le ⟨#[32]⟩ (Nat.le_refl 1) s.size s (Nat.le_refl _);omega
 obtain ⟨n,hn⟩:∃n,n=ps.length:=⟨_,rfl⟩
 rw[<- hn]at HSP hq hn0 hn9;have q1:((sh.size:Int) != (n:Int) - 1)=true:=bne_iff_ne.2 hq;clear hS hs hps ha hsh hl hn hq;go_enter Tryz.func73,Tryz.ntmps73
 go_wp2_with (first
  | (go_at_call 48;refine HSP.out.mono ?_;rintro e w1 ⟨gb,cap,cur,rfl,hcap,hgb,hcu,hx,h1,h2,hb⟩;have hx0:w1.cell? ⟨gb,0,none⟩=some (.string a):=(ah hcu 0).trans (hx 0 a HA.out);have H1:=aa h1;have H2:=aa h2;have HB:=aa hb;clear hx h1 h2 hb hcu)
  | (go_at_call 115;refine (HSH.out _).mono ?_;rintro e w2 ⟨rfl,hb⟩;replace H1:=aa (aI H1.out hb);replace H2:=aa (aI H2.out hb);replace HB:=aa (aj HB.out hb);clear hb;have p0:w2.cell? ⟨w.heap.size+1,0,none⟩=some (.slice none 0 0):=ah H1.out 0;have p1:w2.cell? ⟨w.heap.size+1,1,none⟩=some (.slice none 0 0):=ah H1.out 1;have p2:w2.cell? ⟨w.heap.size+1,2,none⟩=some (.slice none 0 0):=ah H1.out 2;have p3:w2.cell? ⟨w.heap.size+1,3,none⟩=some (.slice none 0 0):=ah H1.out 3;have f0:=au H1.out 0;have f1:=au H1.out 1;have f2:=au H1.out 2;have f3:=au H1.out 3;have r0:w2.cell? ⟨w.heap.size+1+1,0,none⟩=some (.slice A n0 c):=ah H2.out 0;have r1:w2.cell? ⟨w.heap.size+1+1,1,none⟩=some (.slice A' n1 c'):=ah H2.out 1;have r2:w2.cell? ⟨w.heap.size+1+1,2,none⟩=some (.slice none 0 0):=ah H2.out 2;have r3:w2.cell? ⟨w.heap.size+1+1,3,none⟩=some (.slice none 0 0):=ah H2.out 3))
 go_big_region
 go_wp2;exact bodyPost_ret (v:=.tuple #[.string ⟨#[]⟩,.agg #[.slice A n0 c,.slice A' n1 c',.slice none 0 0,.slice none 0 0],.bool false]) (by simp[results,Tryz.results73,go_sem,p0,p1,p2,p3]) rfl ⟨_,_,_,[],[],rfl,Kd.R_nil _ _ _ _ _,Kd.R_nil _ _ _ _ _,λp h=>(by cases h),nW HB.out (Nat.le_succ _) _ _ _ _⟩
end
def fM(sh:ByteArray)(ws:List ByteArray):Nat->Option (List Int)
 | 0=>some []
 | i+1=>match fM sh ws i with
  | some l=>if bt sh (i:Int)=110 then (bT (ws.getD i ⟨#[]⟩)).map λk=>l++[k] else none
  | none=>none
theorem zT{sh:ByteArray}{ws:List ByteArray}:∀ {i:Nat} {l:List Int},fM sh ws i=some l->l.length=i
 | 0,l,h=>by cases h;rfl
 | i+1,l,h=>by
  simp only[fM]at h
  cases hq:fM sh ws i with
  | none=>rw[hq]at h;cases h
  | some m =>
   rw[hq]at h;dsimp only at h
   split at h
   ·
    cases hr:bT (ws.getD i ⟨#[]⟩) with
    | none=>rw[hr]at h;cases h
    | some k=>rw[hr]at h;cases h;rw[List.length_append,zT hq];rfl
   · cases h
theorem z8{sh:ByteArray}{ws:List ByteArray}:∀ {i:Nat} (j:Nat),fM sh ws i=none->fM sh ws (i+j)=none
 | i,0,h=>h
 | i,j+1,h=>by
  have:=z8 j h;rw[Nat.add_succ,fM,this]
theorem vS{n cap:Nat}(h:0<n)(h2:n+1<=cap):(cap=1)=False:=eq_false (by omega)
theorem Fj{s:ByteArray}{k:Int}(h:bT s=some k):mY s=k:=by unfold mY;rw[h];rfl
theorem JN{s:ByteArray}(h:bT s=none):mY s=-1:=by unfold mY;rw[h];rfl
theorem uj{F:aN}(hS:iK F)(A:Option Addr)(n0 c:Nat)(A':Option Addr)(n1 c':Nat)(s:ByteArray)(hs:s.size<=3000)(w:World)(a:ByteArray)(ws:List ByteArray)(hp:pieces s 32=a :: ws)(sh:ByteArray)(hsh:bV a=sh)(hz:sh.size=ws.length)(hw:0<ws.length)(hno:∀i:Nat,i<sh.size->bt sh (i:Int)≠108) :
  Calls Tryz.prog 73 #[.agg #[.slice A n0 c,.slice A' n1 c'],.string s] w (lW A n0 c A' n1 c' ((fM sh ws ws.length).map λl=>(a,[],l)) w):=by
 obtain ⟨n,hn⟩:∃n,n=ws.length:=⟨_,rfl⟩
 have hl:=jE s 32;rw[hp]at hl;have hle:=Lib.countB_le ⟨#[32]⟩ (Nat.le_refl 1) s.size s (Nat.le_refl _)
 have hn9:n<=3000:=by simp at hl;omega
 have HN1:ae (0<n):=⟨by omega⟩
 have HSP:=aa (show Calls Tryz.prog 48 _ _ (qo A n0 c A' n1 c' (a :: ws) (n+1) w) from by have h:=qO hS A n0 c A' n1 c' s hs w;rw[hp]at h;rw[hn];exact h);have HSH:=aa λW=>hsh▸hS.shape a W;have HRD:=aa hS.read;have HWS:=aa (show ∀b∈ws,b.size<=2000000 from λb hb=>Nat.le_trans (Nat.le_trans (iC (s:=s) (c:=32) (by rw[hp];exact List.mem_cons_of_mem _ hb)) hs) (by omega));have HNO:=aa hno;have HNN:=aa hn
 obtain ⟨o,ho⟩:∃o:Option (ByteArray × List Int × List Int),o=(fM sh ws ws.length).map λl=>(a,[],l):=⟨_,rfl⟩
 have HOO:=aa (show ∀l,fM sh ws n=some l->o=some (a,[],l) from λl h=>by rw[ho,<- hn,h];rfl)
 have HON:=aa (show ∀i,i<n->fM sh ws (i+1)=none->o=none from λi hi h=>by
  have:=z8 (n - (i+1)) h;rw[show i+1+(n - (i+1))=n by omega]at this
  rw[ho,<- hn,this];rfl)
 rw[<- ho];have q1:((sh.size:Int) != ((n:Int)+1) - 1)=false:=bne_eq_false_iff_eq.2 (by omega);have q1b:((sh.size:Int) != (n:Int))=false:=bne_eq_false_iff_eq.2 (by omega);have HZ:=aa (show sh.size=n by omega);clear hS hs hp hsh hl hle hno hz hn ho hw;go_enter Tryz.func73,Tryz.ntmps73
 go_wp2_with (first
  | (go_at_call 48;refine HSP.out.mono ?_;rintro e w1 ⟨gb,cap,cur,rfl,hcap,hgb,hcu,hx,h1,h2,hb⟩;have hx0:w1.cell? ⟨gb,0,none⟩=some (.string a):=(ah hcu 0).trans (hx 0 a rfl);have HX:=aa hx;have HCU:=aa hcu;have H1:=aa h1;have H2:=aa h2;have HB:=aa hb;have HGB:=aa hgb;have hcc:=vS HN1.out hcap;clear hx h1 h2 hb hcu hgb)
  | (go_at_call 115;refine (HSH.out _).mono ?_;rintro e w2 ⟨rfl,hb⟩;replace HCU:=aa (aI HCU.out hb);replace H1:=aa (aI H1.out hb);replace H2:=aa (aI H2.out hb);replace HB:=aa (aj HB.out hb);clear hb hx0))
 all_goals
  go_loopg [32] n (λkq v32 w'=>∃ (i:Nat) (iz:Int) (A3:Option Addr) (c3:Nat) (l:List Int),v32=.int .i64 iz/\ae (iz=(i:Int))/\ae (i+kq=n)/\ae (fM sh ws i=some l)/\ae (Kd.R (Kd.int .i64) 3 w' w.heap.size (λ_=>True) (.slice A3 l.length c3) l)/\ae (w'.heap[w.heap.size+1+1]?=some (.cells #[.slice A n0 c,.slice A' n1 c',.slice none 0 0,.slice A3 l.length c3] 87 (0,0)))/\ae (w'.heap[w.heap.size+1]?=some (.cells #[.slice none 0 0,.slice none 0 0,.slice none 0 0,.slice none 0 0] 87 (0,0)))/\ae (w'.heap[gb]?=some (.cells cur 9 (0,0)))/\ae (Below w.heap.size w w'))
  case atStart=>exact ⟨0,0,none,0,[],rfl,⟨rfl⟩,⟨by omega⟩,⟨rfl⟩,⟨Kd.R_nil _ _ _ _ _⟩,H2,H1,HCU,HB⟩
  case round =>
   clear H1 H2 HCU HB;obtain ⟨i,iz,A3,c3,l,rfl,NI,NK,NL,HR3,H2,H1,HCU,HB⟩:=hrel
   cases gk with
   | zero =>
    have hi:i=n:=by have:=NK.out;omega
    subst hi;have q4:decide (iz<(i:Int))=false:=decide_eq_false (by have:=NI.out;omega);have HOE:=aa (HOO.out l NL.out);have hx0:wr.cell? ⟨gb,0,none⟩=some (.string a):=(ah HCU.out 0).trans (HX.out 0 a rfl);have p0:wr.cell? ⟨w.heap.size+1,0,none⟩=some (.slice none 0 0):=ah H1.out 0;have f0:=au H1.out 0;have p1:wr.cell? ⟨w.heap.size+1,1,none⟩=some (.slice none 0 0):=ah H1.out 1;have f1:=au H1.out 1;have p2:wr.cell? ⟨w.heap.size+1,2,none⟩=some (.slice none 0 0):=ah H1.out 2;have f2:=au H1.out 2;have p3:wr.cell? ⟨w.heap.size+1,3,none⟩=some (.slice none 0 0):=ah H1.out 3;have f3:=au H1.out 3;have r0:wr.cell? ⟨w.heap.size+1+1,0,none⟩=some (.slice A n0 c):=ah H2.out 0;have r1:wr.cell? ⟨w.heap.size+1+1,1,none⟩=some (.slice A' n1 c'):=ah H2.out 1;have r2:wr.cell? ⟨w.heap.size+1+1,2,none⟩=some (.slice none 0 0):=ah H2.out 2;have r3:wr.cell? ⟨w.heap.size+1+1,3,none⟩=some (.slice A3 l.length c3):=ah H2.out 3;go_wp2
    go_big_region
    go_wp2;exact bodyPost_ret (v:=.tuple #[.string a,.agg #[.slice A n0 c,.slice A' n1 c',.slice none 0 0,.slice A3 l.length c3],.bool true]) (by simp[results,Tryz.results73,go_sem,p0,p1,p2,p3]) rfl ⟨_,_,_,[],_,by rw[HOE.out];rfl,Kd.R_nil _ _ _ _ _,qy H1.out HR3.out (by decide) _ _ _ _,λp h=>(by rw[HOE.out]at h;cases h;rfl),nW HB.out (Nat.le_succ _) _ _ _ _⟩
   | succ d =>
    have hi0:0<=iz:=by have:=NI.out;omega
    have hin:iz<(n:Int):=by have:=NI.out;have:=NK.out;omega
    have q4:decide (iz<(n:Int))=true:=decide_eq_true hin
    have hiw:i<ws.length:=by have:=NK.out;have:=HNN.out;omega
    obtain ⟨b,hb0⟩:∃b,b=ws.getD i ⟨#[]⟩:=⟨_,rfl⟩
    have hbi:ws[i]?=some b:=by rw[hb0,List.getD_eq_getElem?_getD,List.getElem?_eq_getElem hiw];rfl
    have HBZ:=aa (show b.size<=2000000 from HWS.out b (List.mem_of_getElem? hbi));have hxb:wr.cell? ⟨gb,1+iz.toNat,none⟩=some (.string b):=(ah HCU.out _).trans (HX.out _ b (by rw[NI.out,Int.toNat_natCast,Nat.add_comm];exact hbi));have p5:(0<=iz)=True:=eq_true hi0;have q5:(iz<(sh.size:Int))=True:=eq_true (by rw[HZ.out];exact hin);have hx5:=jJ sh iz;have HT:=aa (show fM sh ws (i+1)=if bt sh iz=110 then (bT b).map λk=>l++[k] else none by rw[fM,NL.out,<- hb0,NI.out]);have HLt:=aa (show l.length<17592186044416 by rw[zT NL.out];have:=NK.out;omega);have HI:=aa (show wrap64 (iz+1)=((i+1:Nat):Int) by rw[NI.out];have:=NK.out;rw[wrap64_in _ (by omega) (by omega)];omega);have hn108:=HNO.out i (by have:=HZ.out;have:=NK.out;omega);rw[<- NI.out]at hn108
    have hlt:i<n:=by have:=NK.out;omega
    have HNX:=aa (HON.out i hlt);clear hiw hb0 hbi hlt;replace hi0:=eq_true hi0;replace hin:=eq_true hin
    by_cases c1:bt sh iz=110
    ·
     have q6:(bt sh iz == 110)=true:=beq_iff_eq.2 c1;rw[if_pos c1]at HT;clear c1 hn108
     cases hr:bT b with
     | none =>
      rw[hr]at HT;have HOE:=aa (HNX.out HT.out);have HRI:=aa (JN hr);clear hr
      go_wp2_with (first
       | (go_at_call 116;refine (HRD.out b _ HBZ.out).mono ?_;rintro e w5 ⟨rfl,hb⟩;rw[HRI.out];replace H2:=aa (aI H2.out hb);replace H1:=aa (aI H1.out hb);replace HR3:=aa (Kd.R_below HR3.out hb);replace HB:=aa (aj HB.out hb);clear hb;have r3:w5.cell? ⟨w.heap.size+1+1,3,none⟩=some (.slice A3 l.length c3):=ah H2.out 3)
       | (at_builtin;refine qf (w0:=w) (.tmp 47) (.tmp 49) _ _ _ HR3.out HB.out HLt.out ?_;intro v1 w6 ho hb hg;obtain ⟨A4,c4,rfl⟩:=Kd.R_slice ho;have hne:=Kd.R_ne HR3.out H2.out (by decide);have hne1:=Kd.R_ne HR3.out H1.out (by decide);replace H2:=aa (iM H2.out hg hne);replace H1:=aa (iM H1.out hg hne1);have HR4:=aa ho;replace HB:=aa hb;clear ho hb hg hne hne1 r3;have p0:w6.cell? ⟨w.heap.size+1,0,none⟩=some (.slice none 0 0):=ah H1.out 0;have f0:=au H1.out 0;have p1:w6.cell? ⟨w.heap.size+1,1,none⟩=some (.slice none 0 0):=ah H1.out 1;have f1:=au H1.out 1;have p2:w6.cell? ⟨w.heap.size+1,2,none⟩=some (.slice none 0 0):=ah H1.out 2;have f2:=au H1.out 2;have p3:w6.cell? ⟨w.heap.size+1,3,none⟩=some (.slice none 0 0):=ah H1.out 3;have f3:=au H1.out 3;have r0:w6.cell? ⟨w.heap.size+1+1,0,none⟩=some (.slice A n0 c):=ah H2.out 0;have r1:w6.cell? ⟨w.heap.size+1+1,1,none⟩=some (.slice A' n1 c'):=ah H2.out 1;have r2:w6.cell? ⟨w.heap.size+1+1,2,none⟩=some (.slice none 0 0):=ah H2.out 2;have r3:w6.cell? ⟨w.heap.size+1+1,3,none⟩=some (.slice A3 l.length c3):=ah H2.out 3;have g3:=au H2.out 3))
      go_big_region
      go_wp2;exact bodyPost_ret (v:=.tuple #[.string ⟨#[]⟩,.agg #[.slice A n0 c,.slice A' n1 c',.slice none 0 0,.slice A4 (l++[-1]).length c4],.bool false]) (by simp[results,Tryz.results73,go_sem,p0,p1,p2,p3]) rfl ⟨_,_,_,[],_,by rw[HOE.out];rfl,Kd.R_nil _ _ _ _ _,qy (fZ H1.out (by show w.heap.size+1≠w.heap.size+1+1;omega) _) (Kd.R_set HR4.out H2.out (by decide) 3 _) (by decide) _ _ _ _,λp h=>(by rw[HOE.out]at h;cases h),nW (bf HB.out (by omega)) (Nat.le_succ _) _ _ _ _⟩
     | some k =>
      rw[hr]at HT;have HRI:=aa (Fj hr);replace HT:=aa (show fM sh ws (i+1)=some (l++[k]) from HT.out);have hk:=nR hr;have q7:decide (k >= 0)=true:=decide_eq_true hk.1;have q8:decide (0<=k)=true:=decide_eq_true hk.1;clear hr hk
      go_wp2_with (first
       | (go_at_call 116;refine (HRD.out b _ HBZ.out).mono ?_;rintro e w5 ⟨rfl,hb⟩;rw[HRI.out];replace H2:=aa (aI H2.out hb);replace H1:=aa (aI H1.out hb);replace HCU:=aa (aI HCU.out hb);replace HR3:=aa (Kd.R_below HR3.out hb);replace HB:=aa (aj HB.out hb);clear hb;have r3:w5.cell? ⟨w.heap.size+1+1,3,none⟩=some (.slice A3 l.length c3):=ah H2.out 3)
       | (at_builtin;refine qf (w0:=w) (.tmp 47) (.tmp 49) _ _ _ HR3.out HB.out HLt.out ?_;intro v1 w6 ho hb hg;obtain ⟨A4,c4,rfl⟩:=Kd.R_slice ho;have hne:=Kd.R_ne HR3.out H2.out (by decide);have hne1:=Kd.R_ne HR3.out H1.out (by decide);have hne2:=Kd.R_ne HR3.out HCU.out (by decide);replace H2:=aa (iM H2.out hg hne);replace H1:=aa (iM H1.out hg hne1);replace HCU:=aa (iM HCU.out hg hne2);have HR4:=aa ho;replace HB:=aa hb;clear ho hb hg hne hne1 hne2 r3;have r3:w6.cell? ⟨w.heap.size+1+1,3,none⟩=some (.slice A3 l.length c3):=ah H2.out 3;have g3:=au H2.out 3))
      go_roundg d
      case measure=>omega
      case rel=>exact ⟨i+1,_,_,_,_,rfl,HI,⟨by have:=NK.out;omega⟩,⟨HT.out⟩,⟨Kd.R_set HR4.out H2.out (by decide) 3 _⟩,⟨dV H2.out 3 _ (by simp)⟩,⟨fZ H1.out (by show w.heap.size+1≠w.heap.size+1+1;omega) _⟩,⟨fZ HCU.out (by show gb≠w.heap.size+1+1;have:=HGB.out;omega) _⟩,⟨bf HB.out (by omega)⟩⟩
    ·
     have q6:(bt sh iz == 110)=false:=beq_eq_false_iff_ne.2 c1;have q9:(bt sh iz == 108)=false:=beq_eq_false_iff_ne.2 hn108;rw[if_neg c1]at HT;have HOE:=aa (HNX.out HT.out);clear c1 hn108;have p0:wr.cell? ⟨w.heap.size+1,0,none⟩=some (.slice none 0 0):=ah H1.out 0;have f0:=au H1.out 0;have p1:wr.cell? ⟨w.heap.size+1,1,none⟩=some (.slice none 0 0):=ah H1.out 1;have f1:=au H1.out 1;have p2:wr.cell? ⟨w.heap.size+1,2,none⟩=some (.slice none 0 0):=ah H1.out 2;have f2:=au H1.out 2;have p3:wr.cell? ⟨w.heap.size+1,3,none⟩=some (.slice none 0 0):=ah H1.out 3;have f3:=au H1.out 3;have r0:wr.cell? ⟨w.heap.size+1+1,0,none⟩=some (.slice A n0 c):=ah H2.out 0;have r1:wr.cell? ⟨w.heap.size+1+1,1,none⟩=some (.slice A' n1 c'):=ah H2.out 1;have r2:wr.cell? ⟨w.heap.size+1+1,2,none⟩=some (.slice none 0 0):=ah H2.out 2;have r3:wr.cell? ⟨w.heap.size+1+1,3,none⟩=some (.slice A3 l.length c3):=ah H2.out 3;go_wp2
     go_big_region
     go_wp2;exact bodyPost_ret (v:=.tuple #[.string ⟨#[]⟩,.agg #[.slice A n0 c,.slice A' n1 c',.slice none 0 0,.slice A3 l.length c3],.bool false]) (by simp[results,Tryz.results73,go_sem,p0,p1,p2,p3]) rfl ⟨_,_,_,[],_,by rw[HOE.out];rfl,Kd.R_nil _ _ _ _ _,qy H1.out HR3.out (by decide) _ _ _ _,λp h=>(by rw[HOE.out]at h;cases h),nW HB.out (Nat.le_succ _) _ _ _ _⟩
theorem FP{F:aN}(hS:iK F)(A:Option Addr)(n0 c:Nat)(A':Option Addr)(n1 c':Nat)(s:ByteArray)(hs:s.size<=3000)(w:World)(a:ByteArray)(hp:pieces s 32=[a])(hsh:bV a=⟨#[]⟩) :
  Calls Tryz.prog 73 #[.agg #[.slice A n0 c,.slice A' n1 c'],.string s] w (lW A n0 c A' n1 c' (some (a,[],[])) w):=by
 have HSP:=aa (show Calls Tryz.prog 48 _ _ (qo A n0 c A' n1 c' [a] 1 w) from by have h:=qO hS A n0 c A' n1 c' s hs w;rw[hp]at h;exact h);have HSH:=aa λW=>hsh▸hS.shape a W;clear hS hs hp hsh;go_enter Tryz.func73,Tryz.ntmps73
 go_wp2_with (first
  | (go_at_call 48;refine HSP.out.mono ?_;rintro e w1 ⟨gb,cap,cur,rfl,hcap,hgb,hcu,hx,h1,h2,hb⟩;have hx0:w1.cell? ⟨gb,0,none⟩=some (.string a):=(ah hcu 0).trans (hx 0 a rfl);have HX:=aa hx;have HCU:=aa hcu;have H1:=aa h1;have H2:=aa h2;have HB:=aa hb;clear hx h1 h2 hb hcu hgb)
  | (go_at_call 115;refine (HSH.out _).mono ?_;rintro e w2 ⟨rfl,hb⟩;replace HCU:=aa (aI HCU.out hb);replace H1:=aa (aI H1.out hb);replace H2:=aa (aI H2.out hb);replace HB:=aa (aj HB.out hb);clear hb hx0))
 all_goals
  have hx0:w2.cell? ⟨gb,0,none⟩=some (.string a):=(ah HCU.out 0).trans (HX.out 0 a rfl);have p0:w2.cell? ⟨w.heap.size+1,0,none⟩=some (.slice none 0 0):=ah H1.out 0;have f0:=au H1.out 0;have p1:w2.cell? ⟨w.heap.size+1,1,none⟩=some (.slice none 0 0):=ah H1.out 1;have f1:=au H1.out 1;have p2:w2.cell? ⟨w.heap.size+1,2,none⟩=some (.slice none 0 0):=ah H1.out 2;have f2:=au H1.out 2;have p3:w2.cell? ⟨w.heap.size+1,3,none⟩=some (.slice none 0 0):=ah H1.out 3;have f3:=au H1.out 3;have r0:w2.cell? ⟨w.heap.size+1+1,0,none⟩=some (.slice A n0 c):=ah H2.out 0;have r1:w2.cell? ⟨w.heap.size+1+1,1,none⟩=some (.slice A' n1 c'):=ah H2.out 1;have r2:w2.cell? ⟨w.heap.size+1+1,2,none⟩=some (.slice none 0 0):=ah H2.out 2;have r3:w2.cell? ⟨w.heap.size+1+1,3,none⟩=some (.slice none 0 0):=ah H2.out 3
  refine wp_loop_rounds 1 ?_
  rw[rounds_succ];go_wp2
  go_big_region
  go_wp2;exact bodyPost_ret (v:=.tuple #[.string a,.agg #[.slice A n0 c,.slice A' n1 c',.slice none 0 0,.slice none 0 0],.bool true]) (by simp[results,Tryz.results73,go_sem,p0,p1,p2,p3]) rfl ⟨_,_,_,[],[],rfl,Kd.R_nil _ _ _ _ _,Kd.R_nil _ _ _ _ _,λp h=>(by cases h;rfl),nW HB.out (Nat.le_succ _) _ _ _ _⟩
theorem Dn{F:aN}(hS:iK F)(A:Option Addr)(n0 c:Nat)(A':Option Addr)(n1 c':Nat)(s:ByteArray)(hs:s.size<=3000)(w:World)(a b:ByteArray)(hp:pieces s 32=[a,b])(hsh:bV a=⟨#[108]⟩)(m:List Int)(hq:told b=some m) :
  Calls Tryz.prog 73 #[.agg #[.slice A n0 c,.slice A' n1 c'],.string s] w (lW A n0 c A' n1 c' (some (a,m,[])) w):=by
 have HSP:=aa (show Calls Tryz.prog 48 _ _ (qo A n0 c A' n1 c' [a,b] 2 w) from by have h:=qO hS A n0 c A' n1 c' s hs w;rw[hp]at h;exact h);have HSH:=aa λW=>hsh▸hS.shape a W;have HPS:=aa λW=>hq▸hS.parse b W (Nat.le_trans (iC (s:=s) (c:=32) (by rw[hp];simp)) hs);clear hS hs hp hsh hq;go_enter Tryz.func73,Tryz.ntmps73
 go_wp2_with (first
  | (go_at_call 48;refine HSP.out.mono ?_;rintro e w1 ⟨gb,cap,cur,rfl,hcap,hgb,hcu,hx,h1,h2,hb⟩;have hx0:w1.cell? ⟨gb,0,none⟩=some (.string a):=(ah hcu 0).trans (hx 0 a rfl);have HX:=aa hx;have HCU:=aa hcu;have H1:=aa h1;have H2:=aa h2;have HB:=aa hb;have HGB:=aa hgb;have hcc:=vS (n:=1) (Nat.le_refl 1) hcap;clear hx h1 h2 hb hcu hgb)
  | (go_at_call 115;refine (HSH.out _).mono ?_;rintro e w2 ⟨rfl,hb⟩;replace HCU:=aa (aI HCU.out hb);replace H1:=aa (aI H1.out hb);replace H2:=aa (aI H2.out hb);replace HB:=aa (aj HB.out hb);clear hb hx0;have hx1:w2.cell? ⟨gb,1,none⟩=some (.string b):=(ah HCU.out 1).trans (HX.out 1 b rfl)))
 refine wp_loop_rounds 2 ?_
 rw[rounds_succ]
 go_wp2_with (go_at_call 117;refine (HPS.out _).mono ?_;rintro e w3 ⟨v,l',rfl,ho,hm,hb⟩;cases hm _ rfl;obtain ⟨A3,c3,rfl⟩:=Kd.R_slice ho;have HR3:=aa (Kd.R_lower ho (ay HB.out));replace HCU:=aa (aI HCU.out hb);replace H1:=aa (aI H1.out hb);replace H2:=aa (aI H2.out hb);replace HB:=aa (aj HB.out hb);clear ho hm hb;have hx0:w3.cell? ⟨gb,0,none⟩=some (.string a):=(ah HCU.out 0).trans (HX.out 0 a rfl);have p0:w3.cell? ⟨w.heap.size+1,0,none⟩=some (.slice none 0 0):=ah H1.out 0;have f0:=au H1.out 0;have p1:w3.cell? ⟨w.heap.size+1,1,none⟩=some (.slice none 0 0):=ah H1.out 1;have f1:=au H1.out 1;have p2:w3.cell? ⟨w.heap.size+1,2,none⟩=some (.slice none 0 0):=ah H1.out 2;have f2:=au H1.out 2;have p3:w3.cell? ⟨w.heap.size+1,3,none⟩=some (.slice none 0 0):=ah H1.out 3;have f3:=au H1.out 3;have r0:w3.cell? ⟨w.heap.size+1+1,0,none⟩=some (.slice A n0 c):=ah H2.out 0;have r1:w3.cell? ⟨w.heap.size+1+1,1,none⟩=some (.slice A' n1 c'):=ah H2.out 1;have r2:w3.cell? ⟨w.heap.size+1+1,2,none⟩=some (.slice none 0 0):=ah H2.out 2;have r3:w3.cell? ⟨w.heap.size+1+1,3,none⟩=some (.slice none 0 0):=ah H2.out 3;have g2:=au H2.out 2)
 rw[rounds_succ];go_wp2
 go_big_region
 go_wp2;exact bodyPost_ret (v:=.tuple #[.string a,.agg #[.slice A n0 c,.slice A' n1 c',.slice A3 m.length c3,.slice none 0 0],.bool true]) (by simp[results,Tryz.results73,go_sem,p0,p1,p2,p3]) rfl ⟨_,_,_,_,[],rfl,qy (fZ H1.out (by show w.heap.size+1≠w.heap.size+1+1;omega) _) (Kd.R_set HR3.out H2.out (by decide) 2 _) (by decide) _ _ _ _,Kd.R_nil _ _ _ _ _,λp h=>(by cases h;rfl),nW (bf HB.out (by omega)) (Nat.le_succ _) _ _ _ _⟩
theorem Ce{F:aN}(hS:iK F)(A:Option Addr)(n0 c:Nat)(A':Option Addr)(n1 c':Nat)(s:ByteArray)(hs:s.size<=3000)(w:World)(a b:ByteArray)(hp:pieces s 32=[a,b])(hsh:bV a=⟨#[108]⟩)(hq:told b=none) :
  Calls Tryz.prog 73 #[.agg #[.slice A n0 c,.slice A' n1 c'],.string s] w (lW A n0 c A' n1 c' (none) w):=by
 have HSP:=aa (show Calls Tryz.prog 48 _ _ (qo A n0 c A' n1 c' [a,b] 2 w) from by have h:=qO hS A n0 c A' n1 c' s hs w;rw[hp]at h;exact h);have HSH:=aa λW=>hsh▸hS.shape a W;have HPS:=aa λW=>hq▸hS.parse b W (Nat.le_trans (iC (s:=s) (c:=32) (by rw[hp];simp)) hs);clear hS hs hp hsh hq;go_enter Tryz.func73,Tryz.ntmps73
 go_wp2_with (first
  | (go_at_call 48;refine HSP.out.mono ?_;rintro e w1 ⟨gb,cap,cur,rfl,hcap,hgb,hcu,hx,h1,h2,hb⟩;have hx0:w1.cell? ⟨gb,0,none⟩=some (.string a):=(ah hcu 0).trans (hx 0 a rfl);have HX:=aa hx;have HCU:=aa hcu;have H1:=aa h1;have H2:=aa h2;have HB:=aa hb;have HGB:=aa hgb;have hcc:=vS (n:=1) (Nat.le_refl 1) hcap;clear hx h1 h2 hb hcu hgb)
  | (go_at_call 115;refine (HSH.out _).mono ?_;rintro e w2 ⟨rfl,hb⟩;replace HCU:=aa (aI HCU.out hb);replace H1:=aa (aI H1.out hb);replace H2:=aa (aI H2.out hb);replace HB:=aa (aj HB.out hb);clear hb hx0;have hx1:w2.cell? ⟨gb,1,none⟩=some (.string b):=(ah HCU.out 1).trans (HX.out 1 b rfl)))
 refine wp_loop_rounds 2 ?_
 rw[rounds_succ]
 go_wp2_with (go_at_call 117;refine (HPS.out _).mono ?_;rintro e w3 ⟨v,l',rfl,ho,hm,hb⟩;obtain ⟨A3,c3,rfl⟩:=Kd.R_slice ho;have HR3:=aa (Kd.R_lower ho (ay HB.out));replace HCU:=aa (aI HCU.out hb);replace H1:=aa (aI H1.out hb);replace H2:=aa (aI H2.out hb);replace HB:=aa (aj HB.out hb);clear ho hm hb;have hx0:w3.cell? ⟨gb,0,none⟩=some (.string a):=(ah HCU.out 0).trans (HX.out 0 a rfl);have p0:w3.cell? ⟨w.heap.size+1,0,none⟩=some (.slice none 0 0):=ah H1.out 0;have f0:=au H1.out 0;have p1:w3.cell? ⟨w.heap.size+1,1,none⟩=some (.slice none 0 0):=ah H1.out 1;have f1:=au H1.out 1;have p2:w3.cell? ⟨w.heap.size+1,2,none⟩=some (.slice none 0 0):=ah H1.out 2;have f2:=au H1.out 2;have p3:w3.cell? ⟨w.heap.size+1,3,none⟩=some (.slice none 0 0):=ah H1.out 3;have f3:=au H1.out 3;have r0:w3.cell? ⟨w.heap.size+1+1,0,none⟩=some (.slice A n0 c):=ah H2.out 0;have r1:w3.cell? ⟨w.heap.size+1+1,1,none⟩=some (.slice A' n1 c'):=ah H2.out 1;have r2:w3.cell? ⟨w.heap.size+1+1,2,none⟩=some (.slice none 0 0):=ah H2.out 2;have r3:w3.cell? ⟨w.heap.size+1+1,3,none⟩=some (.slice none 0 0):=ah H2.out 3;have g2:=au H2.out 2)
 go_big_region
 go_wp2;exact bodyPost_ret (v:=.tuple #[.string ⟨#[]⟩,.agg #[.slice A n0 c,.slice A' n1 c',.slice A3 l'.length c3,.slice none 0 0],.bool false]) (by simp[results,Tryz.results73,go_sem,p0,p1,p2,p3]) rfl ⟨_,_,_,_,[],rfl,qy (fZ H1.out (by show w.heap.size+1≠w.heap.size+1+1;omega) _) (Kd.R_set HR3.out H2.out (by decide) 2 _) (by decide) _ _ _ _,Kd.R_nil _ _ _ _ _,λp h=>(by cases h),nW (bf HB.out (by omega)) (Nat.le_succ _) _ _ _ _⟩
theorem lX(a:ByteArray):bV a=⟨#[]⟩\/bV a=⟨#[110]⟩\/bV a=⟨#[110,110]⟩\/bV a=⟨#[108]⟩\/bV a=⟨#[63]⟩:=by
 unfold bV
 split
 · exact .inl rfl
 split
 · exact .inr (.inl rfl)
 split
 · exact .inr (.inr (.inl rfl))
 split
 · exact .inr (.inr (.inr (.inl rfl)))
 · exact .inr (.inr (.inr (.inr rfl)))
theorem uB{F:aN}(hS:iK F)(A:Option Addr)(n0 c:Nat)(A':Option Addr)(n1 c':Nat)(s:ByteArray)(hs:s.size<=3000)(w:World) :
  Calls Tryz.prog 73 #[.agg #[.slice A n0 c,.slice A' n1 c'],.string s] w (lW A n0 c A' n1 c' (gI s) w):=by
 unfold gI;have hl:=jE s 32
 have bad:∀ (a:ByteArray) (ws:List ByteArray),pieces s 32=a :: ws->(bV a).size≠ws.length->Calls Tryz.prog 73 #[.agg #[.slice A n0 c,.slice A' n1 c'],.string s] w (lW A n0 c A' n1 c' none w):=λa ws hp hne=>by
  refine JA hS A n0 c A' n1 c' s hs w ?_
  rw[hp];show ((bV a).size:Int)≠((ws.length+1:Nat):Int) - 1;omega
 cases hp:pieces s 32 with
 | nil=>rw[hp]at hl;simp at hl
 | cons a p1 =>
 have hb:=bad a p1 hp
 cases p1 with
 | nil =>
  dsimp only
  rcases lX a with h|h|h|h|h
  · rw[h,if_pos rfl];exact FP hS A n0 c A' n1 c' s hs w a hp h
  all_goals
   rw[h]at hb ⊢;rw[if_neg (by decide)];exact hb (by simp[ByteArray.size])
 | cons b p2 =>
 cases p2 with
 | nil =>
  dsimp only
  rcases lX a with h|h|h|h|h
  · rw[h]at hb ⊢;rw[if_neg (by decide),if_neg (by decide)];exact hb (by simp[ByteArray.size])
  ·
   have h1:=uj hS A n0 c A' n1 c' s hs w a [b] hp ⟨#[110]⟩ h rfl (by simp) (λi hi=>by
    have:i=0:=by have:i<1:=hi;omega
    subst this;decide)
   rw[h,if_pos rfl]
   have e:fM ⟨#[110]⟩ [b] 1=(bT b).map λk=>[k]:=by
    simp only[fM];rw[if_pos (by decide)];rfl
   have h2:(fM ⟨#[110]⟩ [b] [b].length).map (λl=>(a,([]:List Int),l))=(bT b).map λk=>(a,([]:List Int),[k]):=by
    show (fM ⟨#[110]⟩ [b] 1).map _=_
    rw[e];cases bT b <;> rfl
   rw[h2]at h1;exact h1
  · rw[h]at hb ⊢;rw[if_neg (by decide),if_neg (by decide)];exact hb (by simp[ByteArray.size])
  ·
   rw[h,if_neg (by decide),if_pos rfl]
   cases hq:told b with
   | none=>exact Ce hS A n0 c A' n1 c' s hs w a b hp h hq
   | some m=>exact Dn hS A n0 c A' n1 c' s hs w a b hp h m hq
  ·
   have h1:=uj hS A n0 c A' n1 c' s hs w a [b] hp ⟨#[63]⟩ h rfl (by simp) (λi hi=>by
    have:i=0:=by have:i<1:=hi;omega
    subst this;decide)
   rw[h,if_neg (by decide),if_neg (by decide)]
   have h2:(fM ⟨#[63]⟩ [b] [b].length).map (λl=>(a,([]:List Int),l))=none:=by
    show (fM ⟨#[63]⟩ [b] 1).map _=_;simp only[fM];rw[if_neg (by decide)];rfl
   rw[h2]at h1;exact h1
 | cons d p3 =>
 cases p3 with
 | nil =>
  dsimp only
  rcases lX a with h|h|h|h|h
  · rw[h]at hb ⊢;rw[if_neg (by decide)];exact hb (by simp[ByteArray.size])
  · rw[h]at hb ⊢;rw[if_neg (by decide)];exact hb (by simp[ByteArray.size])
  ·
   have h1:=uj hS A n0 c A' n1 c' s hs w a [b,d] hp ⟨#[110,110]⟩ h rfl (by simp) (λi hi=>by
    have:i=0\/i=1:=by have:i<2:=hi;omega
    rcases this with rfl|rfl <;> decide)
   rw[h,if_pos rfl]
   have h2:(fM ⟨#[110,110]⟩ [b,d] [b,d].length).map (λl=>(a,([]:List Int),l))=match bT b,bT d with|some k,some r=>some (a,[],[k,r])|_,_=>none:=by
    show (fM ⟨#[110,110]⟩ [b,d] 2).map _=_;simp only[fM];rw[if_pos (by decide)];show (match (bT b).map (λk=>[]++[k]) with|some l=>_|none=>none:Option (List Int)).map _=_
    cases bT b with
    | none=>rfl
    | some k =>
     dsimp only[Option.map];rw[if_pos (by decide)];show ((bT d).map _).map _=_
     cases bT d <;> rfl
   rw[h2]at h1;exact h1
  · rw[h]at hb ⊢;rw[if_neg (by decide)];exact hb (by simp[ByteArray.size])
  · rw[h]at hb ⊢;rw[if_neg (by decide)];exact hb (by simp[ByteArray.size])
 | cons f r =>
  dsimp only
  refine hb ?_
  rcases lX a with h|h|h|h|h <;> rw[h] <;> simp[ByteArray.size]
def p_(B:Nat)(x:gF)(w:World)(e:Ending)(w':World):Prop:=∃v0 v1,e=.returned (.tuple #[.agg #[v0,v1],.string x.r])/\Kd.R (Kd.int .i64) 3 w' B (λ_=>True) v0 x.l/\Kd.R (Kd.int .i64) 3 w' B (λ_=>True) v1 x.t/\gZ v0 v1/\Below w.heap.size w w'
structure kN (F:aN) (B:Nat) (l t:List Int) (A:Option Addr) (c:Nat) (A':Option Addr) (c':Nat) (w:World):Prop where
 good:Good F
 pos:Pos F
 spec:iK F
 park:F.park l=true
 tab:F.tab t=true
 low:B<=w.heap.size
 list:Kd.R (Kd.int .i64) 3 w B (λ_=>True) (.slice A l.length c) l
 table:Kd.R (Kd.int .i64) 3 w B (λ_=>True) (.slice A' t.length c') t
 ne:gZ (.slice A l.length c) (.slice A' t.length c')
theorem kN.below{F:aN}{B:Nat}{l t:List Int}{A:Option Addr}{c:Nat}{A':Option Addr}{c':Nat}{w w':World}(h:kN F B l t A c A' c' w)(hb:Below w.heap.size w w'):kN F B l t A c A' c' w':=⟨h.good,h.pos,h.spec,h.park,h.tab,Nat.le_trans h.low hb.size,Kd.R_below h.list hb,Kd.R_below h.table hb,h.ne⟩
theorem kN.line{F:aN}{B:Nat}{l t m n:List Int}{A:Option Addr}{c:Nat}{A':Option Addr}{c':Nat}{w w1:World}{v2 v3:Value}(h:kN F B l t A c A' c' w)(hb:Below w.heap.size w w1)(h2:Kd.R (Kd.int .i64) 3 w1 w.heap.size (λ_=>True) v2 m)(h3:Kd.R (Kd.int .i64) 3 w1 w.heap.size (λ_=>True) v3 n)(hf:fG m) :
  fE F B w1.heap.size l t m n (w1.alloc (.cells #[.slice A l.length c,.slice A' t.length c',v2,v3] 87)):=by
 have hB1:B<=w1.heap.size:=Nat.le_trans h.low hb.size;refine ⟨h.good,h.pos,h.spec,⟨hB1,_,_,_,_,bC _ _,?_,?_,?_,?_,h.ne,?_⟩,h.park,h.tab,hf,Nat.le_trans hB1 (by simp)⟩
 · exact Kd.R_alloc (Kd.R_below h.list hb) _
 · exact Kd.R_alloc (Kd.R_below h.table hb) _
 · exact Kd.R_alloc (Kd.R_lower h2 h.low) _
 · exact Kd.R_alloc (Kd.R_lower h3 h.low) _
 · exact l7 h2 h.table
def two(x y:Value):Obj:=.cells #[x,y] 36
theorem GD{F:aN}{B:Nat}{l t:List Int}{A:Option Addr}{c:Nat}{A':Option Addr}{c':Nat}{w:World}(h:kN F B l t A c A' c' w)(s:ByteArray)(hs:s.size<=3000)(hq:gI s=none) :
  Calls Tryz.prog 49 #[.agg #[.slice A l.length c,.slice A' t.length c'],.string s] w (p_ B ⟨l,t,gG⟩ w):=by
 have b1:=aG (Below.refl w.heap.size w) (.cells #[.slice A l.length c,.slice A' t.length c'] 36);have k1:(w.alloc (.cells #[.slice A l.length c,.slice A' t.length c'] 36)).heap[w.heap.size]?=some (.cells #[.slice A l.length c,.slice A' t.length c'] 36 (0,0)):=bC _ _
 have z1:(w.alloc (.cells #[.slice A l.length c,.slice A' t.length c'] 36)).heap.size=w.heap.size+1:=by simp
 obtain ⟨Wb,hWb⟩:∃W,W=(w.alloc (.cells #[.slice A l.length c,.slice A' t.length c'] 36)).alloc (.cells #[.slice none 0 0,.slice none 0 0] 36):=⟨_,rfl⟩
 have HW:=aa hWb;have HKB:=aa (show Wb.heap[w.heap.size]?=some (.cells #[.slice A l.length c,.slice A' t.length c'] 36 (0,0)) by rw[hWb];exact bq k1 _);have HKR:=aa (show Wb.heap[w.heap.size+1]?=some (.cells #[.slice none 0 0,.slice none 0 0] 36 (0,0)) by rw[hWb,<- z1];exact bC _ _);have HWB:=aa (show Below w.heap.size w Wb by rw[hWb];exact aG b1 _);have HON:=aa (h.below HWB.out);have HRD:=aa (show Calls Tryz.prog 73 _ _ (lW A l.length c A' t.length c' (none) Wb) from hq▸uB h.spec A l.length c A' t.length c' s hs Wb);clear h hs hq b1 k1 z1 hWb;go_enter Tryz.func49,Tryz.ntmps49
 go_wp2_with (first
  | (go_at_call 73;rw[<- HW.out];refine HRD.out.mono ?_;rintro e w1 ⟨x',v2,v3,m',n',rfl,hr2,hr3,hm,hb⟩;obtain ⟨A2,c2,rfl⟩:=Kd.R_slice hr2;obtain ⟨A3,c3,rfl⟩:=Kd.R_slice hr3;have HR2:=aa hr2;have HR3:=aa hr3;have HB:=aa hb;replace HKB:=aa (aI HKB.out hb);replace HKR:=aa (aI HKR.out hb);clear hr2 hr3 hm hb;have r0:∀o,(w1.alloc o).cell? ⟨w.heap.size,0,none⟩=some (.slice A l.length c):=λo=>bR (ah HKB.out 0) (aG (Below.refl _ _) o);have r1:∀o,(w1.alloc o).cell? ⟨w.heap.size,1,none⟩=some (.slice A' t.length c'):=λo=>bR (ah HKB.out 1) (aG (Below.refl _ _) o);have p0:∀o,(w1.alloc o).cell? ⟨w.heap.size+1,0,none⟩=some (.slice none 0 0):=λo=>bR (ah HKR.out 0) (aG (Below.refl _ _) o);have p1:∀o,(w1.alloc o).cell? ⟨w.heap.size+1,1,none⟩=some (.slice none 0 0):=λo=>bR (ah HKR.out 1) (aG (Below.refl _ _) o);have f0:∀o,(w1.alloc o).frozen? ⟨w.heap.size+1,0,none⟩=false:=λo=>au (bq HKR.out o) 0;have f1:∀o,(w1.alloc o).frozen? ⟨w.heap.size+1,1,none⟩=false:=λo=>au (bq HKR.out o) 1))
 have H2:=aa (Kd.R_below HON.out.list HB.out);have H3:=aa (Kd.R_below HON.out.table HB.out);have hbl:=aG (Below.refl w1.heap.size w1) (.cells #[.slice A l.length c,.slice A' t.length c',.slice A2 m'.length c2,.slice A3 n'.length c3] 87);exact bodyPost_ret (v:=.tuple #[.agg #[.slice A l.length c,.slice A' t.length c'],.string gG]) (by simp[results,Tryz.results49,go_sem,p0,p1];rfl) rfl ⟨_,_,rfl,set2 (bq HKR.out _) (Kd.R_alloc H2.out _) (by decide),set2 (bq HKR.out _) (Kd.R_alloc H3.out _) (by decide),HON.out.ne,bf (bf (aG (aj HWB.out HB.out) _) (Nat.le_succ _)) (Nat.le_succ _)⟩
theorem ny{F:aN}{B:Nat}{l t:List Int}{A:Option Addr}{c:Nat}{A':Option Addr}{c':Nat}{w:World}(h:kN F B l t A c A' c' w)(s:ByteArray)(hs:s.size<=3000)(a:ByteArray)(m n:List Int)(hf:fG m)(x:gF)(hw:a=(⟨#[116,97,107,101]⟩:ByteArray)\/a=(⟨#[110,101,120,116]⟩:ByteArray)\/a=(⟨#[97,116]⟩:ByteArray)\/a=(⟨#[106,111,105,110]⟩:ByteArray)\/a=(⟨#[110,101,119]⟩:ByteArray)\/a=(⟨#[112,117,116]⟩:ByteArray)\/a=(⟨#[100,114,111,112]⟩:ByteArray))(hmv:∀g W,fE F B g l t m n W->Calls Tryz.prog 74 #[.pointer (some ⟨g,0,none⟩),.string a] W (eY B g x m n W))(hq:gI s=some (a,m,n)) :
  Calls Tryz.prog 49 #[.agg #[.slice A l.length c,.slice A' t.length c'],.string s] w (p_ B x w):=by
 have b1:=aG (Below.refl w.heap.size w) (.cells #[.slice A l.length c,.slice A' t.length c'] 36);have k1:(w.alloc (.cells #[.slice A l.length c,.slice A' t.length c'] 36)).heap[w.heap.size]?=some (.cells #[.slice A l.length c,.slice A' t.length c'] 36 (0,0)):=bC _ _
 have z1:(w.alloc (.cells #[.slice A l.length c,.slice A' t.length c'] 36)).heap.size=w.heap.size+1:=by simp
 obtain ⟨Wb,hWb⟩:∃W,W=(w.alloc (.cells #[.slice A l.length c,.slice A' t.length c'] 36)).alloc (.cells #[.slice none 0 0,.slice none 0 0] 36):=⟨_,rfl⟩
 have HW:=aa hWb;have HKB:=aa (show Wb.heap[w.heap.size]?=some (.cells #[.slice A l.length c,.slice A' t.length c'] 36 (0,0)) by rw[hWb];exact bq k1 _);have HKR:=aa (show Wb.heap[w.heap.size+1]?=some (.cells #[.slice none 0 0,.slice none 0 0] 36 (0,0)) by rw[hWb,<- z1];exact bC _ _);have HWB:=aa (show Below w.heap.size w Wb by rw[hWb];exact aG b1 _);have HON:=aa (h.below HWB.out);have HRD:=aa (show Calls Tryz.prog 73 _ _ (lW A l.length c A' t.length c' (some (a,m,n)) Wb) from hq▸uB h.spec A l.length c A' t.length c' s hs Wb);have HFW:=aa hf;have HMV:=aa hmv;clear h hs hq b1 k1 z1 hf hmv hWb
 rcases hw with rfl|rfl|rfl|rfl|rfl|rfl|rfl
 all_goals
  go_enter Tryz.func49,Tryz.ntmps49
  go_wp2_with (first
   | (go_at_call 73;go_loud (rw[<- HW.out];refine HRD.out.mono ?_;rintro e w1 ⟨x',v2,v3,m',n',rfl,hr2,hr3,hm,hb⟩;cases hm _ rfl;obtain ⟨A2,c2,rfl⟩:=Kd.R_slice hr2;obtain ⟨A3,c3,rfl⟩:=Kd.R_slice hr3;have HBz:=aa hb;have HR2:=aa hr2;have HR3:=aa hr3;have HB:=aa (aj HWB.out hb);replace HKB:=aa (aI HKB.out hb);replace HKR:=aa (aI HKR.out hb);clear hr2 hr3 hm hb;have HSL:=aa (kN.line HON.out HBz.out HR2.out HR3.out HFW.out);have HLT:=aa (dC HKR.out);have HKR1:=aa (bq HKR.out (.cells #[.slice A l.length c,.slice A' t.length c',.slice A2 m.length c2,.slice A3 n.length c3] 87));have HKB1:=aa (bq HKB.out (.cells #[.slice A l.length c,.slice A' t.length c',.slice A2 m.length c2,.slice A3 n.length c3] 87));clear HKR HKB))
   | (go_at_call 74;go_loud (refine (HMV.out _ _ HSL.out).mono ?_;rintro e w2 ⟨rfl,hl2,hg2⟩;obtain ⟨_,u0,u1,u2,u3,g1,g2,g3,_,_,hne,_⟩:=hl2;obtain ⟨B0,d0,rfl⟩:=Kd.R_slice g2;obtain ⟨B1,d1,rfl⟩:=Kd.R_slice g3;have hk:=iM HKR1.out hg2 (by intro hk;have:=Option.some.inj hk;have:=HLT.out;omega);have HKR:=aa hk;have s0:w2.cell? ⟨w1.heap.size,0,none⟩=some (.slice B0 _ d0):=(ah g1 0).trans rfl;have s1:w2.cell? ⟨w1.heap.size,1,none⟩=some (.slice B1 _ d1):=(ah g1 1).trans rfl;have p0:w2.cell? ⟨w.heap.size+1,0,none⟩=some (.slice none 0 0):=ah hk 0;have p1:w2.cell? ⟨w.heap.size+1,1,none⟩=some (.slice none 0 0):=ah hk 1;have f0:=au hk 0;have f1:=au hk 1;have HX0:=aa g2;have HX1:=aa g3;have HNE:=aa hne;have HE:=aa (rf (aG HB.out (.cells #[.slice A l.length c,.slice A' t.length c',.slice A2 m.length c2,.slice A3 n.length c3] 87)) (some w1.heap.size) (by have:=HB.out.size;simp;omega) hg2 (λk hk=>by cases hk;exact HB.out.size));clear hk g1 g2 g3 hg2 hne)))
  exact bodyPost_ret (v:=.tuple #[.agg #[.slice B0 x.l.length d0,.slice B1 x.t.length d1],.string x.r]) (by simp[results,Tryz.results49,go_sem,p0,p1]) rfl ⟨_,_,rfl,set2 HKR.out HX0.out (by decide),set2 HKR.out HX1.out (by decide),HNE.out,bf (bf HE.out (Nat.le_succ _)) (Nat.le_succ _)⟩
theorem fE.below{F:aN}{B g:Nat}{l t m n:List Int}{w w':World}(h:fE F B g l t m n w)(hb:Below w.heap.size w w'):fE F B g l t m n w':=⟨h.good,h.pos,h.spec,h.at_.below hb,h.park,h.tab,h.few,Nat.le_trans h.low hb.size⟩
theorem lT{P:Prop}(h:P:=by repeat (first|exact Below.refl _ _|apply dw|apply dD)):P:=h
theorem kw{F:aN}{B:Nat}{l t:List Int}{A:Option Addr}{c:Nat}{A':Option Addr}{c':Nat}{w:World}(h:kN F B l t A c A' c' w)(s:ByteArray)(hs:s.size<=3000)(a:ByteArray)(m n:List Int)(hf:fG m)(r:ByteArray)(hw:a=(⟨#[108,105,115,116]⟩:ByteArray)\/a=(⟨#[99,97,114,115]⟩:ByteArray)\/a=(⟨#[102,97,114]⟩:ByteArray)\/a=(⟨#[99,117,116,115]⟩:ByteArray)\/a=(⟨#[114,97,110,107]⟩:ByteArray)\/a=(⟨#[99,111,115,116]⟩:ByteArray)\/a=(⟨#[116,97,98,108,101]⟩:ByteArray)\/a=(⟨#[99,111,117,110,116]⟩:ByteArray)\/a=(⟨#[98,97,99,107]⟩:ByteArray)\/a=(⟨#[99,108,97,115,115]⟩:ByteArray)\/a=(⟨#[102,105,110,100]⟩:ByteArray))(hmv:∀g W,fE F B g l t m n W->Calls Tryz.prog 75 #[.pointer (some ⟨g,0,none⟩),.string a] W (eY B g ⟨l,t,r⟩ m n W))(hq:gI s=some (a,m,n)) :
  Calls Tryz.prog 49 #[.agg #[.slice A l.length c,.slice A' t.length c'],.string s] w (p_ B ⟨l,t,r⟩ w):=by
 have b1:=aG (Below.refl w.heap.size w) (.cells #[.slice A l.length c,.slice A' t.length c'] 36);have k1:(w.alloc (.cells #[.slice A l.length c,.slice A' t.length c'] 36)).heap[w.heap.size]?=some (.cells #[.slice A l.length c,.slice A' t.length c'] 36 (0,0)):=bC _ _
 have z1:(w.alloc (.cells #[.slice A l.length c,.slice A' t.length c'] 36)).heap.size=w.heap.size+1:=by simp
 obtain ⟨Wb,hWb⟩:∃W,W=(w.alloc (.cells #[.slice A l.length c,.slice A' t.length c'] 36)).alloc (.cells #[.slice none 0 0,.slice none 0 0] 36):=⟨_,rfl⟩
 have HW:=aa hWb;have HKB:=aa (show Wb.heap[w.heap.size]?=some (.cells #[.slice A l.length c,.slice A' t.length c'] 36 (0,0)) by rw[hWb];exact bq k1 _);have HKR:=aa (show Wb.heap[w.heap.size+1]?=some (.cells #[.slice none 0 0,.slice none 0 0] 36 (0,0)) by rw[hWb,<- z1];exact bC _ _);have HWB:=aa (show Below w.heap.size w Wb by rw[hWb];exact aG b1 _);have HON:=aa (h.below HWB.out);have HRD:=aa (show Calls Tryz.prog 73 _ _ (lW A l.length c A' t.length c' (some (a,m,n)) Wb) from hq▸uB h.spec A l.length c A' t.length c' s hs Wb);have HFW:=aa hf;have HMV:=aa hmv;clear h hs hq b1 k1 z1 hf hmv hWb
 rcases hw with rfl|rfl|rfl|rfl|rfl|rfl|rfl|rfl|rfl|rfl|rfl
 all_goals
  go_enter Tryz.func49,Tryz.ntmps49
  go_wp2_with (first
   | (go_at_call 73;go_loud (rw[<- HW.out];refine HRD.out.mono ?_;rintro e w1 ⟨x',v2,v3,m',n',rfl,hr2,hr3,hm,hb⟩;cases hm _ rfl;obtain ⟨A2,c2,rfl⟩:=Kd.R_slice hr2;obtain ⟨A3,c3,rfl⟩:=Kd.R_slice hr3;have HBz:=aa hb;have HR2:=aa hr2;have HR3:=aa hr3;have HB:=aa (aj HWB.out hb);replace HKB:=aa (aI HKB.out hb);replace HKR:=aa (aI HKR.out hb);clear hr2 hr3 hm hb;have R0:∀o,(w1.alloc o).cell? ⟨w.heap.size,0,none⟩=some (.slice A l.length c):=λo=>bR (ah HKB.out 0) (aG (Below.refl _ _) o);have R1:∀o,(w1.alloc o).cell? ⟨w.heap.size,1,none⟩=some (.slice A' t.length c'):=λo=>bR (ah HKB.out 1) (aG (Below.refl _ _) o);have P0:∀o,(w1.alloc o).cell? ⟨w.heap.size+1,0,none⟩=some (.slice none 0 0):=λo=>bR (ah HKR.out 0) (aG (Below.refl _ _) o);have P1:∀o,(w1.alloc o).cell? ⟨w.heap.size+1,1,none⟩=some (.slice none 0 0):=λo=>bR (ah HKR.out 1) (aG (Below.refl _ _) o);have F0:∀o,(w1.alloc o).frozen? ⟨w.heap.size+1,0,none⟩=false:=λo=>au (bq HKR.out o) 0;have F1:∀o,(w1.alloc o).frozen? ⟨w.heap.size+1,1,none⟩=false:=λo=>au (bq HKR.out o) 1;have hb9:=HBz.out;have HL0:=aa (Kd.R_alloc (Kd.R_below HON.out.list hb9) (.cells #[.slice A l.length c,.slice A' t.length c',.slice A2 m.length c2,.slice A3 n.length c3] 87));have HL1:=aa (Kd.R_alloc (Kd.R_below HON.out.table hb9) (.cells #[.slice A l.length c,.slice A' t.length c',.slice A2 m.length c2,.slice A3 n.length c3] 87));have HNL:=aa (bC w1 (.cells #[.slice A l.length c,.slice A' t.length c',.slice A2 m.length c2,.slice A3 n.length c3] 87));have HSL:=aa (kN.line HON.out HBz.out HR2.out HR3.out HFW.out);have HLT:=aa (dC HKR.out);have HKR1:=aa (bq HKR.out (.cells #[.slice A l.length c,.slice A' t.length c',.slice A2 m.length c2,.slice A3 n.length c3] 87));have HKB1:=aa (bq HKB.out (.cells #[.slice A l.length c,.slice A' t.length c',.slice A2 m.length c2,.slice A3 n.length c3] 87));clear HKR HKB)))
  go_region_held3 (λW:World=>W.cell? ⟨w.heap.size,0,none⟩=some (.slice A l.length c)/\W.cell? ⟨w.heap.size,1,none⟩=some (.slice A' t.length c')) (first|exact ⟨q0,q1⟩|exact ⟨R0 _,R1 _⟩|exact ⟨bR (R0 _) lT,bR (R1 _) lT⟩|exact ⟨ah (fZ (fZ QB.out (Nat.ne_of_lt (Nat.lt_succ_self _)) _) (Nat.ne_of_lt (Nat.lt_succ_self _)) _) 0,ah (fZ (fZ QB.out (Nat.ne_of_lt (Nat.lt_succ_self _)) _) (Nat.ne_of_lt (Nat.lt_succ_self _)) _) 1⟩) (first|(go_at_call 75;refine (HMV.out _ _ (HSL.out.below lT)).mono ?_;rintro e w2 ⟨rfl,hl2,hg2⟩;have hk:=iM (aI HKR1.out (show Below _ _ _ from lT)) hg2 (by intro hk;have:=Option.some.inj hk;have:=HLT.out;omega);have hkb:=iM (aI HKB1.out (show Below _ _ _ from lT)) hg2 (by intro hk;have:=Option.some.inj hk;have:=HLT.out;omega);have HKR:=aa hk;have QB:=aa hkb;have q0:w2.cell? ⟨w.heap.size,0,none⟩=some (.slice A l.length c):=ah hkb 0;have q1:w2.cell? ⟨w.heap.size,1,none⟩=some (.slice A' t.length c'):=ah hkb 1;have q2:w2.cell? ⟨w.heap.size+1,0,none⟩=some (.slice none 0 0):=ah hk 0;have q3:w2.cell? ⟨w.heap.size+1,1,none⟩=some (.slice none 0 0):=ah hk 1;have q4:=au hk 0;have q5:=au hk 1;have HX0:=aa (oC (Kd.R_below HL0.out (show Below _ _ _ from lT)) (aI HNL.out (show Below _ _ _ from lT)) (by decide) hg2);have HX1:=aa (oC (Kd.R_below HL1.out (show Below _ _ _ from lT)) (aI HNL.out (show Below _ _ _ from lT)) (by decide) hg2);have HE:=aa (rf (aj (aG HB.out (.cells #[.slice A l.length c,.slice A' t.length c',.slice A2 m.length c2,.slice A3 n.length c3] 87)) (show Below _ _ _ from lT)) (some w1.heap.size) (by have:=HB.out.size;simp;omega) hg2 (λk hk=>by cases hk;exact HB.out.size));clear hk hkb hg2 hl2))
  go_wp2;exact bodyPost_ret (v:=.tuple #[.agg #[.slice A l.length c,.slice A' t.length c'],.string r]) (by simp[results,Tryz.results49,go_sem,q2,q3]) rfl ⟨_,_,rfl,set2 HKR.out HX0.out (by decide),set2 HKR.out HX1.out (by decide),HON.out.ne,bf (bf HE.out (Nat.le_succ _)) (Nat.le_succ _)⟩
theorem rU(l t:List Int)(o:Option Int):lV l t o=⟨l,t,pX o⟩:=by cases o <;> rfl
theorem DZ{F:aN}{B:Nat}{l t:List Int}{A:Option Addr}{c:Nat}{A':Option Addr}{c':Nat}{w:World}(h:kN F B l t A c A' c' w)(s:ByteArray)(hs:s.size<=3000) :
  Calls Tryz.prog 49 #[.agg #[.slice A l.length c,.slice A' t.length c'],.string s] w (p_ B (d_ F l t s) w):=by
 have what:gI s=none->Calls Tryz.prog 49 #[.agg #[.slice A l.length c,.slice A' t.length c'],.string s] w (p_ B ⟨l,t,gG⟩ w):=λhq=>GD h s hs hq
 have few0:fG []:=⟨by simp,by simp⟩
 have hsz:∀x∈pieces s 32,x.size<=3000:=λx hx=>Nat.le_trans (iC hx) hs;unfold d_
 rcases hp:pieces s 32 with _|⟨a,_|⟨b,_|⟨d,_|⟨e,r⟩⟩⟩⟩
 · dsimp only;exact what (by unfold gI;rw[hp])
 ·
  dsimp only
  have bad:bV a≠⟨#[]⟩->gI s=none:=λhn=>by
   unfold gI;rw[hp];dsimp only;rw[if_neg]
   rcases lX a with k|k|k|k|k <;> first|exact absurd k hn|(rw[k];simp)
  have good:bV a=⟨#[]⟩->gI s=some (a,[],[]):=λhn=>by
   unfold gI;rw[hp];dsimp only;rw[hn];rfl
  unfold nY
  by_cases h0:a.toList=[110,101,120,116]
  · rw[if_pos h0];have ha:=dJ a ⟨#[110,101,120,116]⟩ h0;subst ha;exact ny h s hs _ [] [] few0 _ (.inr (.inl rfl)) (λg W hS=>Jw hS) (good (by unfold bV;simp[h0]))
  rw[if_neg h0]
  by_cases h1:a.toList=[99,97,114,115]
  · rw[if_pos h1];have ha:=dJ a ⟨#[99,97,114,115]⟩ h1;subst ha;exact kw h s hs _ [] [] few0 _ (.inr (.inl rfl)) (λg W hS=>EU hS) (good (by unfold bV;simp[h1]))
  rw[if_neg h1]
  by_cases h2:a.toList=[102,97,114]
  · rw[if_pos h2];have ha:=dJ a ⟨#[102,97,114]⟩ h2;subst ha;exact kw h s hs _ [] [] few0 _ (.inr (.inr (.inl rfl))) (λg W hS=>AX hS) (good (by unfold bV;simp[h2]))
  rw[if_neg h2]
  by_cases h3:a.toList=[99,117,116,115]
  · rw[if_pos h3];have ha:=dJ a ⟨#[99,117,116,115]⟩ h3;subst ha;exact kw h s hs _ [] [] few0 _ (.inr (.inr (.inr (.inl rfl)))) (λg W hS=>IY hS) (good (by unfold bV;simp[h3]))
  rw[if_neg h3]
  by_cases h4:a.toList=[114,97,110,107]
  · rw[if_pos h4];have ha:=dJ a ⟨#[114,97,110,107]⟩ h4;subst ha;exact kw h s hs _ [] [] few0 _ (.inr (.inr (.inr (.inr (.inl rfl))))) (λg W hS=>BL hS) (good (by unfold bV;simp[h4]))
  rw[if_neg h4]
  by_cases h5:a.toList=[116,97,98,108,101]
  · rw[if_pos h5];have ha:=dJ a ⟨#[116,97,98,108,101]⟩ h5;subst ha;exact kw h s hs _ [] [] few0 _ (.inr (.inr (.inr (.inr (.inr (.inr (.inl rfl))))))) (λg W hS=>AB hS) (good (by unfold bV;simp[h5]))
  rw[if_neg h5]
  by_cases h6:a.toList=[99,111,115,116]
  · rw[if_pos h6];have ha:=dJ a ⟨#[99,111,115,116]⟩ h6;subst ha;exact kw h s hs _ [] [] few0 _ (.inr (.inr (.inr (.inr (.inr (.inl rfl)))))) (λg W hS=>G7 hS) (good (by unfold bV;simp[h6]))
  rw[if_neg h6]
  by_cases h7:a.toList=[108,105,115,116]
  · rw[if_pos h7];have ha:=dJ a ⟨#[108,105,115,116]⟩ h7;subst ha;exact kw h s hs _ [] [] few0 _ (.inl rfl) (λg W hS=>Df hS) (good (by unfold bV;simp[h7]))
  rw[if_neg h7];refine what (bad λk=>?_);unfold bV at k;rw[if_neg (by simp only[h0,h1,h2,h3,h4,h5,h6,h7,or_self,not_false_eq_true])]at k
  split at k
  · cases k
  split at k
  · cases k
  split at k <;> cases k
 ·
  dsimp only;have hb3:b.size<=3000:=hsz b (by rw[hp];simp)
  have isl:bV a=⟨#[108]⟩->gI s=(told b).map λm=>(a,m,[]):=λhn=>by
   unfold gI;rw[hp];dsimp only;rw[hn,if_neg (by decide),if_pos rfl]
  have isn:bV a=⟨#[110]⟩->gI s=(bT b).map λk=>(a,[],[k]):=λhn=>by
   unfold gI;rw[hp];dsimp only;rw[hn,if_pos rfl]
  have bad:bV a≠⟨#[108]⟩->bV a≠⟨#[110]⟩->gI s=none:=λh1 h2=>by
   unfold gI;rw[hp];dsimp only;rw[if_neg,if_neg]
   · rcases lX a with k|k|k|k|k <;> first|exact absurd k h1|(rw[k];simp)
   · rcases lX a with k|k|k|k|k <;> first|exact absurd k h2|(rw[k];simp)
  by_cases hl:a.toList=[116,97,107,101]\/a.toList=[106,111,105,110]\/a.toList=[99,108,97,115,115]
  ·
   rw[if_pos hl];unfold jy
   cases hq:told b with
   | none =>
    dsimp only
    refine what ?_
    rcases hl with hl|hl|hl
    · have ha:=dJ a ⟨#[116,97,107,101]⟩ hl;subst ha;rw[isl (by unfold bV;simp[hl]),hq];rfl
    · have ha:=dJ a ⟨#[106,111,105,110]⟩ hl;subst ha;rw[isl (by unfold bV;simp[hl]),hq];rfl
    · have ha:=dJ a ⟨#[99,108,97,115,115]⟩ hl;subst ha;rw[isl (by unfold bV;simp[hl]),hq];rfl
   | some m =>
    dsimp only;have hf:=qP hq hb3
    rcases hl with hl|hl|hl
    · have ha:=dJ a ⟨#[116,97,107,101]⟩ hl;subst ha;rw[if_pos hl];exact ny h s hs _ m [] hf _ (.inl rfl) (λg W hS=>Bf hS) (by rw[isl (by unfold bV;simp[hl]),hq];rfl)
    · have ha:=dJ a ⟨#[106,111,105,110]⟩ hl;subst ha;rw[if_neg (by rw[hl];decide),if_pos hl];exact ny h s hs _ m [] hf _ (.inr (.inr (.inr (.inl rfl)))) (λg W hS=>Jq hS) (by rw[isl (by unfold bV;simp[hl]),hq];rfl)
    · have ha:=dJ a ⟨#[99,108,97,115,115]⟩ hl;subst ha;rw[if_neg (by rw[hl];decide),if_neg (by rw[hl];decide)];exact kw h s hs _ m [] hf _ (.inr (.inr (.inr (.inr (.inr (.inr (.inr (.inr (.inr (.inl rfl)))))))))) (λg W hS=>BS hS) (by rw[isl (by unfold bV;simp[hl]),hq];rfl)
  ·
   rw[if_neg hl]
   have nl:bV a=⟨#[108]⟩->False:=λk=>hl (by
    unfold bV at k
    (repeat' split at k) <;> first|(cases k;done)|assumption)
   cases hq:bT b with
   | none =>
    dsimp only
    refine what ?_
    rcases lX a with k|k|k|k|k
    · exact bad (by rw[k];decide) (by rw[k];decide)
    · rw[isn k,hq];rfl
    · exact bad (by rw[k];decide) (by rw[k];decide)
    · exact (nl k).elim
    · exact bad (by rw[k];decide) (by rw[k];decide)
   | some k =>
    dsimp only;obtain ⟨hk0,hk9⟩:=nR hq;unfold og
    by_cases h0:a.toList=[99,111,117,110,116]
    ·
     rw[if_pos h0];have ha:=dJ a ⟨#[99,111,117,110,116]⟩ h0;subst ha;rw[rU];exact kw h s hs _ [] [k] few0 _ (.inr (.inr (.inr (.inr (.inr (.inr (.inr (.inl rfl)))))))) (λg W hS=>rU _ _ _▸BC hk0 hk9 hS) (by rw[isn (by unfold bV;simp[h0]),hq];rfl)
    rw[if_neg h0]
    by_cases h1:a.toList=[98,97,99,107]
    ·
     rw[if_pos h1];have ha:=dJ a ⟨#[98,97,99,107]⟩ h1;subst ha;rw[rU];exact kw h s hs _ [] [k] few0 _ (.inr (.inr (.inr (.inr (.inr (.inr (.inr (.inr (.inl rfl))))))))) (λg W hS=>rU _ _ _▸BR hk0 hk9 hS) (by rw[isn (by unfold bV;simp[h1]),hq];rfl)
    rw[if_neg h1]
    by_cases h2:a.toList=[110,101,119]
    ·
     rw[if_pos h2];have ha:=dJ a ⟨#[110,101,119]⟩ h2;subst ha;rw[<- xZ];exact ny h s hs _ [] [k] few0 _ (.inr (.inr (.inr (.inr (.inl rfl))))) (λg W hS=>F7 hk0 hk9 hS) (by rw[isn (by unfold bV;simp[h2]),hq];rfl)
    rw[if_neg h2]
    by_cases h3:a.toList=[112,117,116]
    ·
     rw[if_pos h3];have ha:=dJ a ⟨#[112,117,116]⟩ h3;subst ha
     cases hi:F.ins t k with
     | none=>exact ny h s hs _ [] [k] few0 _ (.inr (.inr (.inr (.inr (.inr (.inl rfl)))))) (λg W hS=>Fx hk0 hk9 hi hS) (by rw[isn (by unfold bV;simp[h3]),hq];rfl)
     | some p =>
      obtain ⟨t',a'⟩:=p;exact ny h s hs _ [] [k] few0 _ (.inr (.inr (.inr (.inr (.inr (.inl rfl)))))) (λg W hS=>Cw hk0 hk9 hi hS) (by rw[isn (by unfold bV;simp[h3]),hq];rfl)
    rw[if_neg h3]
    by_cases h4:a.toList=[100,114,111,112]
    ·
     rw[if_pos h4];have ha:=dJ a ⟨#[100,114,111,112]⟩ h4;subst ha;rw[<- xZ];exact ny h s hs _ [] [k] few0 _ (.inr (.inr (.inr (.inr (.inr (.inr rfl)))))) (λg W hS=>Em hk0 hk9 hS) (by rw[isn (by unfold bV;simp[h4]),hq];rfl)
    rw[if_neg h4]
    by_cases h5:a.toList=[102,105,110,100]
    ·
     rw[if_pos h5];have ha:=dJ a ⟨#[102,105,110,100]⟩ h5;subst ha
     cases hi:F.find t k with
     | none=>exact kw h s hs _ [] [k] few0 _ (.inr (.inr (.inr (.inr (.inr (.inr (.inr (.inr (.inr (.inr rfl)))))))))) (λg W hS=>CF hk0 hk9 hi hS) (by rw[isn (by unfold bV;simp[h5]),hq];rfl)
     | some p =>
      obtain ⟨a',b'⟩:=p;exact kw h s hs _ [] [k] few0 _ (.inr (.inr (.inr (.inr (.inr (.inr (.inr (.inr (.inr (.inr rfl)))))))))) (λg W hS=>JM hk0 hk9 hi hS) (by rw[isn (by unfold bV;simp[h5]),hq];rfl)
    rw[if_neg h5];refine what (bad (λk=>nl k) ?_);intro k;unfold bV at k
    (repeat' split at k) <;> first|(cases k;done)|(rename_i hw;rcases hw with hw|hw|hw|hw|hw|hw <;> contradiction)
 ·
  dsimp only
  have bad:bV a≠⟨#[110,110]⟩->gI s=none:=λhn=>by
   unfold gI;rw[hp];dsimp only;rw[if_neg]
   rcases lX a with k|k|k|k|k <;> first|exact absurd k hn|(rw[k];simp)
  by_cases h0:a.toList=[97,116]
  ·
   rw[if_pos h0];have ha:=dJ a ⟨#[97,116]⟩ h0;subst ha
   have hr:gI s=match bT b,bT d with|some k,some r=>some (⟨#[97,116]⟩,[],[k,r])|_,_=>none:=by
    unfold gI;rw[hp];dsimp only;rw[if_pos (by unfold bV;simp[h0])];first|done|rfl
   cases hb:bT b with
   | none=>exact what (by rw[hr,hb])
   | some k =>
    cases hd:bT d with
    | none=>exact what (by rw[hr,hb,hd])
    | some r =>
     obtain ⟨hk0,hk9⟩:=nR hb;obtain ⟨hr0,hr9⟩:=nR hd;exact ny h s hs _ [] [k,r] few0 _ (.inr (.inr (.inl rfl))) (λg W hS=>wF hk0 hk9 hr0 hr9 hS) (by rw[hr,hb,hd])
  ·
   rw[if_neg h0];refine what (bad λk=>h0 ?_);unfold bV at k
   (repeat' split at k) <;> first|(cases k;done)|assumption
 · dsimp only;exact what (by unfold gI;rw[hp])
def AR(s:ByteArray)(n:Nat)(w:World)(e:Ending)(w':World):Prop:=∃gb cap cur,e=.returned (.slice (some ⟨gb,0,none⟩) (n+1) cap)/\n+1<=cap/\w.heap.size+1<=gb/\w'.heap[gb]?=some (.cells cur 9 (0,0))/\(∀ (i:Nat) x,(pieces s 10)[i]?=some x->cur[i]?=some (.string x))/\w'.heap[w.heap.size]?=some (.cells #[.slice none 0 0,.slice none 0 0] 36 (0,0))/\Below w.heap.size w w'
theorem xP{F:aN}(hS:iK F)(s:ByteArray)(hs:s.size<=2000000)(w:World) :
  Calls Tryz.prog 48 #[.string s,.int .u8 10] (w.alloc (.cells #[.slice none 0 0,.slice none 0 0] 36)) (AR s (Lib.countB s ⟨#[10]⟩) w):=by
 have hb:=aG (Below.refl w.heap.size w) (.cells #[.slice none 0 0,.slice none 0 0] 36);have hl:=jE s 10
 refine (hS.split10 s _ hs).mono λe w' h=>?_
 obtain ⟨v,rfl,hv,hb2⟩:=h;obtain ⟨gb,cap,rfl,h1,h2,cur,h3,h4⟩:=yZ hv (by omega);rw[hl]at h1 ⊢;exact ⟨gb,cap,cur,rfl,h1,by simpa using h2,h3,h4,aI (bC w _) hb2,aj hb hb2⟩
theorem IP{F:aN}(hS:iK F)(s:ByteArray)(hs:s.size<=2000000)(w:World)(x:ByteArray)(hx:(pieces s 10)[Lib.countB s ⟨#[10]⟩]?=some x)
  (hq:decide ((s.size:Int)>3000)=true\/decide ((s.size:Int)>3000)=false/\x.toList.isEmpty=false\/decide ((s.size:Int)>3000)=false/\x.toList.isEmpty=true/\decide (((Lib.countB s ⟨#[10]⟩:Nat):Int)>50)=true) :
  Calls Tryz.prog 38 #[.string s] w (mf w):=by
 have HS:=aa (xP hS s hs w);have hle:=Lib.countB_le ⟨#[10]⟩ (Nat.le_refl 1) s.size s (Nat.le_refl _)
 obtain ⟨n,hn⟩:∃n,n=Lib.countB s ⟨#[10]⟩:=⟨_,rfl⟩
 rw[<- hn]at HS hx hq hle
 have hn9:n<=2000000:=by omega
 have HX:=aa hx;have HN:=aa (bC w (.cells #[.slice none 0 0,.slice none 0 0] 36));have HB:=aa (aG (Below.refl w.heap.size w) (.cells #[.slice none 0 0,.slice none 0 0] 36));clear hn hs hx hle
 rcases hq with q1|⟨q1,q2⟩|⟨q1,q2,q3⟩
 ·
  go_enter Tryz.func38,Tryz.ntmps38;go_wp2;have hc0:=(ah HN.out 0).trans rfl;have hc1:=(ah HN.out 1).trans rfl;exact bodyPost_ret (v:=.tuple #[.agg #[.slice none 0 0,.slice none 0 0],.slice none 0 0,.bool false]) (by simp[results,Tryz.results38,go_sem,hc0,hc1]) rfl ⟨rfl,HB.out⟩
 all_goals
  go_enter Tryz.func38,Tryz.ntmps38
  go_wp2_with (go_at_call 48;go_loud (refine HS.out.mono ?_;rintro e w1 ⟨gb,cap,cur,rfl,hcap,hgb,hp,hpx,h0,hb⟩;have HB:=aa hb;have H0:=aa h0;have hc0:w1.cell? ⟨w.heap.size,0,none⟩=some (.slice none 0 0):=ah h0 0;have hc1:w1.cell? ⟨w.heap.size,1,none⟩=some (.slice none 0 0):=ah h0 1;have hf0:=au h0 0;have hf1:=au h0 1;have hcx:w1.cell? ⟨gb,n,none⟩=some (.string x):=(ah hp n).trans (hpx n x HX.out);clear hp h0 hb hpx))
  have HF:=aa (show Below w.heap.size w ((w1.setCell ⟨w.heap.size,0,none⟩ (.slice none 0 0)).setCell ⟨w.heap.size,1,none⟩ (.slice none 0 0)) from bf (bf HB.out (Nat.le_refl _)) (Nat.le_refl _));exact bodyPost_ret (v:=.tuple #[.agg #[.slice none 0 0,.slice none 0 0],.slice none 0 0,.bool false]) (by simp[results,Tryz.results38,go_sem,hc0,hc1]) rfl ⟨rfl,HF.out⟩
theorem FY(F:aN)(hF:Good F)(hP:Pos F)(hS:iK F)(hp0:F.park [0]=true)(ht0:F.tab firstT=true)(hD:∀w,Calls Tryz.prog 67 #[] w (nk [0] firstT w))(s:ByteArray)(hs:s.size<=3000)(w:World)(x:ByteArray)(hx:(pieces s 10)[Lib.countB s ⟨#[10]⟩]?=some x)(hx0:x.toList.isEmpty=true)(hc:Lib.countB s ⟨#[10]⟩<=50) :
  Calls Tryz.prog 38 #[.string s] w (l_ (some (bP F ((pieces s 10).take (Lib.countB s ⟨#[10]⟩)))) w):=by
 have HSP:=aa (xP hS s (by omega) w);have HPB:=aa (jE s 10);have HZ:=aa (show ∀y∈pieces s 10,y.size<=3000 from λy hy=>Nat.le_trans (iC hy) hs);have q1:decide ((s.size:Int)>3000)=false:=decide_eq_false (by omega)
 obtain ⟨n,hn⟩:∃n,n=Lib.countB s ⟨#[10]⟩:=⟨_,rfl⟩
 rw[<- hn]at HSP hx hc HPB ⊢;have q2:decide ((n:Int)>50)=false:=decide_eq_false (by omega);have HX:=aa hx;have HK:=aa (oZ hF hp0 ht0);have HF:=aa hF;have HP:=aa hP;have HS:=aa hS;clear hn hs hx hF hP hS hp0 ht0;go_enter Tryz.func38,Tryz.ntmps38
 go_wp2_with (first
  | (go_at_call 48;go_loud (refine HSP.out.mono ?_;rintro e w1 ⟨gb,cap,cur,rfl,hcap,hgb,hp,hpx,h0,hb⟩;have HB:=aa hb;have H0:=aa h0;have HPP:=aa hp;have HPX:=aa hpx;have HGB:=aa hgb;have hcx:w1.cell? ⟨gb,n,none⟩=some (.string x):=(ah hp n).trans (hpx n x HX.out);clear hp h0 hb hpx hgb))
  | (go_at_call 67;go_loud (refine (hD _).mono ?_;rintro e w2 ⟨v0,v1,rfl,hr0,hr1,hne,hb⟩;obtain ⟨A0,c0,rfl⟩:=Kd.R_slice hr0;obtain ⟨A1,c1,rfl⟩:=Kd.R_slice hr1;have HGL:=aa (Nat.lt_of_lt_of_le (dC HPP.out) hb.size);have H0:=aa (aI H0.out hb);have HPP:=aa (aI HPP.out hb);have HR0:=aa (Kd.R_lower hr0 (ay HB.out));have HR1:=aa (Kd.R_lower hr1 (ay HB.out));have HNE:=aa hne;have HL:=aa (dC H0.out);replace HB:=aa (aj HB.out hb);clear hr0 hr1 hne hb)))
 obtain ⟨W0,hW0⟩:∃W0,W0=w2.alloc (.cells #[.slice A0 1 c0,.slice A1 firstT.length c1] 36):=⟨_,rfl⟩
 have hb2:=aG (Below.refl w2.heap.size w2) (.cells #[.slice A0 1 c0,.slice A1 firstT.length c1] 36)
 have HD:=aa (show dW W0 w.heap.size w2.heap.size [0] firstT from
  ⟨by have:=HL.out;omega,_,_,by rw[hW0];exact bC _ _,by rw[hW0];exact Kd.R_below HR0.out hb2,by rw[hW0];exact Kd.R_below HR1.out hb2,HNE.out⟩)
 have HO:=aa (show Kd.R Kd.string 9 W0 w2.heap.size (λ_=>True) (.slice none 0 0) [] from Kd.R_nil _ _ _ _ _);have HB2:=aa (show Below w2.heap.size w2 W0 by rw[hW0];exact hb2);rw[<- hW0];clear hW0 hb2 HR0 HR1 HNE
 go_loopg [8,37] n (λkq v8 v37 w'=>∃ (i:Nat) (iz:Int),v37=.int .i64 iz/\ae (iz=(i:Int))/\ae (i+kq=n)/\ae (dW w' w.heap.size w2.heap.size (bP F ((pieces s 10).take i)).1 (bP F ((pieces s 10).take i)).2.1)/\ae (Kd.R Kd.string 9 w' w2.heap.size (λ_=>True) v8 (bP F ((pieces s 10).take i)).2.2)/\ae (Below w2.heap.size w2 w'))
 case atStart=>exact ⟨0,0,rfl,⟨rfl⟩,⟨by omega⟩,HD,HO,HB2⟩
 case round =>
  clear HO HD HB2;obtain ⟨i,iz,rfl,NI,NK,HD,HO,HB2⟩:=hrel
  cases gk with
  | zero =>
   have hi:i=n:=by have:=NK.out;omega
   subst hi;have q4:decide (iz<(i:Int))=false:=decide_eq_false (by have:=NI.out;omega);obtain ⟨hlo,v0,v1,h1,h2,h3,hne⟩:=HD.out;obtain ⟨B0,d0,rfl⟩:=Kd.R_slice h2;obtain ⟨B1,d1,rfl⟩:=Kd.R_slice h3;have h0:wr.heap[w.heap.size]?=some (.cells #[.slice none 0 0,.slice none 0 0] 36 (0,0)):=(HB2.out.block _ (by have:=HL.out;omega)).trans H0.out;have hcg0:wr.cell? ⟨w2.heap.size,0,none⟩=some (.slice B0 _ d0):=(ah h1 0).trans rfl;have hcg1:wr.cell? ⟨w2.heap.size,1,none⟩=some (.slice B1 _ d1):=(ah h1 1).trans rfl;have hc0:wr.cell? ⟨w.heap.size,0,none⟩=some (.slice none 0 0):=ah h0 0;have hc1:wr.cell? ⟨w.heap.size,1,none⟩=some (.slice none 0 0):=ah h0 1;have hf0:=au h0 0;have hf1:=au h0 1;have H1:=aa h0;have H2:=aa h2;have H3:=aa h3;have HN:=aa hne;clear h0 h1 h2 h3 hne hlo;go_wp2;have HW:=aa (aj HB.out HB2.out);have HE:=aa (show Below w.heap.size w ((wr.setCell ⟨w.heap.size,0,none⟩ (.slice B0 (bP F ((pieces s 10).take i)).1.length d0)).setCell ⟨w.heap.size,1,none⟩ (.slice B1 (bP F ((pieces s 10).take i)).2.1.length d1)) from bf (bf HW.out (Nat.le_refl _)) (Nat.le_refl _))
   exact bodyPost_ret (v:=.tuple #[.agg #[.slice B0 (bP F ((pieces s 10).take i)).1.length d0,.slice B1 (bP F ((pieces s 10).take i)).2.1.length d1],u8,.bool true]) (by simp[results,Tryz.results38,go_sem,hc0,hc1]) rfl
    ⟨_,_,_,_,_,_,rfl,set2 H1.out H2.out (by decide),set2 H1.out H3.out (by decide),HN.out,set2 H1.out (Kd.R_lower HO.out (ay HB.out)) (by decide),λm h=>(by cases h;rfl),HE.out⟩
  | succ d =>
   have hi0:0<=iz:=by have:=NI.out;omega
   have hin:iz<(n:Int):=by have:=NI.out;have:=NK.out;omega
   have q4:decide (iz<(n:Int))=true:=decide_eq_true hin
   have hib:i<(pieces s 10).length:=by have:=NK.out;have:=HPB.out;omega
   obtain ⟨z,hz⟩:∃z,z=(pieces s 10)[i]:=⟨_,rfl⟩
   have hpp:wr.heap[gb]?=some (.cells cur 9 (0,0)):=(HB2.out.block _ HGL.out).trans HPP.out;have hxl:wr.cell? ⟨gb,iz.toNat,none⟩=some (.string z):=(ah hpp _).trans (by rw[NI.out,Int.toNat_natCast];exact HPX.out i z (by rw[hz];simp[hib]));have HZz:=aa (show z.size<=3000 from HZ.out z (by rw[hz];exact List.getElem_mem _));have HTk:=aa (show bP F ((pieces s 10).take (i+1))=jg F (bP F ((pieces s 10).take i)) z by rw[List.take_succ_eq_append_getElem hib,vK,hz]);have HLt:=aa (show (bP F ((pieces s 10).take i)).2.2.length<8796093022208 by rw[(HK.out _).2.2,List.length_take];have:=NK.out;omega);have HIz:=aa (show wrap64 (iz+1)=((i+1:Nat):Int) by rw[NI.out];have:=NK.out;rw[wrap64_in _ (by omega) (by omega)];omega);clear hz hpp hib
   obtain ⟨st,hst⟩:∃st,st=bP F ((pieces s 10).take i):=⟨_,rfl⟩
   have HKk:=aa (HK.out ((pieces s 10).take i));rw[<- hst]at HD HO HTk HLt HKk;clear hst;replace hi0:=eq_true hi0;replace hin:=eq_true hin;obtain ⟨hlo,v0,v1,h1,h2,h3,hne⟩:=HD.out;obtain ⟨B0,d0,rfl⟩:=Kd.R_slice h2;obtain ⟨B1,d1,rfl⟩:=Kd.R_slice h3;have hcg0:wr.cell? ⟨w2.heap.size,0,none⟩=some (.slice B0 _ d0):=(ah h1 0).trans rfl;have hcg1:wr.cell? ⟨w2.heap.size,1,none⟩=some (.slice B1 _ d1):=(ah h1 1).trans rfl;have H1:=aa h1;have HLO:=aa hlo;have HON:=aa (show kN F w.heap.size st.1 st.2.1 B0 d0 B1 d1 wr from ⟨HF.out,HP.out,HS.out,HKk.out.1,HKk.out.2.1,Nat.le_trans (ay HB.out) HB2.out.size,h2,h3,hne⟩);clear h1 h2 h3 hne hlo HD
   go_wp2_with (first
    | (go_at_call 49;go_loud (refine (DZ HON.out z HZz.out).mono ?_;rintro e w3 ⟨u0,u1,rfl,hr0,hr1,hne,hb⟩;obtain ⟨B2,d2,rfl⟩:=Kd.R_slice hr0;obtain ⟨B3,d3,rfl⟩:=Kd.R_slice hr1;have hk:=aI H1.out hb;have P0:∀o,(w3.alloc o).cell? ⟨w2.heap.size,0,none⟩=some (.slice B0 _ d0):=λo=>(ah (bq hk o) 0).trans rfl;have P1:∀o,(w3.alloc o).cell? ⟨w2.heap.size,1,none⟩=some (.slice B1 _ d1):=λo=>(ah (bq hk o) 1).trans rfl;have F0:∀o,(w3.alloc o).frozen? ⟨w2.heap.size,0,none⟩=false:=λo=>au (bq hk o) 0;have F1:∀o,(w3.alloc o).frozen? ⟨w2.heap.size,1,none⟩=false:=λo=>au (bq hk o) 1;have HKO:=aa (bq hk (.cells #[.slice B2 (d_ F st.1 st.2.1 z).l.length d2,.slice B3 (d_ F st.1 st.2.1 z).t.length d3] 36));have HD:=aa (show dW (((w3.alloc (.cells #[.slice B2 (d_ F st.1 st.2.1 z).l.length d2,.slice B3 (d_ F st.1 st.2.1 z).t.length d3] 36)).setCell ⟨w2.heap.size,0,none⟩ (.slice B2 (d_ F st.1 st.2.1 z).l.length d2)).setCell ⟨w2.heap.size,1,none⟩ (.slice B3 (d_ F st.1 st.2.1 z).t.length d3)) w.heap.size w2.heap.size (d_ F st.1 st.2.1 z).l (d_ F st.1 st.2.1 z).t from ⟨HLO.out,_,_,dV (dV HKO.out 0 _ rfl) 1 _ rfl,set2 HKO.out (Kd.R_alloc hr0 _) (by decide),set2 HKO.out (Kd.R_alloc hr1 _) (by decide),hne⟩);replace HO:=aa (set2 (a:=.slice B2 (d_ F st.1 st.2.1 z).l.length d2) (b:=.slice B3 (d_ F st.1 st.2.1 z).t.length d3) HKO.out (Kd.R_alloc (Kd.R_below HO.out hb) (.cells #[.slice B2 (d_ F st.1 st.2.1 z).l.length d2,.slice B3 (d_ F st.1 st.2.1 z).t.length d3] 36)) (by decide));replace HB2:=aa (bf (g:=w2.heap.size) (j:=1) (v:=.slice B3 (d_ F st.1 st.2.1 z).t.length d3) (bf (g:=w2.heap.size) (j:=0) (v:=.slice B2 (d_ F st.1 st.2.1 z).l.length d2) (aG (aj HB2.out hb) (.cells #[.slice B2 (d_ F st.1 st.2.1 z).l.length d2,.slice B3 (d_ F st.1 st.2.1 z).t.length d3] 36)) (Nat.le_refl _)) (Nat.le_refl _));clear hk hr0 hr1 hne hb))
    | (at_builtin;go_loud (refine qL (.tmp 48) (.tmp 50) _ _ _ HO.out HB2.out HLt.out ?_ (hx:=(by refine Eq.trans (b:=.slice (some ⟨w3.heap.size+1,0,none⟩) 1 1) rfl ?_;simp));intro v1 w4 ho hb hg;replace HD:=aa (dW.append HD.out HO.out hg);replace HO:=aa ho;replace HB2:=aa hb;clear ho hb hg)))
   go_roundg d
   case measure=>omega
   case rel=>exact ⟨i+1,_,rfl,HIz,⟨by have:=NK.out;omega⟩,⟨by rw[HTk.out];exact HD.out⟩,⟨by rw[HTk.out];exact HO.out⟩,HB2⟩
theorem Eb(F:aN)(hF:Good F)(hP:Pos F)(hS:iK F)(hp0:F.park [0]=true)(ht0:F.tab firstT=true)(hD:∀w,Calls Tryz.prog 67 #[] w (nk [0] firstT w))(s:ByteArray)(hs:s.size<=2000000)(w:World) :
  (eZ F s=none->Calls Tryz.prog 38 #[.string s] w (mf w))/\∀y,eZ F s=some y->Calls Tryz.prog 38 #[.string s] w (l_ (some y) w):=by
 have h2:Lib.countB s ⟨#[10]⟩<(pieces s 10).length:=by rw[jE];omega
 obtain ⟨x,hx⟩:∃x,x=(pieces s 10)[Lib.countB s ⟨#[10]⟩]:=⟨_,rfl⟩
 have hgx:(pieces s 10)[Lib.countB s ⟨#[10]⟩]?=some x:=by rw[List.getElem?_eq_getElem h2,hx]
 have hgd:(pieces s 10).getD (Lib.countB s ⟨#[10]⟩) ⟨#[0]⟩=x:=by rw[List.getD_eq_getElem?_getD,hgx];rfl
 unfold eZ;rw[hgd]
 by_cases c:s.size<=3000/\Lib.countB s ⟨#[10]⟩<=50/\x.toList=[]
 ·
  rw[if_pos c];obtain ⟨c1,c2,c3⟩:=c;refine ⟨λh=>(by cases h),λy hq=>?_⟩;rw[<- hq];exact FY F hF hP hS hp0 ht0 hD s c1 w x hgx (by rw[c3];rfl) c2
 ·
  rw[if_neg c];refine ⟨λ_=>IP hS s hs w x hgx ?_,λy h=>(by cases h)⟩
  by_cases c1:s.size<=3000
  ·
   by_cases c3:x.toList=[]
   · exact .inr (.inr ⟨decide_eq_false (by omega),by rw[c3];rfl,decide_eq_true (by have:¬ Lib.countB s ⟨#[10]⟩<=50:=λh=>c ⟨c1,h,c3⟩;omega)⟩)
   · exact .inr (.inl ⟨decide_eq_false (by omega),by cases hl:x.toList with|nil=>exact absurd hl c3|cons _ _=>rfl⟩)
  · exact .inl (decide_eq_true (by omega))
def nK(F:aN)(s:ByteArray):Option (List ByteArray):=(eZ F s).map λx=>x.2.2
def uf(o:Option (List ByteArray))(w:World)(e:Ending)(w':World):Prop:=∃v,e=.returned (.tuple #[v,.bool o.isSome])/\Kd.R Kd.string 9 w' w.heap.size (λ_=>True) v (o.getD [])/\Below w.heap.size w w'
theorem Jd(F:aN)(s:ByteArray)(w:World)(h:(eZ F s=none->Calls Tryz.prog 39 #[.string s] w (mf w))/\∀y,eZ F s=some y->Calls Tryz.prog 39 #[.string s] w (l_ (some y) w)) :
  Calls Tryz.prog 15 #[.string s] w (uf (nK F s) w):=by
 unfold nK
 cases hq:eZ F s with
 | none =>
  have HC:=aa (h.1 hq);clear h hq;go_enter Tryz.func15,Tryz.ntmps15
  go_wp2_with (go_at_call 39;refine HC.out.mono ?_;rintro e w1 ⟨rfl,hb⟩;have HB:=aa hb;clear hb)
  go_ret2;exact ⟨_,rfl,Kd.R_nil _ _ _ _ _,aW⟩
 | some y =>
  have HC:=aa (h.2 y hq);clear h hq;go_enter Tryz.func15,Tryz.ntmps15
  go_wp2_with (go_at_call 39;refine HC.out.mono ?_;rintro e w1 ⟨v0,v1,v2,l,t,rs,rfl,h0,h1,h2,h3,h4,hb⟩;have HE:=aa (congrArg (λx=>x.2.2) (h4 _ rfl));obtain ⟨A0,c0,rfl⟩:=Kd.R_slice h0;obtain ⟨A1,c1,rfl⟩:=Kd.R_slice h1;have HP:=aa h3;have HB:=aa hb;clear h0 h1 h2 h3 h4 hb)
  go_ret2;exact ⟨_,rfl,by rw[show (Option.map (λx:List Int × List Int × List ByteArray=>x.2.2) (some y)).getD []=rs from HE.out.symm];exact ja HP.out,aW⟩
theorem He(F:aN)(s:ByteArray)(w:World)(h:(eZ F s=none->Calls Tryz.prog 38 #[.string s] w (mf w))/\∀y,eZ F s=some y->Calls Tryz.prog 38 #[.string s] w (l_ (some y) w)) :
  Calls Tryz.prog 14 #[.string s] w (uf (nK F s) w):=by
 unfold nK
 cases hq:eZ F s with
 | none =>
  have HC:=aa (h.1 hq);clear h hq;go_enter Tryz.func14,Tryz.ntmps14
  go_wp2_with (go_at_call 38;refine HC.out.mono ?_;rintro e w1 ⟨rfl,hb⟩;have HB:=aa hb;clear hb)
  go_ret2;exact ⟨_,rfl,Kd.R_nil _ _ _ _ _,aW⟩
 | some y =>
  have HC:=aa (h.2 y hq);clear h hq;go_enter Tryz.func14,Tryz.ntmps14
  go_wp2_with (go_at_call 38;refine HC.out.mono ?_;rintro e w1 ⟨v0,v1,v2,l,t,rs,rfl,h0,h1,h2,h3,h4,hb⟩;have HE:=aa (congrArg (λx=>x.2.2) (h4 _ rfl));obtain ⟨A0,c0,rfl⟩:=Kd.R_slice h0;obtain ⟨A1,c1,rfl⟩:=Kd.R_slice h1;have HP:=aa h3;have HB:=aa hb;clear h0 h1 h2 h3 h4 hb)
  go_ret2;exact ⟨_,rfl,by rw[show (Option.map (λx:List Int × List Int × List ByteArray=>x.2.2) (some y)).getD []=rs from HE.out.symm];exact ja HP.out,aW⟩
theorem EC(F:aN)(hF:Good F)(hI:nN F)(hp0:F.park [0]=true)(ht0:F.tab firstT=true)(hD:∀w,Calls Tryz.prog 37 #[] w (nk [0] firstT w))(s:ByteArray)(hs:s.size<=2000000)(w:World)(hG:dG w):Calls Tryz.prog 15 #[.string s] w (uf (nK F s) w) :=
 Jd F s w ⟨zU F s hs w hG,λy hq=>by have h:=uq F hF hI hp0 ht0 hD s hs w hG;rwa [hq]at h⟩
def GZ(l:List Int)(w:World)(e:Ending)(w':World):Prop:=∃v,e=.returned (.agg #[v])/\Kd.R (Kd.int .i64) 3 w' w.heap.size (λ_=>True) v l/\Below w.heap.size w w'
theorem yX(N:Nat)(h1:1<=N)(h12:N<=12)(w:World):Calls Tryz.prog 66 #[.int .i64 (N:Int)] w (GZ (List.replicate N (-1)) w):=by
 have HR:=aa λ(ad:Addr) (c0:Nat) (x:Int) (w:World)=>xw N h1 h12 ad c0 x w;have b1:=aG (Below.refl w.heap.size w) (.cells #[.slice none 0 0] 34);have HB:=aa (aG b1 (.cells #[.int .i64 (-1)] 3));have HK:=aa (bq (bC w (.cells #[.slice none 0 0] 34)) (.cells #[.int .i64 (-1)] 3))
 have HX:=aa (show ((w.alloc (.cells #[.slice none 0 0] 34)).alloc (.cells #[.int .i64 (-1)] 3)).cell? ⟨w.heap.size+1,0,none⟩=some (.int .i64 (-1)) by
  have:=ah (bC (w.alloc (.cells #[.slice none 0 0] 34)) (.cells #[.int .i64 (-1)] 3)) 0
  have e:(w.alloc (.cells #[.slice none 0 0] 34)).heap.size=w.heap.size+1:=by simp
  rw[e]at this;exact this)
 clear h1 h12 b1;go_enter Tryz.func66,Tryz.ntmps66
 go_wp2_with (go_at_call 106;go_loud (refine (HR.out _ _ _ _ HX.out).mono ?_;rintro e w1 ⟨v,rfl,hv,hb⟩;obtain ⟨A,c,rfl⟩:=Kd.R_slice hv;have hk:=aI HK.out hb;have hc:w1.cell? ⟨w.heap.size,0,none⟩=some (.slice none 0 0):=ah hk 0;have hf:=au hk 0;have HK2:=aa hk;have HV:=aa (Kd.R_lower hv (ay HB.out));have HE:=aa (aj HB.out hb);clear hk hv hb))
 have HV2:=Kd.R_set HV.out HK2.out (by decide) 0 (.slice A N c);rw[List.length_replicate]at HV2;exact bodyPost_ret (v:=.agg #[.slice A N c]) (by simp[results,Tryz.results66,go_sem,hc]) rfl ⟨_,rfl,HV2,bf HE.out (Nat.le_refl _)⟩
theorem rO(w:World):Calls Tryz.prog 37 #[] w (nk [0] firstT w):=by
 have HC:=aa λ(w:World)=>yX 7 (by omega) (by omega) w;have b1:=aG (Below.refl w.heap.size w) (.cells #[.slice none 0 0,.slice none 0 0] 36)
 have e:(w.alloc (.cells #[.slice none 0 0,.slice none 0 0] 36)).heap.size=w.heap.size+1:=by simp
 have HB:=aa (aG b1 (.cells #[.int .i64 0] 3));have HK:=aa (bq (bC w (.cells #[.slice none 0 0,.slice none 0 0] 36)) (.cells #[.int .i64 0] 3));have hn:=bC (w.alloc (.cells #[.slice none 0 0,.slice none 0 0] 36)) (.cells #[.int .i64 0] 3);rw[e]at hn
 have HL:=aa (show Kd.R (Kd.int .i64) 3 ((w.alloc (.cells #[.slice none 0 0,.slice none 0 0] 36)).alloc (.cells #[.int .i64 0] 3)) w.heap.size (λ_=>True) (.slice (some ⟨w.heap.size+1,0,none⟩) 1 1) [0] from
  Kd.R_of_own ⟨by simp[encs],.inr ⟨w.heap.size+1,1,_,rfl,Nat.le_succ _,hn,by simp,by simp[maxLen],by simp,by simp[encs]⟩⟩ (λ_ _=>trivial))
 clear b1 e hn;go_enter Tryz.func37,Tryz.ntmps37
 go_wp2_with (go_at_call 66;go_loud (refine (HC.out _).mono ?_;rintro e w1 ⟨v,rfl,hv,hb⟩;obtain ⟨A,c,rfl⟩:=Kd.R_slice hv;have hk:=aI HK.out hb;have hc0:w1.cell? ⟨w.heap.size,0,none⟩=some (.slice none 0 0):=ah hk 0;have hc1:w1.cell? ⟨w.heap.size,1,none⟩=some (.slice none 0 0):=ah hk 1;have hf0:=au hk 0;have hf1:=au hk 1;have HK2:=aa hk;have HNE:=aa (l7 hv HL.out);have HV:=aa (Kd.R_lower hv (ay HB.out));have HL2:=aa (Kd.R_below HL.out hb);have HE:=aa (aj HB.out hb);clear hk hv hb))
 have HV2:=set2 (a:=.slice (some ⟨w.heap.size+1,0,none⟩) 1 1) (b:=.slice A 7 c) HK2.out HV.out (by decide);have HL3:=set2 (a:=.slice (some ⟨w.heap.size+1,0,none⟩) 1 1) (b:=.slice A 7 c) HK2.out HL2.out (by decide);exact bodyPost_ret (v:=.agg #[.slice (some ⟨w.heap.size+1,0,none⟩) 1 1,.slice A 7 c]) (by simp[results,Tryz.results37,go_sem,hc0,hc1]) rfl ⟨_,_,rfl,HL3,HV2,λk h1 h2=>HNE.out k h2 h1,bf (bf HE.out (Nat.le_refl _)) (Nat.le_refl _)⟩
end Go.Proofs.YtjdlhefjgceabaaGreatDoor.Hand
