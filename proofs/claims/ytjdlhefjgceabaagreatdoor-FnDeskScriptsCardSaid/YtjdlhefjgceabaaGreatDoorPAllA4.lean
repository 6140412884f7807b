import Derived.Test.YtjdlhefjgceabaaGreatDoorHm4
set_option linter.unusedVariables false
set_option linter.unusedSimpArgs false
namespace Go.Proofs.YtjdlhefjgceabaaGreatDoor.PAll
open Go.RowKit Hand YtjdlhefjgceabaaGreatDoorW.PrintWords YtjdlhefjgceabaaGreatDoorW.PrintLast YtjdlhefjgceabaaGreatDoorW.PrintMore
attribute [local go_sem] l8 mF lZ mo mr mK nI mQ
def pW:Option Int->Value
  | none=>.nilIface
  | some c=>.iface 0 (.int .i64 c)
theorem ig:pW none=.nilIface:=rfl
theorem ic(c:Int):pW (some c)=.iface 0 (.int .i64 c):=rfl
theorem info3:(Tryz.prog.info? 3).map (λi=>(i.zero,i.size,i.bytes))=some (some (.int .i64 0),1,8):=by kernel_rfl
theorem ui:(Tryz.prog.info? 4).map (λi=>(i.zero,i.size,i.bytes))=some (some (.bool false),1,1):=by kernel_rfl
theorem yx:(Tryz.prog.info? 9).map (λi=>(i.zero,i.size,i.bytes))=some (some (.string ⟨#[]⟩),1,16):=by kernel_rfl
theorem IU:(Tryz.prog.info? 22).map (λi=>(i.zero,i.size,i.bytes))=some (some (.slice none 0 0),1,24):=by kernel_rfl
def kS(xs:List (List Int))(i:Int):(List Int):=xs.getD i.toNat ([]:List Int)
theorem ym{w:World}{A:Option Addr}{n:Nat}{xs:List (List Int)}(h:Kd.C (Kd.slice 3 (Kd.int .i64)) w A n xs)(i:Int)(h0:0<=i)(h1:i<n):∃ad A0 c0,A=some ad/\w.cell? (ad.add i.toNat)=some (.slice A0 (kS xs i).length c0)/\(kS xs i).length<=c0/\(Kd.int .i64).C w A0 (kS xs i).length (kS xs i):=by
  obtain ⟨ad,c,e,_,hK,hc0⟩:=Kd.C_get h ([]:List Int) i h0 h1;have hc:∀j u,c[j]?=some u->w.cell? (ad.add (i.toNat * 1+j))=some u:=hc0;obtain ⟨A0,c0,rfl,l0,g0⟩:=hK;exact ⟨ad,A0,c0,e,by have hq:=hc 0 _ rfl;rwa [Nat.mul_one,Nat.add_zero]at hq,l0,g0⟩
theorem aA{α β:Type}{o:Option α}{f:α->Option β}{r:β}(h:o.bind f=some r):∃t,ae (o=some t)/\f t=some r:=(Option.bind_eq_some_iff.mp h).imp λ_ h=>⟨⟨h.1⟩,h.2⟩
theorem Ad:¬ (false=true):=by decide
theorem ax {P:Program} {ops:Array Oper} {Q:Exit->Act->World->Prop} {rest:List Oper} {oi:Oper} {a:Act} {w:World} (n:Tmp) {f:FuncId} {fn:Func} {az:Array Operand} {tz:Array TypeId} (hf:P.funcs[f]?=some fn) (args:Array Value) (h:Calls P f args w λe w'=>∃v,e=.returned v/\wpList P ops Q rest (a.put (some n) v) w') (hd:oi.dst=some n:=by exact rfl) (hg:oi.guard=none:=by exact rfl) (hname:(fn.name == "runtime.NumGoroutine")=false:=by kernel_rfl) (hb:fn.body.isSome=true:=by exact rfl) (hop:oi.op=.call { callee:=.value (.func f),args:=az,argTypes:=tz }:=by exact rfl) (hargs:az.map a.eval=args:=by (try simp only[List.map_toArray,List.map_cons,List.map_nil]);first|done|rfl|(simp only[List.length_drop,List.length_take];rfl)):wpList P ops Q (oi :: rest) a w:=oL (some n) hd hg hf hname hb args hop hargs h
theorem af{P:Prop}(h:P:=by repeat (first|(with_reducible first|exact HB.out|apply aG|apply dD|apply dw)|exact HB.out)):P:=h
theorem aY{P:Prop}{Q1:Prop}(x1_:Q1)(h:Q1->P:=by intro x1_;repeat (first|(with_reducible first|exact HB.out|apply aG|apply dD|apply dw|refine bf ?_ x1_)|exact HB.out)):P:=h x1_
theorem aJ{P:Prop}{Q1:Prop}(x1_:Q1)(h:Q1->P:=by intro x1_;(with_reducible repeat (first|refine di ?_ _|refine bS ?_|refine bq ?_ _));exact x1_):P:=h x1_
theorem ai{P:Prop}{Q1:Prop}(x1_:Q1)(h:Q1->P:=by intro x1_;(with_reducible repeat (first|apply Kd.R_alloc|apply Kd.R_drewN|apply Kd.R_drew));exact x1_):P:=h x1_
theorem dM{P:Prop}{Q1:Prop}{Q2:Prop}(x1_:Q1)(x2_:Q2)(h:Q1->Q2->P:=by intro x1_ x2_;repeat (first|(with_reducible first|exact HB.out|apply aG|apply dD|apply dw|refine bf ?_ x1_|refine bf ?_ x2_)|exact HB.out)):P:=h x1_ x2_
theorem ag{P:Prop}(h:P:=by first|rfl|(simp;done)|(simp[*];done)):P:=h
theorem bQ{P:Prop}{Q1:Prop}(x1_:Q1)(h:Q1->P:=by intro x1_;repeat (first|exact (Kd.C_below x1_ HB.out)|(with_reducible refine Kd.C_alloc ?_ _)|(with_reducible refine Kd.C_drewN ?_ _)|(with_reducible refine Kd.C_drew ?_))):P:=h x1_
theorem aD{P:Prop}(h:P:=by first|(with_reducible assumption)|assumption):P:=h
theorem aU{P:Prop}(h:P:=by first|rfl|(simp[ig,ic] <;> rfl)|(simp[*,ig,ic] <;> rfl)):P:=h
theorem aZ{P:Prop}(h:P:=by repeat (first|exact bg.refl _|apply bg.step)):P:=h
theorem dU{P:Prop}{Q1:Prop}(x1_:Q1)(h:Q1->P:=by intro x1_;repeat (first|exact x1_|(with_reducible refine Kd.C_alloc ?_ _)|(with_reducible refine Kd.C_drewN ?_ _)|(with_reducible refine Kd.C_drew ?_))):P:=h x1_
theorem d9{P:Prop}(h:P:=by first|exact Kd.R_nil _ _ _ _ _|exact Kd.N_nil _ _ _ _ _|exact Kd.V_nil _ _ _ _ _|exact Kd.Q_nil _ _ _ _ _|exact Kd.S_nil _ _ _ _ _):P:=h
theorem eH{P:Prop}{Q1:Prop}(x1_:Q1)(h:Q1->P:=by intro x1_;repeat (first|exact (Kd.R_reads' x1_).2.2|(with_reducible refine Kd.C_alloc ?_ _)|(with_reducible refine Kd.C_drewN ?_ _)|(with_reducible refine Kd.C_drew ?_))):P:=h x1_
theorem eP{P:Prop}(h:P:=by first|exact ⟨rfl,_,World.drewN_drewN _ _ _⟩|exact ⟨rfl,_,Eq.trans (World.drewN_drewN _ _ _) (congrArg (World.drewN _) (Nat.add_assoc _ _ _))⟩):P:=h
theorem lm{P:Prop}{Q1:Prop}(x1_:Q1)(h:Q1->P:=by intro x1_;(with_reducible repeat (first|refine di ?_ _|refine bS ?_|refine bq ?_ _));refine dV (cs:=#[.slice none 0 0]) ?_ 0 _ rfl;(with_reducible repeat (first|refine di ?_ _|refine bS ?_|refine bq ?_ _));exact x1_):P:=h x1_
theorem eO{P:Prop}(h:P:=by first|(go_simp;done)|(go_simp;rfl)):P:=h
theorem g_{P:Prop}(h:P:=by (try simp only[List.map_toArray,List.map_cons,List.map_nil]);first|done|rfl|(simp only[List.length_drop,List.length_take];rfl)):P:=h
theorem ow{P:Prop}{Q1:Prop}{Q2:Prop}{Q3:Prop}(x1_:Q1)(x2_:Q2)(x3_:Q3)(h:Q1->Q2->Q3->P:=by intro x1_ x2_ x3_;repeat (first|(with_reducible first|exact HB.out|apply aG|apply dD|apply dw|refine bf ?_ x1_|refine bf ?_ x2_|refine bf ?_ x3_)|exact HB.out)):P:=h x1_ x2_ x3_
theorem oq{P:Prop}(h:P:=by repeat (first|(with_reducible first|exact HK.out|apply Kept.alloc|apply Kept.drewN|apply Kept.drew)|exact HK.out)):P:=h
theorem oJ{P:Prop}{Q1:Prop}{Q2:Prop}(x1_:Q1)(x2_:Q2)(h:Q1->Q2->P:=by intro x1_ x2_;(with_reducible repeat (first|refine di ?_ _|refine bS ?_|refine bq ?_ _));refine fZ ?_ x1_ _;(with_reducible repeat (first|refine di ?_ _|refine bS ?_|refine bq ?_ _));exact x2_):P:=h x1_ x2_
theorem dF{P:Prop}(h:P:=by first|omega|exact Nat.le_refl _):P:=h
theorem sH{P:Prop}{Q1:Prop}(x1_:Q1)(h:Q1->P:=by intro x1_;repeat (first|(with_reducible first|exact HK.out|apply Kept.alloc|apply Kept.drewN|apply Kept.drew|refine Kept.setCell ?_ (.inr x1_) _)|exact HK.out)):P:=h x1_
theorem lC{P:Prop}{Q1:Prop}(x1_:Q1)(h:Q1->P:=by intro x1_;(with_reducible repeat (first|apply Kd.R_alloc|apply Kd.R_drewN|apply Kd.R_drew));exact Kd.R_mono x1_ (λ_ hk=>hk.2)):P:=h x1_
theorem lN{P:Prop}{Q1:Prop}(x1_:Q1)(h:Q1->P:=by intro x1_;(with_reducible repeat (first|apply Kd.N_alloc|apply Kd.N_drewN|apply Kd.N_drew));exact x1_):P:=h x1_
theorem bB{P:Prop}{Q1:Prop}(x1_:Q1)(h:Q1->P:=by intro x1_;have:=x1_;omega):P:=h x1_
theorem kJ{P:Prop}{Q1:Prop}(x1_:Q1)(h:Q1->P:=by intro x1_;(with_reducible repeat (first|apply Kd.R_alloc|apply Kd.R_drewN|apply Kd.R_drew));exact Kd.R_mono x1_ (λ_ hk=>trivial)):P:=h x1_
theorem dR{P:Prop}{Q1:Prop}{Q2:Prop}(x1_:Q1)(x2_:Q2)(h:Q1->Q2->P:=by intro x1_ x2_;have:=x1_;have:=x2_;omega):P:=h x1_ x2_
theorem rJ{P:Prop}{Q1:Prop}(x1_:Q1)(h:Q1->P:=by intro x1_;repeat (first|(with_reducible exact x1_)|(with_reducible refine Kd.C_alloc ?_ _)|(with_reducible refine Kd.C_drewN ?_ _)|(with_reducible refine Kd.C_drew ?_)|exact x1_)):P:=h x1_
theorem qN{P:Prop}(h:P:=by simp only[o6,Act.put,List.setIfInBounds_toArray,List.set_cons_zero,List.set_cons_succ]):P:=h
theorem mU{P:Prop}{Q1:Prop}{Q2:Prop}(x1_:Q1)(x2_:Q2)(h:Q1->Q2->P:=by intro x1_ x2_;have:=x1_;have:=x2_;first|omega|exact Nat.le_refl _):P:=h x1_ x2_
theorem Iu{P:Prop}{Q1:Prop}(x1_:Q1)(h:Q1->P:=by intro x1_;(with_reducible repeat (first|apply Kd.R_alloc|apply Kd.R_drewN|apply Kd.R_drew));exact Kd.R_mono x1_ (λ_ hk=>hk.1)):P:=h x1_
theorem sJ{P:Prop}(h:P:=by first|simpa using c3|(simp at c3 ⊢;omega)):P:=h
theorem kU{P:Prop}{Q1:Prop}{Q2:Prop}{Q3:Prop}(x1_:Q1)(x2_:Q2)(x3_:Q3)(h:Q1->Q2->Q3->P:=by intro x1_ x2_ x3_;have:=x1_;have:=x2_;have:=x3_;omega):P:=h x1_ x2_ x3_
theorem sS{P:Prop}(h:P:=by first|(rw[hji3]at H;exact H)|(simp only[hji3]at H ⊢;exact H)):P:=h
theorem lw{P:Prop}{Q1:Prop}(x1_:Q1)(h:Q1->P:=by intro x1_;have:=x1_;first|omega|exact Nat.le_refl _):P:=h x1_
theorem wD{P:Prop}{Q1:Prop}(x1_:Q1)(h:Q1->P:=by intro x1_;(with_reducible repeat (first|apply Kd.R_alloc|apply Kd.R_drewN|apply Kd.R_drew));exact Kd.R_mono x1_ (λ_ hk=>⟨hk.1.2,hk.2⟩)):P:=h x1_
theorem xy{P:Prop}{Q1:Prop}(x1_:Q1)(h:Q1->P:=by intro x1_;(with_reducible repeat (first|apply Kd.R_alloc|apply Kd.R_drewN|apply Kd.R_drew));exact Kd.R_mono x1_ (λ_ hk=>⟨trivial,hk⟩)):P:=h x1_
theorem zO{P:Prop}{Q1:Prop}(x1_:Q1)(h:Q1->P:=by intro x1_;(with_reducible repeat (first|apply Kd.R_alloc|apply Kd.R_drewN|apply Kd.R_drew));exact Kd.R_mono x1_ (λ_ hk=>⟨hk.2,hk.1⟩)):P:=h x1_
theorem kL{P:Prop}{Q1:Prop}{Q2:Prop}(x1_:Q1)(x2_:Q2)(h:Q1->Q2->P:=by intro x1_ x2_;repeat (first|exact (Kd.C_below x1_ (aY x2_))|(with_reducible refine Kd.C_alloc ?_ _)|(with_reducible refine Kd.C_drewN ?_ _)|(with_reducible refine Kd.C_drew ?_))):P:=h x1_ x2_
theorem pQ{P:Prop}{Q1:Prop}{Q2:Prop}{Q3:Prop}(x1_:Q1)(x2_:Q2)(x3_:Q3)(h:Q1->Q2->Q3->P:=by intro x1_ x2_ x3_;repeat (first|exact (Kd.C_below x1_ (dM x2_ x3_))|(with_reducible refine Kd.C_alloc ?_ _)|(with_reducible refine Kd.C_drewN ?_ _)|(with_reducible refine Kd.C_drew ?_))):P:=h x1_ x2_ x3_
theorem wG{P:Prop}(h:P:=by (try simp only[List.map_toArray,List.map_cons,List.map_nil]);first|done|(rw[show (l1.take (x23_2:Int).toNat).length=x23_2.toNat from (by rw[List.length_take];have h_:(x23_2:Int)<=(l1.length:Int):=of_decide_eq_true aD;omega)] <;> rfl)|rfl|(simp only[List.length_drop,List.length_take];rfl)):P:=h
theorem rP{P:Prop}{Q1:Prop}(x1_:Q1)(h:Q1->P:=by intro x1_;repeat (first|exact (rJ x1_)|(with_reducible refine Kd.C_alloc ?_ _)|(with_reducible refine Kd.C_drewN ?_ _)|(with_reducible refine Kd.C_drew ?_))):P:=h x1_
set_option maxHeartbeats 8000000
set_option maxRecDepth 100000
def ib.l0:Nat->ByteArray->Int->List ByteArray->Int->Int->Option (List ByteArray)
 | 0,_,_,_,_,_=>none
 | k+1,x0,x1,x5,x6,x7=>if x7<(x0.size:Int)then (if 0<=x7 then (if (bt x0 x7)=x1 then (if 0<=x6 then (if x6<=x7 then (if x7<=(x0.size:Int)then (if x5.length<8796093022208 then (ib.l0 k x0 x1 (x5++[x0.extract (x6:Int).toNat (x7:Int).toNat]) (wrap64 (x7+1)) (wrap64 (x7+1)))else (none))else (none))else (none))else (none))else (ib.l0 k x0 x1 x5 x6 (wrap64 (x7+1))))else (none))else (if 0<=x6 then (if x6<=(x0.size:Int)then (if x5.length<8796093022208 then (some (x5++[x0.extract (x6:Int).toNat x0.size]))else (none))else (none))else (none))
def ib.f(k:Nat)(a0:ByteArray)(a1:Int):Option (List ByteArray):=ib.l0 k a0 a1 ([]:List ByteArray) 0 0
theorem ib.calls(k:Nat)(a0:ByteArray)(a1:Int)(r:List ByteArray)(w:World)(h:ib.f k a0 a1=some r) :
  Calls Tryz.prog 48 #[.string a0,.int .u8 a1] w λe w'=>∃v0_:Value,e=.returned (v0_)/\Kd.R Kd.string 9 w' w.heap.size (λ_=>True) v0_ r/\Below w.heap.size w w':=by
 have HB:=aa (Below.refl w.heap.size w);unfold ib.f at h;have H:=h;clear h;have H':=aa H;clear H;go_enter Tryz.func48,Tryz.ntmps48;go_wp2
 go_loopg [5,6,7] k (λkq v5 v6 v7 w'=>∃ (x5_1:List ByteArray) (x6_1:Int) (x7_1:Int),v6=.int .i64 x6_1/\v7=.int .i64 x7_1/\ae (ib.l0 kq a0 a1 x5_1 x6_1 x7_1=some r)/\ae (kq<=k)/\ae (Kd.R Kd.string 9 w' w.heap.size (λ_=>True) v5 x5_1)/\ae (Below w.heap.size w w'))
 case atStart=>exact ⟨(([]:List ByteArray)),(0),(0),ag,ag,H',⟨Nat.le_refl _⟩,⟨d9⟩,⟨af⟩⟩
 case round =>
  clear H';obtain ⟨x5_1,x6_1,x7_1,rfl,rfl,HA,HK1,HO_5,HB⟩:=hrel;cases gk with
  | zero=>exact ak HA.out
  | succ k1 =>
   have H:=HA.out;clear HA;simp only[ib.l0]at H;revert H;refine bi (λc3b0 H=>?_) λc3b0 H=>?_
   ·
    revert H;refine aX λc4b0 H=>?_;revert H;refine dH (λc6b0 c6b1 H=>?_) λc6 c6b0 c6b1 H=>?_
    ·
     revert H;refine dI λc7b0 c7b1 H=>?_;revert H;refine dI λc8b0 c8b1 H=>?_;revert H;refine dI λc9b0 c9b1 H=>?_;revert H;refine bZ λc10 H=>?_;have LMc10:=aa c10;clear c10;obtain ⟨y101,hy101⟩:=bv ((x5_1++[a0.extract (x6_1:Int).toNat (x7_1:Int).toNat]):List ByteArray);replace H:(ib.l0 k1 a0 a1 y101 (wrap64 (x7_1+1)) (wrap64 (x7_1+1)))=some r:=bu hy101 H;have Ny101:=aa hy101;clear hy101;have H':=aa H;clear H;have p5:0<=(x7_1:Int):=of_decide_eq_true aD;have q5:x7_1<(a0.size:Int):=of_decide_eq_true aD;have hx5:=jJ a0 x7_1;replace p5:=eq_true p5;replace q5:=eq_true q5;go_wp2_with (first|((with_reducible refine dE (b:=.append) (xs:=#[.tmp 19,.tmp 24]) rfl ?_);at_builtin;refine Kd.R_append Kd.string (w0:=w) w.heap.size rfl (.tmp 19) (.tmp 24) 28 9 (.string ⟨#[]⟩) 16 rfl Tryz.underlying28 yx rfl (by decide) (by omega) u5 x5_1 (a0.extract (x6_1:Int).toNat (x7_1:Int).toNat) [.string (a0.extract (x6_1:Int).toNat (x7_1:Int).toNat)] (λ_=>True) (λ_=>False) rfl rfl ?aP (λ_ hk=>hk.elim) ?aF ?aO ?aB ?aS ?aL ?_;(case aP=>exact rfl);(case aB=>exact af);(case aF=>exact (λ_ _=>trivial));(case aO=>exact (ai HO_5.out));(case aS=>exact (ay af));(case aL=>exact bB LMc10.out);intro v102 w11 ho hb hg hat;rw[<- Ny101.out]at ho;replace HB:=aa (hb);have HO103:=aa (ho);clear ho hb hg hat));go_roundg k1
     case measure=>have:=HK1.out;omega
     case rel=>exact ⟨(y101),(wrap64 (x7_1+1)),(wrap64 (x7_1+1)),ag,ag,H',⟨bB HK1.out⟩,⟨ai HO103.out⟩,⟨af⟩⟩
    have H':=aa H;clear H;have p5:0<=(x7_1:Int):=of_decide_eq_true aD;have q5:x7_1<(a0.size:Int):=of_decide_eq_true aD;have hx5:=jJ a0 x7_1;replace p5:=eq_true p5;replace q5:=eq_true q5;go_wp2;go_roundg k1
    case measure=>have:=HK1.out;omega
    case rel=>exact ⟨(x5_1),(x6_1),(wrap64 (x7_1+1)),ag,ag,H',⟨bB HK1.out⟩,⟨ai HO_5.out⟩,⟨af⟩⟩
   revert H;refine dI λc12b0 c12b1 H=>?_;revert H;refine dI λc13b0 c13b1 H=>?_;revert H;refine bZ λc14 H=>?_;have LMc14:=aa c14;clear c14;obtain ⟨y104,hy104⟩:=bv ((x5_1++[a0.extract (x6_1:Int).toNat a0.size]):List ByteArray);replace H:(some y104)=some r:=bu hy104 H;have Ny104:=aa hy104;clear hy104;obtain rfl:=Option.some.inj H;go_wp2_with (first|((with_reducible refine dE (b:=.append) (xs:=#[.tmp 28,.tmp 32]) rfl ?_);at_builtin;refine Kd.R_append Kd.string (w0:=w) w.heap.size rfl (.tmp 28) (.tmp 32) 28 9 (.string ⟨#[]⟩) 16 rfl Tryz.underlying28 yx rfl (by decide) (by omega) u5 x5_1 (a0.extract (x6_1:Int).toNat a0.size) [.string (a0.extract (x6_1:Int).toNat a0.size)] (λ_=>True) (λ_=>False) rfl rfl ?aP (λ_ hk=>hk.elim) ?aF ?aO ?aB ?aS ?aL ?_;(case aP=>exact rfl);(case aB=>exact af);(case aF=>exact (λ_ _=>trivial));(case aO=>exact (ai HO_5.out));(case aS=>exact (ay af));(case aL=>exact bB LMc14.out);intro v105 w15 ho hb hg hat;rw[<- Ny104.out]at ho;replace HB:=aa (hb);have HO106:=aa (ho);clear ho hb hg hat));go_ret;exact ⟨_,aU,ai HO106.out,af⟩
mutual
def ed.j0:Nat->ByteArray->Bool->Option (ByteArray)
 | 0,_,_=>none
 | k+1,x3,x4=>if x4=true then (some (⟨#[]⟩:ByteArray))else (if x3.toList=([99,111,117,110,116]:List UInt8)then (ed.j1 k x3 (x3.toList == ([99,111,117,110,116]:List UInt8)))else (if x3.toList=([98,97,99,107]:List UInt8)then (ed.j1 k x3 (x3.toList == ([98,97,99,107]:List UInt8)))else (if x3.toList=([110,101,119]:List UInt8)then (ed.j1 k x3 (x3.toList == ([110,101,119]:List UInt8)))else (if x3.toList=([112,117,116]:List UInt8)then (ed.j1 k x3 (x3.toList == ([112,117,116]:List UInt8)))else (if x3.toList=([100,114,111,112]:List UInt8)then (ed.j1 k x3 (x3.toList == ([100,114,111,112]:List UInt8)))else (ed.j1 k x3 (x3.toList == ([102,105,110,100]:List UInt8))))))))
def ed.j1:Nat->ByteArray->Bool->Option (ByteArray)
 | 0,_,_=>none
 | k+1,x3,x13=>if x13=true then (some (⟨#[110]⟩:ByteArray))else (if x3.toList=([97,116]:List UInt8)then (some (⟨#[110,110]⟩:ByteArray))else (if x3.toList=([116,97,107,101]:List UInt8)then (some (⟨#[108]⟩:ByteArray))else (if x3.toList=([106,111,105,110]:List UInt8)then (some (⟨#[108]⟩:ByteArray))else (if x3.toList=([99,108,97,115,115]:List UInt8)then (some (⟨#[108]⟩:ByteArray))else (some (⟨#[63]⟩:ByteArray))))))
end
def ed.f(k:Nat)(a0:ByteArray):Option (ByteArray):=if a0.toList=([110,101,120,116]:List UInt8)then (ed.j0 k a0 (a0.toList == ([110,101,120,116]:List UInt8)))else (if a0.toList=([99,97,114,115]:List UInt8)then (ed.j0 k a0 (a0.toList == ([99,97,114,115]:List UInt8)))else (if a0.toList=([102,97,114]:List UInt8)then (ed.j0 k a0 (a0.toList == ([102,97,114]:List UInt8)))else (if a0.toList=([99,117,116,115]:List UInt8)then (ed.j0 k a0 (a0.toList == ([99,117,116,115]:List UInt8)))else (if a0.toList=([114,97,110,107]:List UInt8)then (ed.j0 k a0 (a0.toList == ([114,97,110,107]:List UInt8)))else (if a0.toList=([116,97,98,108,101]:List UInt8)then (ed.j0 k a0 (a0.toList == ([116,97,98,108,101]:List UInt8)))else (if a0.toList=([99,111,115,116]:List UInt8)then (ed.j0 k a0 (a0.toList == ([99,111,115,116]:List UInt8)))else (ed.j0 k a0 (a0.toList == ([108,105,115,116]:List UInt8)))))))))
theorem ed.calls(k:Nat)(a0:ByteArray)(r:ByteArray)(w:World)(h:ed.f k a0=some r) :
  Calls Tryz.prog 115 #[.string a0] w λe w'=>e=.returned (.string r)/\bg w w':=by
 unfold ed.f at h;have H:=h;clear h;have HC2:=aa H;clear H;go_enter Tryz.func115,Tryz.ntmps115
 go_upto_if 4 with (fail)
 go_cut [4] (λv4 wc=>∃ (kq:Nat) (x4_1:Bool),v4=.bool x4_1/\ae (ed.j0 kq a0 x4_1=some r)/\ae (kq<=k)/\bg w wc)
 case first =>
  have H:=HC2.out;clear HC2;revert H;refine dH (λc3b0 c3b1 H=>?_) λc3 c3b0 c3b1 H=>?_
  ·
   (first|rw[c3b0]|(simp only[cO,eB];rw[c3b0])|skip)
   have H':=aa H;clear H;go_wp2;go_meet
   case rel=>exact ⟨_,((a0.toList == ([110,101,120,116]:List UInt8))),ag,H',⟨dF⟩,aZ⟩
  (first|rw[c3b0]|(simp only[cO,eB];rw[c3b0])|skip)
  revert H;refine dH (λc4b0 c4b1 H=>?_) λc4 c4b0 c4b1 H=>?_
  ·
   have H':=aa H;clear H;go_wp2;go_meet
   case rel=>exact ⟨_,((a0.toList == ([99,97,114,115]:List UInt8))),ag,H',⟨dF⟩,aZ⟩
  revert H;refine dH (λc5b0 c5b1 H=>?_) λc5 c5b0 c5b1 H=>?_
  ·
   have H':=aa H;clear H;go_wp2;go_meet
   case rel=>exact ⟨_,((a0.toList == ([102,97,114]:List UInt8))),ag,H',⟨dF⟩,aZ⟩
  revert H;refine dH (λc6b0 c6b1 H=>?_) λc6 c6b0 c6b1 H=>?_
  ·
   have H':=aa H;clear H;go_wp2;go_meet
   case rel=>exact ⟨_,((a0.toList == ([99,117,116,115]:List UInt8))),ag,H',⟨dF⟩,aZ⟩
  revert H;refine dH (λc7b0 c7b1 H=>?_) λc7 c7b0 c7b1 H=>?_
  ·
   have H':=aa H;clear H;go_wp2;go_meet
   case rel=>exact ⟨_,((a0.toList == ([114,97,110,107]:List UInt8))),ag,H',⟨dF⟩,aZ⟩
  revert H;refine dH (λc8b0 c8b1 H=>?_) λc8 c8b0 c8b1 H=>?_
  ·
   have H':=aa H;clear H;go_wp2;go_meet
   case rel=>exact ⟨_,((a0.toList == ([116,97,98,108,101]:List UInt8))),ag,H',⟨dF⟩,aZ⟩
  revert H;refine dH (λc9b0 c9b1 H=>?_) λc9 c9b0 c9b1 H=>?_
  ·
   have H':=aa H;clear H;go_wp2;go_meet
   case rel=>exact ⟨_,((a0.toList == ([99,111,115,116]:List UInt8))),ag,H',⟨dF⟩,aZ⟩
  have H':=aa H;clear H;go_wp2;go_meet
  case rel=>exact ⟨_,((a0.toList == ([108,105,115,116]:List UInt8))),ag,H',⟨dF⟩,aZ⟩
 case rest =>
  clear HC2;obtain ⟨kq,x4_1,rfl,HA,HJ1,⟨mc1,rfl⟩⟩:=hcut;cases kq with
  | zero=>exact ak HA.out
  | succ kj1 =>
   have H:=HA.out;clear HA;simp only[ed.j0]at H;revert H;refine bA (λc10 H=>?_) λc10 H=>?_
   ·
    subst c10;obtain rfl:=Option.some.inj H;go_wp2;go_ret;exact ⟨ag,aZ⟩
   subst c10;have HC11:=aa H;clear H
   go_upto_if 13 with (fail)
   go_cut [13] (λv13 wc=>∃ (kq:Nat) (x13_10:Bool),v13=.bool x13_10/\ae (ed.j1 kq a0 x13_10=some r)/\ae (kq<=kj1)/\bg w wc)
   case first =>
    have H:=HC11.out;clear HC11;revert H;refine dH (λc12b0 c12b1 H=>?_) λc12 c12b0 c12b1 H=>?_
    ·
     (first|rw[c12b0]|(simp only[cO,eB];rw[c12b0])|skip)
     have H':=aa H;clear H;go_wp2;go_meet
     case rel=>exact ⟨_,((a0.toList == ([99,111,117,110,116]:List UInt8))),ag,H',⟨lw HJ1.out⟩,aZ⟩
    (first|rw[c12b0]|(simp only[cO,eB];rw[c12b0])|skip)
    revert H;refine dH (λc13b0 c13b1 H=>?_) λc13 c13b0 c13b1 H=>?_
    ·
     have H':=aa H;clear H;go_wp2;go_meet
     case rel=>exact ⟨_,((a0.toList == ([98,97,99,107]:List UInt8))),ag,H',⟨lw HJ1.out⟩,aZ⟩
    revert H;refine dH (λc14b0 c14b1 H=>?_) λc14 c14b0 c14b1 H=>?_
    ·
     have H':=aa H;clear H;go_wp2;go_meet
     case rel=>exact ⟨_,((a0.toList == ([110,101,119]:List UInt8))),ag,H',⟨lw HJ1.out⟩,aZ⟩
    revert H;refine dH (λc15b0 c15b1 H=>?_) λc15 c15b0 c15b1 H=>?_
    ·
     have H':=aa H;clear H;go_wp2;go_meet
     case rel=>exact ⟨_,((a0.toList == ([112,117,116]:List UInt8))),ag,H',⟨lw HJ1.out⟩,aZ⟩
    revert H;refine dH (λc16b0 c16b1 H=>?_) λc16 c16b0 c16b1 H=>?_
    ·
     have H':=aa H;clear H;go_wp2;go_meet
     case rel=>exact ⟨_,((a0.toList == ([100,114,111,112]:List UInt8))),ag,H',⟨lw HJ1.out⟩,aZ⟩
    have H':=aa H;clear H;go_wp2;go_meet
    case rel=>exact ⟨_,((a0.toList == ([102,105,110,100]:List UInt8))),ag,H',⟨lw HJ1.out⟩,aZ⟩
   case rest =>
    clear HC11;obtain ⟨kq,x13_10,rfl,HA,HJ10,⟨mc10,rfl⟩⟩:=hcut;cases kq with
    | zero=>exact ak HA.out
    | succ kj10 =>
     have H:=HA.out;clear HA;simp only[ed.j1]at H;revert H;refine bA (λc17 H=>?_) λc17 H=>?_
     ·
      subst c17;obtain rfl:=Option.some.inj H;go_wp2;go_ret;exact ⟨ag,aZ⟩
     subst c17;revert H;refine dH (λc18b0 c18b1 H=>?_) λc18 c18b0 c18b1 H=>?_
     ·
      obtain rfl:=Option.some.inj H;go_wp2;go_ret;exact ⟨ag,aZ⟩
     revert H;refine dH (λc19b0 c19b1 H=>?_) λc19 c19b0 c19b1 H=>?_
     ·
      obtain rfl:=Option.some.inj H;go_wp2;go_ret;exact ⟨ag,aZ⟩
     revert H;refine dH (λc20b0 c20b1 H=>?_) λc20 c20b0 c20b1 H=>?_
     ·
      obtain rfl:=Option.some.inj H;go_wp2;go_ret;exact ⟨ag,aZ⟩
     revert H;refine dH (λc21b0 c21b1 H=>?_) λc21 c21b0 c21b1 H=>?_
     ·
      obtain rfl:=Option.some.inj H;go_wp2;go_ret;exact ⟨ag,aZ⟩
     obtain rfl:=Option.some.inj H;go_wp2;go_ret;exact ⟨ag,aZ⟩
def ek.f(a0:Int)(a1:Int)(a2:Int):Option (Bool):=if a0 >= a1 then (some (decide (a0<=a2)))else (some false)
theorem ek.calls(a0:Int)(a1:Int)(a2:Int)(r:Bool)(w:World)(h:ek.f a0 a1 a2=some r) :
  Calls Tryz.prog 112 #[.int .i64 a0,.int .i64 a1,.int .i64 a2] w λe w'=>e=.returned (.bool r)/\bg w w':=by
 unfold ek.f at h;have H:=h;clear h;revert H;refine bi (λc4b0 H=>?_) λc4b0 H=>?_
 ·
  obtain rfl:=Option.some.inj H;go_enter Tryz.func112,Tryz.ntmps112;go_wp2;go_ret;exact ⟨ag,aZ⟩
 obtain rfl:=Option.some.inj H;go_enter Tryz.func112,Tryz.ntmps112;go_wp2;go_ret;exact ⟨ag,aZ⟩
mutual
def eU.j0:Nat->ByteArray->Bool->Option (Int)
 | 0,_,_=>none
 | k+1,x0,x18=>if x18=true then (some (-1))else (eU.l0 k x0 0 0)
def eU.l0:Nat->ByteArray->Int->Int->Option (Int)
 | 0,_,_,_=>none
 | k+1,x0,x3,x4=>if x4<(x0.size:Int)then (if 0<=x4 then (if (bt x0 x4)<48 then (some (-1))else (if (bt x0 x4)>57 then (some (-1))else (eU.l0 k x0 (wrap64 ((wrap64 (10 * x3))+(((bt x0 x4) - 48) % 256))) (wrap64 (x4+1)))))else (none))else (some x3)
end
def eU.f(k:Nat)(a0:ByteArray):Option (Int):=(ek.f (a0.size:Int) 1 6).bind λt107=>(if t107=true then (if 0<(a0.size:Int)then (if (bt a0 0)=48 then (eU.j0 k a0 (decide ((a0.size:Int)>1)))else (eU.j0 k a0 false))else (none))else (eU.j0 k a0 true))
theorem eU.calls(k:Nat)(a0:ByteArray)(r:Int)(w:World)(h:eU.f k a0=some r) :
  Calls Tryz.prog 116 #[.string a0] w λe w'=>e=.returned (.int .i64 r)/\bg w w':=by
 unfold eU.f at h;have H:=h;clear h;have HC2:=aa H;clear H;go_enter Tryz.func116,Tryz.ntmps116
 go_upto_region 1 with (fail)
 go_cut [18] (λv18 wc=>∃ (kq:Nat) (x18_1:Bool),v18=.bool x18_1/\ae (eU.j0 kq a0 x18_1=some r)/\ae (kq<=k)/\bg w wc)
 case first =>
  have H:=HC2.out;clear HC2;obtain ⟨t107,A3,H⟩:=aA H;revert H;refine bA (λc4 H=>?_) λc4 H=>?_
  ·
   subst c4;revert H;refine bZ λc5 H=>?_;have c5b0:=decide_eq_true c5;have c5b1:decide (0<a0.size)=true:=decide_eq_true (by omega);clear c5
   (first|rw[c5b0]|(simp only[cO,eB];rw[c5b0])|skip)
   revert H;refine dH (λc7b0 c7b1 H=>?_) λc7 c7b0 c7b1 H=>?_
   ·
    have H':=aa H;clear H;go_wp2_with (first|((with_reducible refine av 112 ?_);refine ax 7 Tryz.func112 #[.int .i64 (a0.size:Int),.int .i64 1,.int .i64 6] ?_;(with_reducible refine (ek.calls (a0.size:Int) 1 6 true _ A3.out).mono ?_);rintro e w' ⟨rfl,⟨nd,rfl⟩⟩;refine ⟨_,rfl,?_⟩;have p6:0<=(0:Int):=(by omega);have q6:0<a0.size:=(by have:(0:Int)<(a0.size:Int):=of_decide_eq_true aD;omega);have hx6:∀h:0<a0.size,((a0[0]'h).toNat:Int)=bt a0 0:=jJ a0 0;clear p6;have qi6:(0<(a0.size:Int))=True:=eq_true (of_decide_eq_true aD);replace q6:=eq_true q6));go_meet
    case rel=>exact ⟨_,(decide ((a0.size:Int)>1)),ag,H',⟨dF⟩,aZ⟩
   have H':=aa H;clear H;go_wp2_with (first|((with_reducible refine av 112 ?_);refine ax 7 Tryz.func112 #[.int .i64 (a0.size:Int),.int .i64 1,.int .i64 6] ?_;(with_reducible refine (ek.calls (a0.size:Int) 1 6 true _ A3.out).mono ?_);rintro e w' ⟨rfl,⟨nd,rfl⟩⟩;refine ⟨_,rfl,?_⟩;have p6:0<=(0:Int):=(by omega);have q6:0<a0.size:=(by have:(0:Int)<(a0.size:Int):=of_decide_eq_true aD;omega);have hx6:∀h:0<a0.size,((a0[0]'h).toNat:Int)=bt a0 0:=jJ a0 0;clear p6;have qi6:(0<(a0.size:Int))=True:=eq_true (of_decide_eq_true aD);replace q6:=eq_true q6));go_meet
   case rel=>exact ⟨_,(false),ag,H',⟨dF⟩,aZ⟩
  subst c4;have H':=aa H;clear H;go_wp2_with (first|((with_reducible refine av 112 ?_);refine ax 7 Tryz.func112 #[.int .i64 (a0.size:Int),.int .i64 1,.int .i64 6] ?_;(with_reducible refine (ek.calls (a0.size:Int) 1 6 false _ A3.out).mono ?_);rintro e w' ⟨rfl,⟨nd,rfl⟩⟩;refine ⟨_,rfl,?_⟩));go_meet
  case rel=>exact ⟨_,(true),ag,H',⟨dF⟩,aZ⟩
 case rest =>
  clear HC2;obtain ⟨kq,x18_1,rfl,HA,HJ1,⟨mc1,rfl⟩⟩:=hcut;cases kq with
  | zero=>exact ak HA.out
  | succ kj1 =>
   have H:=HA.out;clear HA;simp only[eU.j0]at H;revert H;refine bA (λc8 H=>?_) λc8 H=>?_
   ·
    subst c8;obtain rfl:=Option.some.inj H;go_wp2;go_ret;exact ⟨ag,aZ⟩
   subst c8;have H':=aa H;clear H;go_wp2
   go_loopg [3,4] kj1 (λkq v3 v4 w'=>∃ (x3_2:Int) (x4_2:Int),v3=.int .i64 x3_2/\v4=.int .i64 x4_2/\ae (eU.l0 kq a0 x3_2 x4_2=some r)/\ae (kq<=kj1)/\bg w w')
   case atStart=>exact ⟨(0),(0),ag,ag,H',⟨Nat.le_refl _⟩,aZ⟩
   case round =>
    clear H';obtain ⟨x3_2,x4_2,rfl,rfl,HA,HK2,⟨m2,rfl⟩⟩:=hrel;cases gk with
    | zero=>exact ak HA.out
    | succ k2 =>
     have H:=HA.out;clear HA;simp only[eU.l0]at H;revert H;refine bi (λc9b0 H=>?_) λc9b0 H=>?_
     ·
      revert H;refine aX λc10b0 H=>?_;revert H;refine bi (λc12b0 H=>?_) λc12b0 H=>?_
      ·
       obtain rfl:=Option.some.inj H;have p11:0<=(x4_2:Int):=of_decide_eq_true aD;have q11:x4_2<(a0.size:Int):=of_decide_eq_true aD;have hx11:=jJ a0 x4_2;replace p11:=eq_true p11;replace q11:=eq_true q11;go_wp2;go_ret;exact ⟨ag,aZ⟩
      revert H;refine bi (λc14b0 H=>?_) λc14b0 H=>?_
      ·
       obtain rfl:=Option.some.inj H;have p11:0<=(x4_2:Int):=of_decide_eq_true aD;have q11:x4_2<(a0.size:Int):=of_decide_eq_true aD;have hx11:=jJ a0 x4_2;replace p11:=eq_true p11;replace q11:=eq_true q11;have p13:0<=(x4_2:Int):=of_decide_eq_true aD;have q13:x4_2<(a0.size:Int):=of_decide_eq_true aD;have hx13:=jJ a0 x4_2;replace p13:=eq_true p13;replace q13:=eq_true q13;go_wp2;go_ret;exact ⟨ag,aZ⟩
      have H':=aa H;clear H;have p11:0<=(x4_2:Int):=of_decide_eq_true aD;have q11:x4_2<(a0.size:Int):=of_decide_eq_true aD;have hx11:=jJ a0 x4_2;replace p11:=eq_true p11;replace q11:=eq_true q11;have p13:0<=(x4_2:Int):=of_decide_eq_true aD;have q13:x4_2<(a0.size:Int):=of_decide_eq_true aD;have hx13:=jJ a0 x4_2;replace p13:=eq_true p13;replace q13:=eq_true q13;have p15:0<=(x4_2:Int):=of_decide_eq_true aD;have q15:x4_2<(a0.size:Int):=of_decide_eq_true aD;have hx15:=jJ a0 x4_2;replace p15:=eq_true p15;replace q15:=eq_true q15;go_wp2;go_roundg k2
      case measure=>have:=HJ1.out;have:=HK2.out;omega
      case rel=>exact ⟨(wrap64 ((wrap64 (10 * x3_2))+(((bt a0 x4_2) - 48) % 256))),(wrap64 (x4_2+1)),ag,ag,H',⟨dR HJ1.out HK2.out⟩,aZ⟩
     obtain rfl:=Option.some.inj H;go_wp2;go_ret;exact ⟨ag,aZ⟩
def jI.l0:Nat->List Int->List ByteArray->Int->Int->Option (List Int × Bool)
 | 0,_,_,_,_=>none
 | k+1,x4,x11,x12,x13=>if x13<x12 then (if 0<=x13 then (if x13<(x11.length:Int)then ((eU.f k (dS ByteArray.empty x11 x13)).bind λt112=>(if t112<0 then (some (([]:List Int),false))else (if x4.length<17592186044416 then (jI.l0 k (x4++[t112]) x11 x12 (wrap64 (x13+1)))else (none))))else (none))else (none))else (some (x4,true))
def jI.f(k:Nat)(a0:ByteArray):Option (List Int × Bool):=if a0.toList=([45]:List UInt8)then (some (([]:List Int),true))else ((ib.f k a0 44).bind λt108=>(jI.l0 k ([]:List Int) t108 (t108.length:Int) 0))
theorem jI.calls(k:Nat)(a0:ByteArray)(r1:List Int)(r2:Bool)(w:World)(h:jI.f k a0=some (r1,r2)) :
  Calls Tryz.prog 117 #[.string a0] w λe w'=>∃v0_:Value,e=.returned (.tuple #[v0_,.bool r2])/\Kd.R (Kd.int .i64) 3 w' w.heap.size (λ_=>True) v0_ r1/\Below w.heap.size w w':=by
 have HB:=aa (Below.refl w.heap.size w);unfold jI.f at h;have H:=h;clear h;revert H;refine dH (λc2b0 c2b1 H=>?_) λc2 c2b0 c2b1 H=>?_
 ·
  obtain ⟨rfl,rfl⟩:=dB H;go_enter Tryz.func117,Tryz.ntmps117;go_wp2;go_ret2;exact ⟨_,aU,d9,af⟩
 obtain ⟨t108,A3,H⟩:=aA H;have H':=aa H;clear H;go_enter Tryz.func117,Tryz.ntmps117;go_wp2_with (first|((with_reducible refine av 48 ?_);refine ax 11 Tryz.func48 #[.string a0,.int .u8 44] ?_;(with_reducible refine (ib.calls k a0 44 t108 _ A3.out).mono ?_);rintro e w4 ⟨v109,rfl,ho0,hb⟩;refine ⟨_,rfl,?_⟩;have HO110:=aa (Kd.R_lower ho0 (ay af));replace HB:=aa (aj af hb);clear hb ho0;obtain ⟨Ao5,co5,eo5⟩:=Kd.R_slice HO110.out;subst eo5))
 go_loopg [4,13] k (λkq v4 v13 w'=>∃ (x4_1:List Int) (x13_1:Int),v13=.int .i64 x13_1/\ae (jI.l0 kq x4_1 t108 (t108.length:Int) x13_1=some (r1,r2))/\ae (kq<=k)/\ae (Kd.R (Kd.int .i64) 3 w' w.heap.size (λ_=>True) v4 x4_1)/\ae (Kd.R Kd.string 9 w' w.heap.size (λ_=>True) (.slice Ao5 t108.length co5) t108)/\ae (Below w.heap.size w w'))
 case atStart=>exact ⟨(([]:List Int)),(0),ag,H',⟨Nat.le_refl _⟩,⟨d9⟩,⟨ai HO110.out⟩,⟨af⟩⟩
 case round =>
  clear H';obtain ⟨x4_1,x13_1,rfl,HA,HK1,HO_4,HO_11,HB⟩:=hrel;cases gk with
  | zero=>exact ak HA.out
  | succ k1 =>
   have H:=HA.out;clear HA;simp only[jI.l0]at H;revert H;refine bi (λc6b0 H=>?_) λc6b0 H=>?_
   ·
    revert H;refine aX λc7b0 H=>?_;revert H;refine aX λc8b0 H=>?_;obtain ⟨t112,A9,H⟩:=aA H;revert H;refine bi (λc10b0 H=>?_) λc10b0 H=>?_
    ·
     obtain ⟨rfl,rfl⟩:=dB H;obtain ⟨ad111,rfl,hx111_0,p111,q111⟩:=oU (f_ HO_11.out) x13_1;go_wp2_with (first|((with_reducible refine av 116 ?_);refine ax 18 Tryz.func116 #[.string (dS ByteArray.empty t108 x13_1)] ?_;(with_reducible refine (eU.calls k1 (dS ByteArray.empty t108 x13_1) t112 _ A9.out).mono ?_);rintro e w' ⟨rfl,⟨nd,rfl⟩⟩;refine ⟨_,rfl,?_⟩));go_ret2;exact ⟨_,aU,d9,af⟩
    revert H;refine bZ λc11 H=>?_;have LMc11:=aa c11;clear c11;obtain ⟨y113,hy113⟩:=bv ((x4_1++[t112]):List Int);replace H:(jI.l0 k1 y113 t108 (t108.length:Int) (wrap64 (x13_1+1)))=some (r1,r2):=bu hy113 H;have Ny113:=aa hy113;clear hy113;have H':=aa H;clear H;obtain ⟨ad111,rfl,hx111_0,p111,q111⟩:=oU (f_ HO_11.out) x13_1;go_wp2_with (first|((with_reducible refine av 116 ?_);refine ax 18 Tryz.func116 #[.string (dS ByteArray.empty t108 x13_1)] ?_;(with_reducible refine (eU.calls k1 (dS ByteArray.empty t108 x13_1) t112 _ A9.out).mono ?_);rintro e w' ⟨rfl,⟨nd,rfl⟩⟩;refine ⟨_,rfl,?_⟩)|((with_reducible refine dE (b:=.append) (xs:=#[.tmp 21,.tmp 23]) rfl ?_);at_builtin;refine eQ (w0:=w) (.tmp 21) (.tmp 23) u4 x4_1 t112 (λ_=>True) (λ_ _=>trivial) (ai HO_4.out) af (by exact bB LMc11.out) ?_;intro v114 w12 ho hb hg hat;rw[<- Ny113.out]at ho;replace HO_11:=aa (Kd.R_over' (ai HO_11.out) (Kd.R_typed (ai HO_4.out)) (by decide) hg);replace HB:=aa (hb);have HO115:=aa (ho);clear ho hb hg hat));go_roundg k1
    case measure=>have:=HK1.out;omega
    case rel=>exact ⟨(y113),(wrap64 (x13_1+1)),ag,H',⟨bB HK1.out⟩,⟨ai HO115.out⟩,⟨ai HO_11.out⟩,⟨af⟩⟩
   obtain ⟨rfl,rfl⟩:=dB H;go_wp2;go_ret2;exact ⟨_,aU,ai HO_4.out,af⟩
def fC.l0:Nat->Int->Int->List Int->Int->Int->Option (Bool)
 | 0,_,_,_,_,_=>none
 | k+1,x1,x2,x9,x10,x11=>if x11<x10 then (if 0<=x11 then (if x11<(x9.length:Int)then ((ek.f (rd x9 x11) x1 x2).bind λt117=>(if t117=true then (fC.l0 k x1 x2 x9 x10 (wrap64 (x11+1)))else (some false)))else (none))else (none))else (some true)
def fC.f(k:Nat)(l0:List Int)(a1:Int)(a2:Int):Option (Bool):=fC.l0 k a1 a2 l0 (l0.length:Int) 0
theorem fC.calls(k:Nat)(A0:Option Addr)(c0:Nat)(l0:List Int)(a1:Int)(a2:Int)(r:Bool)(w:World)(hr0:Kd.C (Kd.int .i64) w A0 l0.length l0)(hc0:l0.length<=c0)(h:fC.f k l0 a1 a2=some r) :
  Calls Tryz.prog 110 #[.slice A0 l0.length c0,.int .i64 a1,.int .i64 a2] w λe w'=>e=.returned (.bool r)/\bg w w':=by
 have HR0:=aa hr0;have HC0:=aa hc0;clear hr0 hc0;unfold fC.f at h;have H:=h;clear h;have H':=aa H;clear H;go_enter Tryz.func110,Tryz.ntmps110;go_wp2
 go_loopg [11] k (λkq v11 w'=>∃ (x11_1:Int),v11=.int .i64 x11_1/\ae (fC.l0 kq a1 a2 l0 (l0.length:Int) x11_1=some r)/\ae (kq<=k)/\bg w w')
 case atStart=>exact ⟨(0),ag,H',⟨Nat.le_refl _⟩,aZ⟩
 case round =>
  clear H';obtain ⟨x11_1,rfl,HA,HK1,⟨m1,rfl⟩⟩:=hrel;cases gk with
  | zero=>exact ak HA.out
  | succ k1 =>
   have H:=HA.out;clear HA;simp only[fC.l0]at H;revert H;refine bi (λc4b0 H=>?_) λc4b0 H=>?_
   ·
    revert H;refine aX λc5b0 H=>?_;revert H;refine aX λc6b0 H=>?_;obtain ⟨t117,A7,H⟩:=aA H;revert H;refine bA (λc8 H=>?_) λc8 H=>?_
    ·
     subst c8;have H':=aa H;clear H;obtain ⟨ad116,rfl,hx116_0,p116,q116⟩:=bW HR0.out x11_1;go_wp2_with (first|((with_reducible refine av 112 ?_);refine ax 18 Tryz.func112 #[.int .i64 (rd l0 x11_1),.int .i64 a1,.int .i64 a2] ?_;(with_reducible refine (ek.calls (rd l0 x11_1) a1 a2 true _ A7.out).mono ?_);rintro e w' ⟨rfl,⟨nd,rfl⟩⟩;refine ⟨_,rfl,?_⟩));go_roundg k1
     case measure=>have:=HK1.out;omega
     case rel=>exact ⟨(wrap64 (x11_1+1)),ag,H',⟨bB HK1.out⟩,aZ⟩
    subst c8;obtain rfl:=Option.some.inj H;obtain ⟨ad116,rfl,hx116_0,p116,q116⟩:=bW HR0.out x11_1;go_wp2_with (first|((with_reducible refine av 112 ?_);refine ax 18 Tryz.func112 #[.int .i64 (rd l0 x11_1),.int .i64 a1,.int .i64 a2] ?_;(with_reducible refine (ek.calls (rd l0 x11_1) a1 a2 false _ A7.out).mono ?_);rintro e w' ⟨rfl,⟨nd,rfl⟩⟩;refine ⟨_,rfl,?_⟩));go_ret;exact ⟨ag,aZ⟩
   obtain rfl:=Option.some.inj H;go_wp2;go_ret;exact ⟨ag,aZ⟩
def bD.l0:Nat->Int->List Int->Int->Int->Option (Bool)
 | 0,_,_,_,_=>none
 | k+1,x1,x7,x8,x9=>if x9<x8 then (if 0<=x9 then (if x9<(x7.length:Int)then (if (rd x7 x9)=x1 then (some true)else (bD.l0 k x1 x7 x8 (wrap64 (x9+1))))else (none))else (none))else (some false)
def bD.f(k:Nat)(l0:List Int)(a1:Int):Option (Bool):=bD.l0 k a1 l0 (l0.length:Int) 0
theorem bD.mono_l:∀k,(∀y0 y1 y2 y3,aC (bD.l0 k y0 y1 y2 y3) (bD.l0 (k+1) y0 y1 y2 y3))
 | 0=>λ_ _ _ _ r h=>by simp[bD.l0]at h
 | k+1=>by
  have ih0:=bD.mono_l k
  ·
   intro y0 y1 y2 y3;unfold bD.l0
   repeat' (with_reducible first|exact ih0 _ _ _ _|exact aC.refl _|exact aC.none _|refine aC.ite ?_ ?_|refine aC.bind ?_ (λ_=>?_))
theorem bD.mono:∀a0 a1 k,aC (bD.f k a0 a1) (bD.f (k+1) a0 a1):=by
 intro a0 a1 k;have ih0:=bD.mono_l k;unfold bD.f
 repeat' (with_reducible first|exact ih0 _ _ _ _|exact aC.refl _|exact aC.none _|refine aC.ite ?_ ?_|refine aC.bind ?_ (λ_=>?_))
theorem bD.calls(k:Nat)(A0:Option Addr)(c0:Nat)(l0:List Int)(a1:Int)(r:Bool)(w:World)(hr0:Kd.C (Kd.int .i64) w A0 l0.length l0)(hc0:l0.length<=c0)(h:bD.f k l0 a1=some r) :
  Calls Tryz.prog 113 #[.slice A0 l0.length c0,.int .i64 a1] w λe w'=>e=.returned (.bool r)/\bg w w':=by
 have HR0:=aa hr0;have HC0:=aa hc0;clear hr0 hc0;unfold bD.f at h;have H:=h;clear h;have H':=aa H;clear H;go_enter Tryz.func113,Tryz.ntmps113;go_wp2
 go_loopg [9] k (λkq v9 w'=>∃ (x9_1:Int),v9=.int .i64 x9_1/\ae (bD.l0 kq a1 l0 (l0.length:Int) x9_1=some r)/\ae (kq<=k)/\bg w w')
 case atStart=>exact ⟨(0),ag,H',⟨Nat.le_refl _⟩,aZ⟩
 case round =>
  clear H';obtain ⟨x9_1,rfl,HA,HK1,⟨m1,rfl⟩⟩:=hrel;cases gk with
  | zero=>exact ak HA.out
  | succ k1 =>
   have H:=HA.out;clear HA;simp only[bD.l0]at H;revert H;refine bi (λc3b0 H=>?_) λc3b0 H=>?_
   ·
    revert H;refine aX λc4b0 H=>?_;revert H;refine aX λc5b0 H=>?_;revert H;refine dH (λc6b0 c6b1 H=>?_) λc6 c6b0 c6b1 H=>?_
    ·
     obtain rfl:=Option.some.inj H;obtain ⟨ad118,rfl,hx118_0,p118,q118⟩:=bW HR0.out x9_1;go_wp2;go_ret;exact ⟨ag,aZ⟩
    have H':=aa H;clear H;obtain ⟨ad118,rfl,hx118_0,p118,q118⟩:=bW HR0.out x9_1;go_wp2;go_roundg k1
    case measure=>have:=HK1.out;omega
    case rel=>exact ⟨(wrap64 (x9_1+1)),ag,H',⟨bB HK1.out⟩,aZ⟩
   obtain rfl:=Option.some.inj H;go_wp2;go_ret;exact ⟨ag,aZ⟩
mutual
def dP.l0:Nat->Int->List Int->List Int->Int->Int->Option (List Int)
 | 0,_,_,_,_,_=>none
 | k+1,x1,x5,x8,x9,x10=>if x10<x9 then (if 0<=x10 then (if x10<(x8.length:Int)then (dP.l1 k x1 x5 (rd x8 x10) x8 x9 x10)else (none))else (none))else (some x5)
def dP.l1:Nat->Int->List Int->Int->List Int->Int->Int->Option (List Int)
 | 0,_,_,_,_,_,_=>none
 | k+1,x1,x5,x7,x8,x9,x10=>if x7<x1 then ((bD.f k x5 x7).bind λt120=>(if t120=true then (dP.l1 k x1 x5 (wrap64 (x7+1)) x8 x9 x10)else (if x7 >= x1 then (if x5.length<17592186044416 then (dP.l0 k x1 (x5++[(-1)]) x8 x9 (wrap64 (x10+1)))else (none))else (if x5.length<17592186044416 then (dP.l0 k x1 (x5++[x7]) x8 x9 (wrap64 (x10+1)))else (none)))))else (if x7 >= x1 then (if x5.length<17592186044416 then (dP.l0 k x1 (x5++[(-1)]) x8 x9 (wrap64 (x10+1)))else (none))else (if x5.length<17592186044416 then (dP.l0 k x1 (x5++[x7]) x8 x9 (wrap64 (x10+1)))else (none)))
end
def dP.f(k:Nat)(l0:List Int)(a1:Int):Option (List Int):=dP.l0 k a1 ([]:List Int) l0 (l0.length:Int) 0
theorem dP.calls(k:Nat)(A0:Option Addr)(c0:Nat)(l0:List Int)(a1:Int)(r:List Int)(w:World)(hr0:Kd.C (Kd.int .i64) w A0 l0.length l0)(hc0:l0.length<=c0)(h:dP.f k l0 a1=some r) :
  Calls Tryz.prog 126 #[.slice A0 l0.length c0,.int .i64 a1] w λe w'=>∃v0_:Value,e=.returned (v0_)/\Kd.R (Kd.int .i64) 3 w' w.heap.size (λ_=>True) v0_ r/\Below w.heap.size w w':=by
 have HR0:=aa hr0;have HC0:=aa hc0;clear hr0 hc0;have HB:=aa (Below.refl w.heap.size w);unfold dP.f at h;have H:=h;clear h;have H':=aa H;clear H;go_enter Tryz.func126,Tryz.ntmps126;go_wp2
 go_loopg [5,10] k (λkq v5 v10 w'=>∃ (x5_1:List Int) (x10_1:Int),v10=.int .i64 x10_1/\ae (dP.l0 kq a1 x5_1 l0 (l0.length:Int) x10_1=some r)/\ae (kq<=k)/\ae (Kd.R (Kd.int .i64) 3 w' w.heap.size (λ_=>True) v5 x5_1)/\ae (Below w.heap.size w w'))
 case atStart=>exact ⟨(([]:List Int)),(0),ag,H',⟨Nat.le_refl _⟩,⟨d9⟩,⟨af⟩⟩
 case round =>
  clear H';obtain ⟨x5_1,x10_1,rfl,HA,HK1,HO_5,HB⟩:=hrel;cases gk with
  | zero=>exact ak HA.out
  | succ k1 =>
   have H:=HA.out;clear HA;simp only[dP.l0]at H;revert H;refine bi (λc3b0 H=>?_) λc3b0 H=>?_
   ·
    revert H;refine aX λc4b0 H=>?_;revert H;refine aX λc5b0 H=>?_;have H':=aa H;clear H;obtain ⟨ad119,rfl,hx119_0,p119,q119⟩:=bW HR0.out x10_1
    (try (replace hx119_0:=(HB.out.cell (World.block_lt_of_cell? w _ hx119_0)).trans hx119_0))
    go_wp2
    go_loopg [7] k1 (λkq v7 w'=>∃ (x7_2:Int),v7=.int .i64 x7_2/\ae (dP.l1 kq a1 x5_1 x7_2 l0 (l0.length:Int) x10_1=some r)/\ae (kq<=k1)/\ae (Kd.R (Kd.int .i64) 3 w' w.heap.size (λ_=>True) u5 x5_1)/\ae (Below w.heap.size w w'))
    case atStart=>exact ⟨(rd l0 x10_1),ag,H',⟨Nat.le_refl _⟩,⟨ai HO_5.out⟩,⟨af⟩⟩
    case round =>
     clear H';obtain ⟨x7_2,rfl,HA,HK2,HO_5,HB⟩:=hrel;cases gk with
     | zero=>exact ak HA.out
     | succ k2 =>
      have H:=HA.out;clear HA;simp only[dP.l1]at H;revert H;refine bi (λc6b0 H=>?_) λc6b0 H=>?_
      ·
       obtain ⟨t120,A7,H⟩:=aA H;revert H;refine bA (λc8 H=>?_) λc8 H=>?_
       ·
        subst c8;have H':=aa H;clear H;obtain ⟨Ao9,co9,eo9⟩:=Kd.R_slice HO_5.out;subst eo9;go_wp2_with (first|(go_at_call 113;(with_reducible refine (bD.calls k2 _ _ x5_1 x7_2 true _ ?s1 ?s2 A7.out).mono ?_);(case s1=>exact eH HO_5.out);(case s2=>exact (Kd.R_reads' HO_5.out).2.1);rintro e w' ⟨rfl,⟨nd,rfl⟩⟩));go_roundg k2
        case measure=>have:=HK1.out;have:=HK2.out;omega
        case rel=>exact ⟨(wrap64 (x7_2+1)),ag,H',⟨dR HK1.out HK2.out⟩,⟨ai HO_5.out⟩,⟨af⟩⟩
       subst c8;revert H;refine bi (λc10b0 H=>?_) λc10b0 H=>?_
       ·
        revert H;refine bZ λc11 H=>?_;have LMc11:=aa c11;clear c11;obtain ⟨y121,hy121⟩:=bv ((x5_1++[(-1)]):List Int);replace H:(dP.l0 k2 a1 y121 l0 (l0.length:Int) (wrap64 (x10_1+1)))=some r:=bu hy121 H;have Ny121:=aa hy121;clear hy121;have H':=aa H;clear H;obtain ⟨Ao12,co12,eo12⟩:=Kd.R_slice HO_5.out;subst eo12;go_wp2_with (first|(go_at_call 113;(with_reducible refine (bD.calls k2 _ _ x5_1 x7_2 false _ ?s1 ?s2 A7.out).mono ?_);(case s1=>exact eH HO_5.out);(case s2=>exact (Kd.R_reads' HO_5.out).2.1);rintro e w' ⟨rfl,⟨nd,rfl⟩⟩)|((with_reducible refine dE (b:=.append) (xs:=#[.tmp 27,.tmp 29]) rfl ?_);at_builtin;refine eQ (w0:=w) (.tmp 27) (.tmp 29) (.slice Ao12 x5_1.length co12) x5_1 (-1) (λ_=>True) (λ_ _=>trivial) (ai HO_5.out) af (by exact bB LMc11.out) ?_;intro v122 w13 ho hb hg hat;rw[<- Ny121.out]at ho;replace HB:=aa (hb);have HO123:=aa (ho);clear ho hb hg hat));go_roundg k2
        case measure=>have:=HK1.out;have:=HK2.out;omega
        case rel=>exact ⟨(y121),(wrap64 (x10_1+1)),ag,H',⟨dR HK1.out HK2.out⟩,⟨ai HO123.out⟩,⟨af⟩⟩
       revert H;refine bZ λc14 H=>?_;have LMc14:=aa c14;clear c14;obtain ⟨y124,hy124⟩:=bv ((x5_1++[x7_2]):List Int);replace H:(dP.l0 k2 a1 y124 l0 (l0.length:Int) (wrap64 (x10_1+1)))=some r:=bu hy124 H;have Ny124:=aa hy124;clear hy124;have H':=aa H;clear H;obtain ⟨Ao15,co15,eo15⟩:=Kd.R_slice HO_5.out;subst eo15;go_wp2_with (first|(go_at_call 113;(with_reducible refine (bD.calls k2 _ _ x5_1 x7_2 false _ ?s1 ?s2 A7.out).mono ?_);(case s1=>exact eH HO_5.out);(case s2=>exact (Kd.R_reads' HO_5.out).2.1);rintro e w' ⟨rfl,⟨nd,rfl⟩⟩)|((with_reducible refine dE (b:=.append) (xs:=#[.tmp 27,.tmp 29]) rfl ?_);at_builtin;refine eQ (w0:=w) (.tmp 27) (.tmp 29) (.slice Ao15 x5_1.length co15) x5_1 x7_2 (λ_=>True) (λ_ _=>trivial) (ai HO_5.out) af (by exact bB LMc14.out) ?_;intro v125 w16 ho hb hg hat;rw[<- Ny124.out]at ho;replace HB:=aa (hb);have HO126:=aa (ho);clear ho hb hg hat));go_roundg k2
       case measure=>have:=HK1.out;have:=HK2.out;omega
       case rel=>exact ⟨(y124),(wrap64 (x10_1+1)),ag,H',⟨dR HK1.out HK2.out⟩,⟨ai HO126.out⟩,⟨af⟩⟩
      revert H;refine bi (λc17b0 H=>?_) λc17b0 H=>?_
      ·
       revert H;refine bZ λc18 H=>?_;have LMc18:=aa c18;clear c18;obtain ⟨y127,hy127⟩:=bv ((x5_1++[(-1)]):List Int);replace H:(dP.l0 k2 a1 y127 l0 (l0.length:Int) (wrap64 (x10_1+1)))=some r:=bu hy127 H;have Ny127:=aa hy127;clear hy127;have H':=aa H;clear H;go_wp2_with (first|((with_reducible refine dE (b:=.append) (xs:=#[.tmp 27,.tmp 29]) rfl ?_);at_builtin;refine eQ (w0:=w) (.tmp 27) (.tmp 29) u5 x5_1 (-1) (λ_=>True) (λ_ _=>trivial) (ai HO_5.out) af (by exact bB LMc18.out) ?_;intro v128 w19 ho hb hg hat;rw[<- Ny127.out]at ho;replace HB:=aa (hb);have HO129:=aa (ho);clear ho hb hg hat));go_roundg k2
       case measure=>have:=HK1.out;have:=HK2.out;omega
       case rel=>exact ⟨(y127),(wrap64 (x10_1+1)),ag,H',⟨dR HK1.out HK2.out⟩,⟨ai HO129.out⟩,⟨af⟩⟩
      revert H;refine bZ λc20 H=>?_;have LMc20:=aa c20;clear c20;obtain ⟨y130,hy130⟩:=bv ((x5_1++[x7_2]):List Int);replace H:(dP.l0 k2 a1 y130 l0 (l0.length:Int) (wrap64 (x10_1+1)))=some r:=bu hy130 H;have Ny130:=aa hy130;clear hy130;have H':=aa H;clear H;go_wp2_with (first|((with_reducible refine dE (b:=.append) (xs:=#[.tmp 27,.tmp 29]) rfl ?_);at_builtin;refine eQ (w0:=w) (.tmp 27) (.tmp 29) u5 x5_1 x7_2 (λ_=>True) (λ_ _=>trivial) (ai HO_5.out) af (by exact bB LMc20.out) ?_;intro v131 w21 ho hb hg hat;rw[<- Ny130.out]at ho;replace HB:=aa (hb);have HO132:=aa (ho);clear ho hb hg hat));go_roundg k2
      case measure=>have:=HK1.out;have:=HK2.out;omega
      case rel=>exact ⟨(y130),(wrap64 (x10_1+1)),ag,H',⟨dR HK1.out HK2.out⟩,⟨ai HO132.out⟩,⟨af⟩⟩
   obtain rfl:=Option.some.inj H;go_wp2;go_ret;exact ⟨_,aU,ai HO_5.out,af⟩
def nO.f(k:Nat)(l0:List Int)(a1:Int):Option (Bool):=(dP.f k l0 a1).bind λt133=>((bD.f k t133 (-1)).bind λt136=>(some (!t136)))
theorem nO.calls(k:Nat)(A0:Option Addr)(c0:Nat)(l0:List Int)(a1:Int)(r:Bool)(w:World)(hr0:Kd.C (Kd.int .i64) w A0 l0.length l0)(hc0:l0.length<=c0)(h:nO.f k l0 a1=some r) :
  Calls Tryz.prog 111 #[.slice A0 l0.length c0,.int .i64 a1] w λe w'=>e=.returned (.bool r)/\Below w.heap.size w w':=by
 have HR0:=aa hr0;have HC0:=aa hc0;clear hr0 hc0;have HB:=aa (Below.refl w.heap.size w);unfold nO.f at h;have H:=h;clear h;obtain ⟨t133,A3,H⟩:=aA H;obtain ⟨t136,A4,H⟩:=aA H;obtain rfl:=Option.some.inj H;go_enter Tryz.func111,Tryz.ntmps111;go_wp2_with (first|((with_reducible refine av 126 ?_);refine ax 7 Tryz.func126 #[.slice A0 l0.length c0,.int .i64 a1] ?_;(with_reducible refine (dP.calls k _ _ l0 a1 t133 _ ?s1 ?s2 A3.out).mono ?_);(case s1=>exact dU HR0.out);(case s2=>exact HC0.out);rintro e w5 ⟨v134,rfl,ho0,hb⟩;refine ⟨_,rfl,?_⟩;have HO135:=aa (Kd.R_lower ho0 (ay af));replace HB:=aa (aj af hb);clear hb ho0;obtain ⟨Ao6,co6,eo6⟩:=Kd.R_slice HO135.out;subst eo6)|((with_reducible refine av 113 ?_);refine ax 8 Tryz.func113 #[.slice Ao6 t133.length co6,.int .i64 (-1)] ?_;(with_reducible refine (bD.calls k _ _ t133 (-1) t136 _ ?s1 ?s2 A4.out).mono ?_);(case s1=>exact eH HO135.out);(case s2=>exact (Kd.R_reads' HO135.out).2.1);rintro e w' ⟨rfl,⟨nd,rfl⟩⟩;refine ⟨_,rfl,?_⟩));go_ret;exact ⟨aU,af⟩
def iL.f(k:Nat)(l0:List Int):Option (Bool):=if (l0.length:Int)<=8 then ((fC.f k l0 0 (wrap64 ((l0.length:Int) - 1))).bind λt137=>(if t137=true then ((nO.f k l0 (l0.length:Int)).bind λt138=>(some t138))else (some false)))else (some false)
theorem iL.calls(k:Nat)(A0:Option Addr)(c0:Nat)(l0:List Int)(r:Bool)(w:World)(hr0:Kd.C (Kd.int .i64) w A0 l0.length l0)(hc0:l0.length<=c0)(h:iL.f k l0=some r) :
  Calls Tryz.prog 71 #[.slice A0 l0.length c0] w λe w'=>e=.returned (.bool r)/\Below w.heap.size w w':=by
 have HR0:=aa hr0;have HC0:=aa hc0;clear hr0 hc0;have HB:=aa (Below.refl w.heap.size w);unfold iL.f at h;have H:=h;clear h
 by_cases c2:(l0.length:Int)<=8
 ·
  rw[if_pos c2]at H;have c2b0:=decide_eq_true c2;have c2b1:decide (l0.length<=8)=true:=decide_eq_true (by omega);clear c2;obtain ⟨t137,A3,H⟩:=aA H;revert H;refine bA (λc4 H=>?_) λc4 H=>?_
  ·
   subst c4;obtain ⟨t138,A5,H⟩:=aA H;obtain rfl:=Option.some.inj H;go_enter Tryz.func71,Tryz.ntmps71;go_wp2_with (first|(go_at_call 110;(with_reducible refine (fC.calls k _ _ l0 0 (wrap64 ((l0.length:Int) - 1)) true _ ?s1 ?s2 A3.out).mono ?_);(case s1=>exact dU HR0.out);(case s2=>exact HC0.out);rintro e w' ⟨rfl,⟨nd,rfl⟩⟩)|(go_at_call 111;(with_reducible refine (nO.calls k _ _ l0 (l0.length:Int) t138 _ ?s1 ?s2 A5.out).mono ?_);(case s1=>exact dU HR0.out);(case s2=>exact HC0.out);rintro e w6 ⟨rfl,hb⟩;replace HB:=aa (aj af hb);clear hb));go_ret;exact ⟨aU,af⟩
  subst c4;obtain rfl:=Option.some.inj H;go_enter Tryz.func71,Tryz.ntmps71;go_wp2_with (first|(go_at_call 110;(with_reducible refine (fC.calls k _ _ l0 0 (wrap64 ((l0.length:Int) - 1)) false _ ?s1 ?s2 A3.out).mono ?_);(case s1=>exact dU HR0.out);(case s2=>exact HC0.out);rintro e w' ⟨rfl,⟨nd,rfl⟩⟩));go_ret;exact ⟨aU,af⟩
 rw[if_neg c2]at H;have c2b0:=decide_eq_false c2;have c2b1:decide (l0.length<=8)=false:=decide_eq_false (by omega);clear c2;obtain rfl:=Option.some.inj H;go_enter Tryz.func71,Tryz.ntmps71;go_wp2;go_ret;exact ⟨aU,af⟩
def gY.f:Nat->Int->Option (ByteArray)
 | 0,_=>none
 | k+1,a0=>if a0<10 then (some (strOfNums (([(wrap64 (48+a0)) % 256]:List Int))))else ((gY.f k (wrap64 (Int.tdiv a0 10))).bind λt142=>((some (([(wrap64 (48+(Int.tmod a0 10))) % 256]:List Int):List Int)).bind λy143=>(if t142.size+(strOfNums y143).size<=9223372036854775807 then (some (t142++(strOfNums y143)))else (none))))
def gY.T3:Bool × List (List Nat × List Nat):=(true,[([],[]),([0],[0]),([1],[1]),([],[]),([3],[3]),([4],[4]),([5],[5]),([6],[6]),([7],[7]),([2,8],[2,8]),([9,2,0,1,2,3,4,5,6,7,8,9],[9])])
def gY.B3:List Nat:=[0,1,3,0,8,24,56,120,248,511,1023]
theorem gY.tab3:dQ .any (opsOf Tryz.f86 3)=gY.T3:=by kernel_rfl
theorem gY.bits3:jv gY.T3.2 gY.B3=true:=by kernel_rfl
theorem gY.calls(k:Nat):∀ (a0:Int) (r:ByteArray) (w:World) (h:gY.f k a0=some r),
  Calls Tryz.prog 86 #[.int .i64 a0] w λe w'=>e=.returned (.string r)/\Below w.heap.size w w':=by
 induction k using Nat.strongRecOn with
 | _ k ih =>
 intro a0 r w h;cases k with
 | zero=>exact absurd h (by simp[gY.f])
 | succ k =>
 simp only[gY.f]at h;have HB:=aa (Below.refl w.heap.size w);have H:(if a0<10 then (some (strOfNums (([(wrap64 (48+a0)) % 256]:List Int))))else ((gY.f k (wrap64 (Int.tdiv a0 10))).bind λt142=>((some (([(wrap64 (48+(Int.tmod a0 10))) % 256]:List Int):List Int)).bind λy143=>(if t142.size+(strOfNums y143).size<=9223372036854775807 then (some (t142++(strOfNums y143)))else (none)))))=some r:=h;clear h;revert H;refine bi (λc2b0 H=>?_) λc2b0 H=>?_
 ·
  obtain ⟨y139,hy139⟩:=bv ((([(wrap64 (48+a0)) % 256]:List Int)):List Int);replace H:(some (strOfNums y139))=some r:=bu hy139 H;have Ny139:=aa hy139;clear hy139;obtain rfl:=Option.some.inj H;go_enter Tryz.func86,Tryz.ntmps86;go_wp2_with (first|((with_reducible refine dm 8 ?_);refine Kd.R_lit (Kd.int .u8) _ 5 ?hg (N:=8) ?hd (xs:=([(wrap64 (48+a0)) % 256]:List Int)) (inner:=[.int .u8 ((wrap64 (48+a0)) % 256)]) (ok:=λ_=>True) (okp:=λ_=>True) ?hr ?hp (λ_ hk=>hk) trivial (Below.refl _ _) (Nat.le_refl _) (by simp) ?_;(case hd=>rfl);(case hg=>rfl);(case hr=>exact eO);(case hp=>exact (bG.one (show Kd.M (Kd.int .u8) _ _ _ ((wrap64 (48+a0)) % 256) [.int .u8 ((wrap64 (48+a0)) % 256)] from rfl) (bG.none _ _)));intro v140 w3 ho4 hb hg_ hnew_;clear hg_ hnew_;(first|rw[<- Ny139.out]at ho4|(simp only[Int.reduceToNat]at ho4;rw[<- Ny139.out]at ho4));have HO141:=aa (Kd.R_lower ho4 (ay af));replace HB:=aa (aj af hb);clear hb ho4;have hcv5:=nZ (P:=Tryz.prog) Tryz.underlying49 Tryz.underlying5 Tryz.underlying9 (Kd.own_of_R HO141.out)));go_ret;exact ⟨aU,af⟩
 obtain ⟨t142,A6,H⟩:=aA H;obtain ⟨y143,hy143⟩:=bv ((([(wrap64 (48+(Int.tmod a0 10))) % 256]:List Int)):List Int);replace H:(if t142.size+(strOfNums y143).size<=9223372036854775807 then (some (t142++(strOfNums y143)))else (none))=some r:=bu hy143 H;have Ny143:=aa hy143;clear hy143;revert H;refine bZ λc7 H=>?_;have c7b0:=eq_true c7;have c7b1:=decide_eq_true c7
 try have c7b2:(9223372036854775807<t142.size+(strOfNums y143).size)=False:=eq_false (Nat.not_lt.2 c7)
 obtain rfl:=Option.some.inj H;go_enter Tryz.func86,Tryz.ntmps86
 try go_wp2
 have ak:=aa (dw HB.out);clear HB;have HB:=ak;clear ak;refine jf (n:=11) (S:=λw'=>True) (ds:=[]) (fe 11 0) (by kernel_rfl) rfl (by kernel_rfl) trivial (λhHeld=>?_);refine j5 gY.tab3 gY.bits3 (λHT_ HW_=>?_)
 generalize w.drew=w8 at HB hHeld ⊢;refine aK 0 10 11 1 ?_;refine aK 1 11 11 3 ?_;refine aK 3 13 11 11 ?_;refine aK 4 14 11 27 ?_;refine aK 5 15 11 59 ?_;refine aK 6 16 11 123 ?_;refine wo (σ:=Value) 2 #[true,true,true,true,true,true,true,true,true,false,false] (λs_=>[(12,.string t142),(17,s_),(18,.string (strOfNums y143))]) (λs_ w'=>(Kd.R (Kd.int .u8) 5 w' w.heap.size (λ_=>True) s_ y143)/\(Below w.heap.size w w')) ?_ ?_;rotate_left
 ·
  intro hCont;refine uz (i:=2) (j:=7) (Ni:=some 12) (Nj:=some 17) #[true,true,true,true,true,true,true,false,false,false,false] #[true,true,false,true,true,true,true,true,false,false,false] rfl rfl rfl rfl (ul HT_.out (by kernel_rfl)) (by decide) (by decide) (λK hK=>?_) (λK hK=>?_)
  ·
   skip
   refine gq Tryz.func86 (by kernel_rfl) rfl #[.int .i64 (wrap64 (Int.tdiv a0 10))] (by rfl) rfl rfl g_ ?_
   with_reducible refine (ih k (by omega) (wrap64 (Int.tdiv a0 10)) t142 _ A6.out).mono ?_
   rintro e w9 ⟨rfl,hb⟩;refine ⟨_,rfl,?_⟩;have ak:=aa (aj af hb);clear HB;have HB:=ak;clear ak
   (try clear hb)
   (try clear hb2)
   (try clear hk)
   (try clear hi)
   refine hK.out _ _ trivial (λhHeld=>?_);clear hK K;refine eG ?_;refine fV 7 (some 17) 11 255 λK hK=>?_;refine Kd.R_lit_step (Kd.int .u8) _ 5 ?hg (N:=17) ?hd (xs:=([(wrap64 (48+(Int.tmod a0 10))) % 256]:List Int)) (inner:=[.int .u8 ((wrap64 (48+(Int.tmod a0 10))) % 256)]) (ok:=λ_=>True) (okp:=λ_=>True) ?hr ?hp (λ_ hk=>hk) trivial (Below.refl _ _) (Nat.le_refl _) (by simp) ?_;(case hd=>rfl);(case hg=>rfl);(case hr=>exact eO);(case hp=>exact (bG.one (show Kd.M (Kd.int .u8) _ _ _ ((wrap64 (48+(Int.tmod a0 10))) % 256) [.int .u8 ((wrap64 (48+(Int.tmod a0 10))) % 256)] from rfl) (bG.none _ _)));intro v144 w10 ho11 hb hg_ hnew_;clear hg_ hnew_
   (first|rw[<- Ny143.out]at ho11|(simp only[Int.reduceToNat]at ho11;rw[<- Ny143.out]at ho11))
   have ak:=aa (Kd.R_lower ho11 (ay af));have n1_:=aa (aj af hb);clear HB;have HO145:=ak;have HB:=n1_;clear ak n1_ hb ho11;refine hK.out _ _ trivial (λhHeld=>?_);clear hK K;refine eG ?_;refine fV 8 (some 18) 11 511 λK hK=>?_;have hcv12:=nZ (P:=Tryz.prog) Tryz.underlying49 Tryz.underlying5 Tryz.underlying9 (Kd.own_of_R HO145.out);refine uw (w1:=?_) (v:=?_) (by rfl) rfl ?_ ?_;rotate_left 2
   ·
    go_simp
    constructor
    · rfl
    · rfl
   clear hcv12;refine hK.out _ _ trivial (λhHeld=>?_);clear hK K;refine eG ?_;exact ll qN (hCont (v144) _ ⟨(ai HO145.out),af⟩)
  ·
   skip
   refine Kd.R_lit_step (Kd.int .u8) _ 5 ?hg (N:=17) ?hd (xs:=([(wrap64 (48+(Int.tmod a0 10))) % 256]:List Int)) (inner:=[.int .u8 ((wrap64 (48+(Int.tmod a0 10))) % 256)]) (ok:=λ_=>True) (okp:=λ_=>True) ?hr ?hp (λ_ hk=>hk) trivial (Below.refl _ _) (Nat.le_refl _) (by simp) ?_;(case hd=>rfl);(case hg=>rfl);(case hr=>exact eO);(case hp=>exact (bG.one (show Kd.M (Kd.int .u8) _ _ _ ((wrap64 (48+(Int.tmod a0 10))) % 256) [.int .u8 ((wrap64 (48+(Int.tmod a0 10))) % 256)] from rfl) (bG.none _ _)));intro v144 w9 ho10 hb hg_ hnew_;clear hg_ hnew_
   (first|rw[<- Ny143.out]at ho10|(simp only[Int.reduceToNat]at ho10;rw[<- Ny143.out]at ho10))
   have ak:=aa (Kd.R_lower ho10 (ay af));have n1_:=aa (aj af hb);clear HB;have HO145:=ak;have HB:=n1_;clear ak n1_ hb ho10;refine hK.out _ _ trivial (λhHeld=>?_);clear hK K;refine eG ?_;refine uz (i:=2) (j:=8) (Ni:=some 12) (Nj:=some 18) #[true,true,true,true,true,true,true,true,false,false,false] #[true,true,false,true,true,true,true,true,true,false,false] rfl rfl rfl rfl (ul HT_.out (by kernel_rfl)) (by decide) (by decide) (λK hK=>?_) (λK hK=>?_)
   ·
    skip
    refine gq Tryz.func86 (by kernel_rfl) rfl #[.int .i64 (wrap64 (Int.tdiv a0 10))] (by rfl) rfl rfl g_ ?_
    with_reducible refine (ih k (by omega) (wrap64 (Int.tdiv a0 10)) t142 _ A6.out).mono ?_
    rintro e w11 ⟨rfl,hb⟩;refine ⟨_,rfl,?_⟩;have ak:=aa (Kd.R_below (ai HO145.out) hb);have n1_:=aa (aj af hb);clear HO145 HB;have HO145:=ak;have HB:=n1_;clear ak n1_
    (try clear hb)
    (try clear hb2)
    (try clear hk)
    (try clear hi)
    refine hK.out _ _ trivial (λhHeld=>?_);clear hK K;refine eG ?_;refine fV 8 (some 18) 11 511 λK hK=>?_;have hcv12:=nZ (P:=Tryz.prog) Tryz.underlying49 Tryz.underlying5 Tryz.underlying9 (Kd.own_of_R HO145.out);refine uw (w1:=?_) (v:=?_) (by rfl) rfl ?_ ?_;rotate_left 2
    ·
     go_simp
     constructor
     · rfl
     · rfl
    clear hcv12;refine hK.out _ _ trivial (λhHeld=>?_);clear hK K;refine eG ?_;exact ll qN (hCont (v144) _ ⟨(ai HO145.out),af⟩)
   ·
    skip
    have hcv11:=nZ (P:=Tryz.prog) Tryz.underlying49 Tryz.underlying5 Tryz.underlying9 (Kd.own_of_R HO145.out);refine uw (w1:=?_) (v:=?_) (by rfl) rfl ?_ ?_;rotate_left 2
    ·
     go_simp
     constructor
     · rfl
     · rfl
    clear hcv11;refine hK.out _ _ trivial (λhHeld=>?_);clear hK K;refine eG ?_;refine fV 2 (some 12) 11 511 λK hK=>?_;refine gq Tryz.func86 (by kernel_rfl) rfl #[.int .i64 (wrap64 (Int.tdiv a0 10))] (by rfl) rfl rfl g_ ?_
    with_reducible refine (ih k (by omega) (wrap64 (Int.tdiv a0 10)) t142 _ A6.out).mono ?_
    rintro e w12 ⟨rfl,hb⟩;refine ⟨_,rfl,?_⟩;have ak:=aa (Kd.R_below (ai HO145.out) hb);have n1_:=aa (aj af hb);clear HO145 HB;have HO145:=ak;have HB:=n1_;clear ak n1_
    (try clear hb)
    (try clear hb2)
    (try clear hk)
    (try clear hi)
    refine hK.out _ _ trivial (λhHeld=>?_);clear hK K;refine eG ?_;exact ll qN (hCont (v144) _ ⟨(ai HO145.out),af⟩)
 rintro v144 w13 ⟨h0_,h1_⟩;have ak:ae (Kd.R (Kd.int .u8) 5 w13 w.heap.size (λ_=>True) v144 y143):=⟨h0_⟩;have n1_:ae (Below w.heap.size w w13):=⟨h1_⟩;clear HB h0_ h1_;have HO145:=ak;have HB:=n1_;clear ak n1_;have hHeld:=trivial;refine ll (a':=?_) ?_ ?_;rotate_left
 ·
  simp only[o6,Act.put,List.setIfInBounds_toArray,List.set_cons_zero,List.set_cons_succ];rfl
 refine aK 9 19 11 1023 ?_;refine aK 10 2 11 2047 ?_;refine iQ (jm HT_.out (by kernel_rfl)) ?_
 try go_wp2
 go_ret;exact ⟨aU,af⟩
def kF.f(a0:Int):Option (Bool):=(ek.f a0 0 8).bind λt146=>(some t146)
theorem kF.calls(a0:Int)(r:Bool)(w:World)(h:kF.f a0=some r) :
  Calls Tryz.prog 179 #[.int .i64 a0] w λe w'=>e=.returned (.bool r)/\bg w w':=by
 unfold kF.f at h;have H:=h;clear h;obtain ⟨t146,A2,H⟩:=aA H;obtain rfl:=Option.some.inj H;go_enter Tryz.func179,Tryz.ntmps179;go_wp2_with (first|((with_reducible refine av 112 ?_);refine ax 4 Tryz.func112 #[.int .i64 a0,.int .i64 0,.int .i64 8] ?_;(with_reducible refine (ek.calls a0 0 8 t146 _ A2.out).mono ?_);rintro e w' ⟨rfl,⟨nd,rfl⟩⟩;refine ⟨_,rfl,?_⟩));go_ret;exact ⟨ag,aZ⟩
def gT.l0:Nat->Int->Int->Int->Option (Int)
 | 0,_,_,_=>none
 | k+1,x0,x1,x5=>if x1>0 then (gT.l0 k x0 (wrap64 (x1 - 1)) (wrap64 (x5 * x0)))else (some x5)
def gT.f(k:Nat)(a0:Int)(a1:Int):Option (Int):=gT.l0 k a0 a1 1
theorem gT.mono_l:∀k,(∀y0 y1 y2,aC (gT.l0 k y0 y1 y2) (gT.l0 (k+1) y0 y1 y2))
 | 0=>λ_ _ _ r h=>by simp[gT.l0]at h
 | k+1=>by
  have ih0:=gT.mono_l k
  ·
   intro y0 y1 y2;unfold gT.l0
   repeat' (with_reducible first|exact ih0 _ _ _|exact aC.refl _|exact aC.none _|refine aC.ite ?_ ?_|refine aC.bind ?_ (λ_=>?_))
theorem gT.mono:∀a0 a1 k,aC (gT.f k a0 a1) (gT.f (k+1) a0 a1):=by
 intro a0 a1 k;have ih0:=gT.mono_l k;unfold gT.f
 repeat' (with_reducible first|exact ih0 _ _ _|exact aC.refl _|exact aC.none _|refine aC.ite ?_ ?_|refine aC.bind ?_ (λ_=>?_))
theorem gT.calls(k:Nat)(a0:Int)(a1:Int)(r:Int)(w:World)(h:gT.f k a0 a1=some r) :
  Calls Tryz.prog 228 #[.int .i64 a0,.int .i64 a1] w λe w'=>e=.returned (.int .i64 r)/\bg w w':=by
 have H:(gT.l0 k a0 a1 1)=some r:=h;clear h;have H':=aa H;clear H;go_enter Tryz.func228,Tryz.ntmps228;go_wp2
 go_loopg [1,5] k (λkq v1 v5 w'=>∃ (x1_1:Int) (x5_1:Int),v1=.int .i64 x1_1/\v5=.int .i64 x5_1/\ae (gT.l0 kq a0 x1_1 x5_1=some r)/\ae (kq<=k)/\bg w w')
 case atStart=>exact ⟨(a1),(1),ag,ag,H',⟨Nat.le_refl _⟩,aZ⟩
 case round =>
  clear H';obtain ⟨x1_1,x5_1,rfl,rfl,HA,HK1,⟨m1,rfl⟩⟩:=hrel;cases gk with
  | zero=>exact ak HA.out
  | succ k1 =>
   have H:=HA.out;clear HA;simp only[gT.l0]at H;revert H;refine bi (λc3b0 H=>?_) λc3b0 H=>?_
   ·
    have H':=aa H;clear H;go_wp2;go_roundg k1
    case measure=>have:=HK1.out;omega
    case rel=>exact ⟨(wrap64 (x1_1 - 1)),(wrap64 (x5_1 * a0)),ag,ag,H',⟨bB HK1.out⟩,aZ⟩
   obtain rfl:=Option.some.inj H;go_wp2;go_ret;exact ⟨ag,aZ⟩
def jk.f(k:Nat)(a0:Int):Option (Int):=if a0=0 then (some 1)else ((gT.f k (wrap64 (a0+1)) (wrap64 (a0 - 1))).bind λt147=>(some t147))
theorem jk.mono:∀a0 k,aC (jk.f k a0) (jk.f (k+1) a0):=by
 intro a0 k;unfold jk.f
 repeat' (with_reducible first|exact gT.mono _ _ _|exact aC.refl _|exact aC.none _|refine aC.ite ?_ ?_|refine aC.bind ?_ (λ_=>?_))
theorem jk.calls(k:Nat)(a0:Int)(r:Int)(w:World)(h:jk.f k a0=some r) :
  Calls Tryz.prog 180 #[.int .i64 a0] w λe w'=>e=.returned (.int .i64 r)/\bg w w':=by
 unfold jk.f at h;have H:=h;clear h;revert H;refine dH (λc2b0 c2b1 H=>?_) λc2 c2b0 c2b1 H=>?_
 ·
  obtain rfl:=Option.some.inj H;go_enter Tryz.func180,Tryz.ntmps180;go_wp2;go_ret;exact ⟨ag,aZ⟩
 obtain ⟨t147,A3,H⟩:=aA H;obtain rfl:=Option.some.inj H;go_enter Tryz.func180,Tryz.ntmps180;go_wp2_with (first|((with_reducible refine av 228 ?_);refine ax 9 Tryz.func228 #[.int .i64 (wrap64 (a0+1)),.int .i64 (wrap64 (a0 - 1))] ?_;(with_reducible refine (gT.calls k (wrap64 (a0+1)) (wrap64 (a0 - 1)) t147 _ A3.out).mono ?_);rintro e w' ⟨rfl,⟨nd,rfl⟩⟩;refine ⟨_,rfl,?_⟩));go_ret;exact ⟨ag,aZ⟩
def fH.f(l0:List Int):Option (List Int):=(some (([]:List Int):List Int)).bind λy148=>(if y148.length+l0.length<17592186044416 then (some (y148++l0))else (none))
theorem fH.calls(A0:Option Addr)(c0:Nat)(l0:List Int)(r:List Int)(w:World)(hr0:Kd.C (Kd.int .i64) w A0 l0.length l0)(hc0:l0.length<=c0)(h:fH.f l0=some r) :
  Calls Tryz.prog 70 #[.slice A0 l0.length c0] w λe w'=>∃v0_:Value,e=.returned (v0_)/\Kd.R (Kd.int .i64) 3 w' w.heap.size (λ_=>True) v0_ r/\Below w.heap.size w w':=by
 have HR0:=aa hr0;have HC0:=aa hc0;clear hr0 hc0;have HB:=aa (Below.refl w.heap.size w);unfold fH.f at h;have H:=h;clear h;obtain ⟨y148,hy148⟩:=bv ((([]:List Int)):List Int);replace H:(if y148.length+l0.length<17592186044416 then (some (y148++l0))else (none))=some r:=bu hy148 H;have Ny148:=aa hy148;clear hy148;revert H;refine bZ λc2 H=>?_;have LMc2:=aa c2;clear c2;obtain ⟨y151,hy151⟩:=bv ((y148++l0):List Int);replace H:(some y151)=some r:=bu hy151 H;have Ny151:=aa hy151;clear hy151;obtain rfl:=Option.some.inj H;go_enter Tryz.func70,Tryz.ntmps70;go_wp2_with (first|((with_reducible refine dm 3 ?_);refine Kd.R_lit (Kd.int .i64) _ 3 ?hg (N:=3) ?hd (xs:=([]:List Int)) (inner:=[]) (ok:=λ_=>True) (okp:=λ_=>True) ?hr ?hp (λ_ hk=>hk) trivial (Below.refl _ _) (Nat.le_refl _) (by simp) ?_;(case hd=>rfl);(case hg=>rfl);(case hr=>exact eO);(case hp=>exact (bG.none _ _));intro v149 w3 ho4 hb hg_ hnew_;clear hg_ hnew_;(first|rw[<- Ny148.out]at ho4|(simp only[Int.reduceToNat]at ho4;rw[<- Ny148.out]at ho4));have HO150:=aa (Kd.R_lower ho4 (ay af));replace HB:=aa (aj af hb);clear hb ho4)|((with_reducible refine dE (b:=.append) (xs:=#[.tmp 3,.tmp 4]) rfl ?_);at_builtin;refine Kd.R_append_rows (Kd.int .i64) (w0:=w) w.heap.size rfl (.tmp 3) (.tmp 4) 22 3 (.int .i64 0) 8 rfl Tryz.underlying22 info3 rfl (by decide) (by omega) v149 y148 l0 _ _ _ (λ_=>True) (λ_=>False) rfl rfl ?aO ?aR (λ_ _ h=>h) (λ_ h=>h.elim) ?aF ?aB ?aS ?aL ?_;(case aR=>exact bQ HR0.out);(case aB=>exact af);(case aF=>exact (λ_ _=>trivial));(case aO=>exact (ai HO150.out));(case aS=>exact (ay af));(case aL=>exact bB LMc2.out);intro v152 w5 ho hb hg hat;rw[<- Ny151.out]at ho;replace HB:=aa (hb);have HO153:=aa (ho);clear ho hb hg hat));go_ret;exact ⟨_,aU,ai HO153.out,af⟩
def fP.l0:Nat->Int->Int->Int->Int->Option (Int)
 | 0,_,_,_,_=>none
 | k+1,x0,x1,x5,x6=>if x6<x1 then (if (wrap64 (x6+1))=0 then (none)else (fP.l0 k x0 x1 (wrap64 (Int.tdiv (wrap64 (x5 * (wrap64 (x0 - x6)))) (wrap64 (x6+1)))) (wrap64 (x6+1))))else (some x5)
def fP.f(k:Nat)(a0:Int)(a1:Int):Option (Int):=fP.l0 k a0 a1 1 0
theorem fP.mono_l:∀k,(∀y0 y1 y2 y3,aC (fP.l0 k y0 y1 y2 y3) (fP.l0 (k+1) y0 y1 y2 y3))
 | 0=>λ_ _ _ _ r h=>by simp[fP.l0]at h
 | k+1=>by
  have ih0:=fP.mono_l k
  ·
   intro y0 y1 y2 y3;unfold fP.l0
   repeat' (with_reducible first|exact ih0 _ _ _ _|exact aC.refl _|exact aC.none _|refine aC.ite ?_ ?_|refine aC.bind ?_ (λ_=>?_))
theorem fP.mono:∀a0 a1 k,aC (fP.f k a0 a1) (fP.f (k+1) a0 a1):=by
 intro a0 a1 k;have ih0:=fP.mono_l k;unfold fP.f
 repeat' (with_reducible first|exact ih0 _ _ _ _|exact aC.refl _|exact aC.none _|refine aC.ite ?_ ?_|refine aC.bind ?_ (λ_=>?_))
theorem fP.calls(k:Nat)(a0:Int)(a1:Int)(r:Int)(w:World)(h:fP.f k a0 a1=some r) :
  Calls Tryz.prog 229 #[.int .i64 a0,.int .i64 a1] w λe w'=>e=.returned (.int .i64 r)/\bg w w':=by
 unfold fP.f at h;have H:=h;clear h;have H':=aa H;clear H;go_enter Tryz.func229,Tryz.ntmps229;go_wp2
 go_loopg [5,6] k (λkq v5 v6 w'=>∃ (x5_1:Int) (x6_1:Int),v5=.int .i64 x5_1/\v6=.int .i64 x6_1/\ae (fP.l0 kq a0 a1 x5_1 x6_1=some r)/\ae (kq<=k)/\bg w w')
 case atStart=>exact ⟨(1),(0),ag,ag,H',⟨Nat.le_refl _⟩,aZ⟩
 case round =>
  clear H';obtain ⟨x5_1,x6_1,rfl,rfl,HA,HK1,⟨m1,rfl⟩⟩:=hrel;cases gk with
  | zero=>exact ak HA.out
  | succ k1 =>
   have H:=HA.out;clear HA;simp only[fP.l0]at H;revert H;refine bi (λc3b0 H=>?_) λc3b0 H=>?_
   ·
    revert H;refine jb λc4 H=>?_;have c4b0:=beq_eq_false_iff_ne.mpr c4;have c4b1:=bne_iff_ne.mpr c4;have H':=aa H;clear H;go_wp2;go_roundg k1
    case measure=>have:=HK1.out;omega
    case rel=>exact ⟨(wrap64 (Int.tdiv (wrap64 (x5_1 * (wrap64 (a0 - x6_1)))) (wrap64 (x6_1+1)))),(wrap64 (x6_1+1)),ag,ag,H',⟨bB HK1.out⟩,aZ⟩
   obtain rfl:=Option.some.inj H;go_wp2;go_ret;exact ⟨ag,aZ⟩
mutual
def gp.j0:Nat->List Int->List Int->Bool->Option (List Int × Bool)
 | 0,_,_,_=>none
 | k+1,x0,x1,x24=>if x24=true then (some (([]:List Int),false))else ((fH.f x0).bind λt208=>(gp.l0 k x0 t208 x1 (x1.length:Int) 0))
def gp.l0:Nat->List Int->List Int->List Int->Int->Int->Option (List Int × Bool)
 | 0,_,_,_,_,_=>none
 | k+1,x0,x6,x27,x28,x29=>if x29<x28 then (if 0<=x29 then (if x29<(x27.length:Int)then (if x6.length<17592186044416 then (gp.l0 k x0 (x6++[wrap64 ((rd x27 x29)+(x0.length:Int))]) x27 x28 (wrap64 (x29+1)))else (none))else (none))else (none))else (some (x6,true))
end
def gp.f(k:Nat)(l0:List Int)(l1:List Int):Option (List Int × Bool):=(iL.f k l0).bind λt206=>(if t206=true then ((iL.f k l1).bind λt207=>(if t207=true then (gp.j0 k l0 l1 (decide ((wrap64 ((l0.length:Int)+(l1.length:Int)))>8)))else (gp.j0 k l0 l1 true)))else (gp.j0 k l0 l1 true))
theorem gp.calls(k:Nat)(A0:Option Addr)(c0:Nat)(l0:List Int)(A1:Option Addr)(c1:Nat)(l1:List Int)(r1:List Int)(r2:Bool)(w:World)(hr0:Kd.C (Kd.int .i64) w A0 l0.length l0)(hc0:l0.length<=c0)(hr1:Kd.C (Kd.int .i64) w A1 l1.length l1)(hc1:l1.length<=c1)(h:gp.f k l0 l1=some (r1,r2)) :
  Calls Tryz.prog 121 #[.slice A0 l0.length c0,.slice A1 l1.length c1] w λe w'=>∃v0_:Value,e=.returned (.tuple #[v0_,.bool r2])/\Kd.R (Kd.int .i64) 3 w' w.heap.size (λ_=>True) v0_ r1/\Below w.heap.size w w':=by
 have HR0:=aa hr0;have HC0:=aa hc0;clear hr0 hc0;have HR1:=aa hr1;have HC1:=aa hc1;clear hr1 hc1;have HB:=aa (Below.refl w.heap.size w);unfold gp.f at h;have H:=h;clear h;have HC3:=aa H;clear H;go_enter Tryz.func121,Tryz.ntmps121
 go_upto_region 1 with (fail)
 go_cut [24] (λv24 wc=>∃ (kq:Nat) (x24_2:Bool),v24=.bool x24_2/\ae (gp.j0 kq l0 l1 x24_2=some (r1,r2))/\ae (kq<=k)/\ae (Below w.heap.size w wc))
 case first =>
  have H:=HC3.out;clear HC3;obtain ⟨t206,A4,H⟩:=aA H;revert H;refine bA (λc5 H=>?_) λc5 H=>?_
  ·
   subst c5;obtain ⟨t207,A6,H⟩:=aA H;revert H;refine bA (λc7 H=>?_) λc7 H=>?_
   ·
    subst c7;have H':=aa H;clear H;go_wp2_with (first|((with_reducible refine av 71 ?_);refine ax 10 Tryz.func71 #[.slice A0 l0.length c0] ?_;(with_reducible refine (iL.calls k _ _ l0 true _ ?s1 ?s2 A4.out).mono ?_);(case s1=>exact bQ HR0.out);(case s2=>exact HC0.out);rintro e w8 ⟨rfl,hb⟩;refine ⟨_,rfl,?_⟩;replace HB:=aa (aj af hb);clear hb)|(go_at_call 71;(with_reducible refine (iL.calls k _ _ l1 true _ ?s1 ?s2 A6.out).mono ?_);(case s1=>exact bQ HR1.out);(case s2=>exact HC1.out);rintro e w9 ⟨rfl,hb⟩;replace HB:=aa (aj af hb);clear hb));go_meet
    case rel=>exact ⟨_,(decide ((wrap64 ((l0.length:Int)+(l1.length:Int)))>8)),ag,H',⟨dF⟩,⟨af⟩⟩
   subst c7;have H':=aa H;clear H;go_wp2_with (first|((with_reducible refine av 71 ?_);refine ax 10 Tryz.func71 #[.slice A0 l0.length c0] ?_;(with_reducible refine (iL.calls k _ _ l0 true _ ?s1 ?s2 A4.out).mono ?_);(case s1=>exact bQ HR0.out);(case s2=>exact HC0.out);rintro e w10 ⟨rfl,hb⟩;refine ⟨_,rfl,?_⟩;replace HB:=aa (aj af hb);clear hb)|(go_at_call 71;(with_reducible refine (iL.calls k _ _ l1 false _ ?s1 ?s2 A6.out).mono ?_);(case s1=>exact bQ HR1.out);(case s2=>exact HC1.out);rintro e w11 ⟨rfl,hb⟩;replace HB:=aa (aj af hb);clear hb));go_meet
   case rel=>exact ⟨_,(true),ag,H',⟨dF⟩,⟨af⟩⟩
  subst c5;have H':=aa H;clear H;go_wp2_with (first|((with_reducible refine av 71 ?_);refine ax 10 Tryz.func71 #[.slice A0 l0.length c0] ?_;(with_reducible refine (iL.calls k _ _ l0 false _ ?s1 ?s2 A4.out).mono ?_);(case s1=>exact bQ HR0.out);(case s2=>exact HC0.out);rintro e w12 ⟨rfl,hb⟩;refine ⟨_,rfl,?_⟩;replace HB:=aa (aj af hb);clear hb));go_meet
  case rel=>exact ⟨_,(true),ag,H',⟨dF⟩,⟨af⟩⟩
 case rest =>
  clear HC3;obtain ⟨kq,x24_2,rfl,HA,HJ2,HB⟩:=hcut;cases kq with
  | zero=>exact ak HA.out
  | succ kj2 =>
   have H:=HA.out;clear HA;simp only[gp.j0]at H;revert H;refine bA (λc13 H=>?_) λc13 H=>?_
   ·
    subst c13;obtain ⟨rfl,rfl⟩:=dB H;go_wp2;go_ret2;exact ⟨_,aU,d9,af⟩
   subst c13;obtain ⟨t208,A14,H⟩:=aA H;have H':=aa H;clear H;go_wp2_with (first|((with_reducible refine av 70 ?_);refine ax 26 Tryz.func70 #[.slice A0 l0.length c0] ?_;(with_reducible refine (fH.calls _ _ l0 t208 _ ?s1 ?s2 A14.out).mono ?_);(case s1=>exact bQ HR0.out);(case s2=>exact HC0.out);rintro e w15 ⟨v209,rfl,ho0,hb⟩;refine ⟨_,rfl,?_⟩;have HO210:=aa (Kd.R_lower ho0 (ay af));replace HB:=aa (aj af hb);clear hb ho0))
   go_loopg [6,29] kj2 (λkq v6 v29 w'=>∃ (x6_2:List Int) (x29_2:Int),v29=.int .i64 x29_2/\ae (gp.l0 kq l0 x6_2 l1 (l1.length:Int) x29_2=some (r1,r2))/\ae (kq<=kj2)/\ae (Kd.R (Kd.int .i64) 3 w' w.heap.size (λ_=>True) v6 x6_2)/\ae (Below w.heap.size w w'))
   case atStart=>exact ⟨(t208),(0),ag,H',⟨Nat.le_refl _⟩,⟨ai HO210.out⟩,⟨af⟩⟩
   case round =>
    clear H';obtain ⟨x6_2,x29_2,rfl,HA,HK2,HO_6,HB⟩:=hrel;cases gk with
    | zero=>exact ak HA.out
    | succ k2 =>
     have H:=HA.out;clear HA;simp only[gp.l0]at H;revert H;refine bi (λc16b0 H=>?_) λc16b0 H=>?_
     ·
      revert H;refine aX λc17b0 H=>?_;revert H;refine aX λc18b0 H=>?_;revert H;refine bZ λc19 H=>?_;have LMc19:=aa c19;clear c19;obtain ⟨y212,hy212⟩:=bv ((x6_2++[wrap64 ((rd l1 x29_2)+(l0.length:Int))]):List Int);replace H:(gp.l0 k2 l0 y212 l1 (l1.length:Int) (wrap64 (x29_2+1)))=some (r1,r2):=bu hy212 H;have Ny212:=aa hy212;clear hy212;have H':=aa H;clear H;obtain ⟨ad211,rfl,hx211_0,p211,q211⟩:=bW HR1.out x29_2
      (try (replace hx211_0:=(HB.out.cell (World.block_lt_of_cell? w _ hx211_0)).trans hx211_0))
      go_wp2_with (first|((with_reducible refine dE (b:=.append) (xs:=#[.tmp 33,.tmp 38]) rfl ?_);(try (refine kZ (by rfl) ?_;dsimp only));at_builtin;refine eQ (w0:=w) (.tmp 33) (.tmp 38) u6 x6_2 (wrap64 ((rd l1 x29_2)+(l0.length:Int))) (λ_=>True) (λ_ _=>trivial) (ai HO_6.out) af (by exact bB LMc19.out) ?_;intro v213 w20 ho hb hg hat;rw[<- Ny212.out]at ho;replace HB:=aa (hb);have HO214:=aa (ho);clear ho hb hg hat));go_roundg k2
      case measure=>have:=HJ2.out;have:=HK2.out;omega
      case rel=>exact ⟨(y212),(wrap64 (x29_2+1)),ag,H',⟨dR HJ2.out HK2.out⟩,⟨ai HO214.out⟩,⟨af⟩⟩
     obtain ⟨rfl,rfl⟩:=dB H;go_wp2;go_ret2;exact ⟨_,aU,ai HO_6.out,af⟩
def fK.l0:Nat->Int->Int->List Int->Option (List Int)
 | 0,_,_,_=>none
 | k+1,x0,x4,x217000=>if x4<x0 then (if x217000.length<17592186044416 then (fK.l0 k x0 (wrap64 (x4+1)) (x217000++[(-1)]))else (none))else (some x217000)
def fK.f(k:Nat)(a0:Int):Option (List Int):=fK.l0 k a0 0 ([]:List Int)
theorem fK.mono_l:∀k,(∀y0 y1 y2,aC (fK.l0 k y0 y1 y2) (fK.l0 (k+1) y0 y1 y2))
 | 0=>λ_ _ _ r h=>by simp[fK.l0]at h
 | k+1=>by
  have ih0:=fK.mono_l k
  ·
   intro y0 y1 y2;unfold fK.l0
   repeat' (with_reducible first|exact ih0 _ _ _|exact aC.refl _|exact aC.none _|refine aC.ite ?_ ?_|refine aC.bind ?_ (λ_=>?_))
theorem fK.mono:∀a0 k,aC (fK.f k a0) (fK.f (k+1) a0):=by
 intro a0 k;have ih0:=fK.mono_l k;unfold fK.f
 repeat' (with_reducible first|exact ih0 _ _ _|exact aC.refl _|exact aC.none _|refine aC.ite ?_ ?_|refine aC.bind ?_ (λ_=>?_))
theorem fK.calls(k:Nat)(a0:Int)(r:List Int)(w:World)(h:fK.f k a0=some r) :
  Calls Tryz.prog 107 #[.int .i64 a0] w λe w'=>∃v0_:Value,e=.returned (.agg #[v0_])/\Kd.R (Kd.int .i64) 3 w' w.heap.size (λ_=>True) v0_ r/\Below w.heap.size w w':=by
 have hu34:=Tryz.underlying34;have HB:=aa (Below.refl w.heap.size w);unfold fK.f at h;have H:=h;clear h;have H':=aa H;clear H;go_enter Tryz.func107,Tryz.ntmps107;go_wp2_with (first|((with_reducible refine dm 2 ?_);refine fJ #[.slice none 0 0] 34 ?_;intro gb215 hg w2 hbox hb;have BK215:=aa (hbox);have GW215:=aa ((by rw[hg];exact (ay af):w.heap.size<=gb215));have GE215:=aa ((by rw[hg];exact (ay af):w.heap.size<=gb215));replace HB:=aa (aj af hb);clear hb hbox hg)|((with_reducible refine dm 3 ?_);refine fJ #[.slice none 0 0] 34 ?_;intro gb216 hg w3 hbox hb;have BK216:=aa (hbox);have GW216:=aa ((by rw[hg];exact (ay (aY GE215.out)):w.heap.size<=gb216));have GE216:=aa ((by rw[hg];exact (ay (aY GE215.out)):w.heap.size<=gb216));have NB215_216:=aa ((by rw[hg];exact Nat.ne_of_lt (dC (g:=gb215) (o:=.cells #[.slice none 0 0] 34 (0,0)) (aJ BK215.out)):gb215≠gb216));have NB216_215:=aa ((by rw[hg];exact Nat.ne_of_gt (dC (g:=gb215) (o:=.cells #[.slice none 0 0] 34 (0,0)) (aJ BK215.out)):gb216≠gb215));replace BK215:=aa (aI (g:=gb215) (o:=.cells #[.slice none 0 0] 34 (0,0)) (aJ BK215.out) hb);replace HB:=aa (aj (aY GE215.out) hb);clear hb hbox hg;have hnb4:=NB216_215.out;have hnc4:=NB215_216.out;have hcz5_0:w3.cell? ⟨gb216,0,none⟩=some (.slice none 0 0):=(ah BK216.out 0).trans rfl;have hfz5_0:=au BK216.out 0))
 go_loopg [4] k (λkq v4 w'=>∃ (x4_1:Int) (x217000_1:List Int) (u217000:Value),v4=.int .i64 x4_1/\ae (fK.l0 kq a0 x4_1 x217000_1=some r)/\ae (kq<=k)/\ae (Kd.R (Kd.int .i64) 3 w' w.heap.size (λ_=>True) u217000 x217000_1)/\ae (w'.heap[gb215]?=some (.cells #[(.slice none 0 0)] 34 (0,0)))/\ae (w'.heap[gb216]?=some (.cells #[u217000] 34 (0,0)))/\ae (Below w.heap.size w w'))
 case atStart=>exact ⟨(0),(([]:List Int)),(.slice none 0 0),ag,H',⟨Nat.le_refl _⟩,⟨d9⟩,⟨oJ NB215_216.out BK215.out⟩,⟨lm BK216.out⟩,⟨dM GE215.out GE216.out⟩⟩
 case round =>
  clear H';obtain ⟨x4_1,x217000_1,u217000,rfl,HA,HK1,HO_217000,BK215,BK216,HB⟩:=hrel;cases gk with
  | zero=>exact ak HA.out
  | succ k1 =>
   have H:=HA.out;clear HA;simp only[fK.l0]at H;revert H;refine bi (λc6b0 H=>?_) λc6b0 H=>?_
   ·
    revert H;refine bZ λc7 H=>?_;have LMc7:=aa c7;clear c7;obtain ⟨y217,hy217⟩:=bv ((x217000_1++[(-1)]):List Int);replace H:(fK.l0 k1 a0 (wrap64 (x4_1+1)) y217)=some r:=bu hy217 H;have Ny217:=aa hy217;clear hy217;have H':=aa H;clear H;have hnb8:=NB216_215.out;have hnc8:=NB215_216.out;have hcz9_0:wr.cell? ⟨gb216,0,none⟩=some (u217000):=(ah BK216.out 0).trans rfl;have hfz9_0:=au BK216.out 0;go_wp2_with (first|((with_reducible refine dE (b:=.append) (xs:=#[.tmp 12,.tmp 13]) rfl ?_);at_builtin;refine eQ (w0:=w) (.tmp 12) (.tmp 13) u217000 x217000_1 (-1) (λ_=>True) (λ_ _=>trivial) (ai HO_217000.out) (dM GE215.out GE216.out) (by exact bB LMc7.out) ?_;intro v218 w10 ho hb hg hat;rw[<- Ny217.out]at ho;replace BK215:=aa (iM (g:=gb215) (o:=.cells #[.slice none 0 0] 34 (0,0)) (aJ BK215.out) hg (Kd.R_ne HO_217000.out BK215.out (by decide)));replace BK216:=aa (iM (g:=gb216) (o:=.cells #[u217000] 34 (0,0)) (aJ BK216.out) hg (Kd.R_ne HO_217000.out BK216.out (by decide)));replace HB:=aa (hb);have HO219:=aa (ho);clear ho hb hg hat;obtain ⟨Ao11,co11,eo11⟩:=Kd.R_slice HO219.out;subst eo11;have hcz12_0:w10.cell? ⟨gb216,0,none⟩=some (u217000):=(ah BK216.out 0).trans rfl;have hfz12_0:=au BK216.out 0));go_roundg k1
    case measure=>have:=HK1.out;omega
    case rel=>exact ⟨(wrap64 (x4_1+1)),(y217),(.slice Ao11 y217.length co11),ag,H',⟨bB HK1.out⟩,⟨by (with_reducible repeat (first|apply Kd.R_alloc|apply Kd.R_drewN|apply Kd.R_drew));exact Kd.R_mono (Kd.R_far (p:=⟨gb216,0,none⟩) (Kd.R_types HO219.out BK216.out (by decide)) (λ_ hk=>hk.2) (.slice Ao11 y217.length co11)) (λ_ hk=>trivial)⟩,⟨oJ NB215_216.out BK215.out⟩,⟨by (with_reducible repeat (first|refine di ?_ _|refine bS ?_|refine bq ?_ _));refine dV (cs:=#[u217000]) ?_ 0 _ rfl;(with_reducible repeat (first|refine di ?_ _|refine bS ?_|refine bq ?_ _));exact BK216.out⟩,⟨dM GE215.out GE216.out⟩⟩
   obtain rfl:=Option.some.inj H;have hnb13:=NB216_215.out;have hnc13:=NB215_216.out;have hcz14_0:wr.cell? ⟨gb216,0,none⟩=some (u217000):=(ah BK216.out 0).trans rfl;have hfz14_0:=au BK216.out 0;obtain ⟨Ao15,co15,eo15⟩:=Kd.R_slice HO_217000.out;subst eo15;have hcz16_0:wr.cell? ⟨gb215,0,none⟩=some (.slice none 0 0):=(ah BK215.out 0).trans rfl;have hfz16_0:=au BK215.out 0;go_wp2;refine bodyPost_ret (results_cell_row rfl _ _ gb215 34 #[.slice Ao15 x217000_1.length co15] (0,0) _ rfl (lm BK215.out) Tryz.underlying34 rfl (by kernel_rfl)) rfl ?_;exact ⟨_,aU,by (with_reducible repeat (first|apply Kd.R_alloc|apply Kd.R_drewN|apply Kd.R_drew));exact Kd.R_mono (Kd.R_far (p:=⟨gb215,0,none⟩) (Kd.R_types HO_217000.out BK215.out (by decide)) (λ_ hk=>hk.2) (.slice Ao15 x217000_1.length co15)) (λ_ hk=>trivial),dM GE215.out GE216.out⟩
def kY.f(a0:Int):Option (Bool):=(ek.f a0 2 12).bind λt220=>(some t220)
theorem kY.calls(a0:Int)(r:Bool)(w:World)(h:kY.f a0=some r) :
  Calls Tryz.prog 182 #[.int .i64 a0] w λe w'=>e=.returned (.bool r)/\bg w w':=by
 unfold kY.f at h;have H:=h;clear h;obtain ⟨t220,A2,H⟩:=aA H;obtain rfl:=Option.some.inj H;go_enter Tryz.func182,Tryz.ntmps182;go_wp2_with (first|((with_reducible refine av 112 ?_);refine ax 4 Tryz.func112 #[.int .i64 a0,.int .i64 2,.int .i64 12] ?_;(with_reducible refine (ek.calls a0 2 12 t220 _ A2.out).mono ?_);rintro e w' ⟨rfl,⟨nd,rfl⟩⟩;refine ⟨_,rfl,?_⟩));go_ret;exact ⟨ag,aZ⟩
def pI.f(k:Nat)(a0:Int):Option (List Int × Bool):=(kY.f a0).bind λt222=>(if t222=true then ((fK.f k a0).bind λt223=>(some (t223,true)))else (some (([]:List Int),false)))
theorem pI.calls(k:Nat)(a0:Int)(r1:List Int)(r2:Bool)(w:World)(h:pI.f k a0=some (r1,r2)) :
  Calls Tryz.prog 122 #[.int .i64 a0] w λe w'=>∃v0_:Value,e=.returned (.tuple #[.agg #[v0_],.bool r2])/\Kd.R (Kd.int .i64) 3 w' w.heap.size (λ_=>True) v0_ r1/\Below w.heap.size w w':=by
 have hu34:=Tryz.underlying34;have HB:=aa (Below.refl w.heap.size w);unfold pI.f at h;have H:=h;clear h;obtain ⟨t222,A2,H⟩:=aA H;revert H;refine bA (λc3 H=>?_) λc3 H=>?_
 ·
  subst c3;obtain ⟨t223,A4,H⟩:=aA H;obtain ⟨rfl,rfl⟩:=dB H;go_enter Tryz.func122,Tryz.ntmps122;go_wp2_with (first|((with_reducible refine dm 2 ?_);refine fJ #[.slice none 0 0] 34 ?_;intro gb221 hg w5 hbox hb;have BK221:=aa (hbox);have GW221:=aa ((by rw[hg];exact (ay af):w.heap.size<=gb221));have GE221:=aa ((by rw[hg];exact (ay af):w.heap.size<=gb221));replace HB:=aa (aj af hb);clear hb hbox hg)|((with_reducible refine av 182 ?_);refine ax 5 Tryz.func182 #[.int .i64 a0] ?_;(with_reducible refine (kY.calls a0 true _ A2.out).mono ?_);rintro e w' ⟨rfl,⟨nd,rfl⟩⟩;refine ⟨_,rfl,?_⟩;(try (rw[xO w5];generalize hq_:World.drewN w5 _=w5;have ak:ae (w5.heap[gb221]?=some (.cells #[.slice none 0 0] 34 (0,0))):=⟨by rw[<- hq_];exact (aJ BK221.out)⟩;have n1_:ae (Below w.heap.size w w5):=⟨by rw[<- hq_];exact (aY GE221.out)⟩;clear BK221 HB hq_;have BK221:=ak;have HB:=n1_;clear ak n1_)))|((with_reducible refine av 107 ?_);refine ax 9 Tryz.func107 #[.int .i64 a0] ?_;(with_reducible refine (fK.calls k a0 t223 _ A4.out).mono ?_);rintro e w6 ⟨v224,rfl,ho0,hb⟩;refine ⟨_,rfl,?_⟩;have HO225:=aa (Kd.R_lower ho0 (ay (aY GE221.out)));replace BK221:=aa (aI (g:=gb221) (o:=.cells #[.slice none 0 0] 34 (0,0)) (aJ BK221.out) hb);replace HB:=aa (aj (aY GE221.out) hb);clear hb ho0;obtain ⟨Ao7,co7,eo7⟩:=Kd.R_slice HO225.out;subst eo7;have hcz8_0:w6.cell? ⟨gb221,0,none⟩=some (.slice none 0 0):=(ah BK221.out 0).trans rfl;have hfz8_0:=au BK221.out 0));refine bodyPost_ret (ni rfl _ _ gb221 34 #[.slice Ao7 t223.length co7] (0,0) _ rfl (lm BK221.out) Tryz.underlying34 rfl (by kernel_rfl)) rfl ?_;exact ⟨_,aU,by (with_reducible repeat (first|apply Kd.R_alloc|apply Kd.R_drewN|apply Kd.R_drew));exact Kd.R_mono (Kd.R_far (p:=⟨gb221,0,none⟩) (Kd.R_types HO225.out BK221.out (by decide)) (λ_ hk=>hk.2) (.slice Ao7 t223.length co7)) (λ_ hk=>trivial),aY GE221.out⟩
 subst c3;obtain ⟨rfl,rfl⟩:=dB H;go_enter Tryz.func122,Tryz.ntmps122;go_wp2_with (first|((with_reducible refine dm 2 ?_);refine fJ #[.slice none 0 0] 34 ?_;intro gb221 hg w9 hbox hb;have BK221:=aa (hbox);have GW221:=aa ((by rw[hg];exact (ay af):w.heap.size<=gb221));have GE221:=aa ((by rw[hg];exact (ay af):w.heap.size<=gb221));replace HB:=aa (aj af hb);clear hb hbox hg)|((with_reducible refine av 182 ?_);refine ax 5 Tryz.func182 #[.int .i64 a0] ?_;(with_reducible refine (kY.calls a0 false _ A2.out).mono ?_);rintro e w' ⟨rfl,⟨nd,rfl⟩⟩;refine ⟨_,rfl,?_⟩;(try (rw[xO w9];generalize hq_:World.drewN w9 _=w9;have ak:ae (w9.heap[gb221]?=some (.cells #[.slice none 0 0] 34 (0,0))):=⟨by rw[<- hq_];exact (aJ BK221.out)⟩;have n1_:ae (Below w.heap.size w w9):=⟨by rw[<- hq_];exact (aY GE221.out)⟩;clear BK221 HB hq_;have BK221:=ak;have HB:=n1_;clear ak n1_));have hcz10_0:w9.cell? ⟨gb221,0,none⟩=some (.slice none 0 0):=(ah BK221.out 0).trans rfl;have hfz10_0:=au BK221.out 0));refine bodyPost_ret (ni rfl _ _ gb221 34 #[.slice none 0 0] (0,0) _ rfl (lm BK221.out) Tryz.underlying34 rfl (by kernel_rfl)) rfl ?_;exact ⟨_,aU,d9,aY GE221.out⟩
def jB.f(a0:Int)(a1:Int)(a2:Int):Option (Int):=if a2=0 then (none)else (some (Int.tmod (wrap64 ((wrap64 (a1 - (Int.tmod a0 a2)))+a2)) a2))
theorem jB.calls(a0:Int)(a1:Int)(a2:Int)(r:Int)(w:World)(h:jB.f a0 a1 a2=some r) :
  Calls Tryz.prog 114 #[.int .i64 a0,.int .i64 a1,.int .i64 a2] w λe w'=>e=.returned (.int .i64 r)/\bg w w':=by
 unfold jB.f at h;have H:=h;clear h;revert H;refine jb λc4 H=>?_;have c4b0:=beq_eq_false_iff_ne.mpr c4;have c4b1:=bne_iff_ne.mpr c4;obtain rfl:=Option.some.inj H;go_enter Tryz.func114,Tryz.ntmps114;go_wp2;go_ret;exact ⟨ag,aZ⟩
mutual
def cZ.j0:Nat->Int->Bool->List Int->Option (Bool)
 | 0,_,_,_=>none
 | k+1,x3,x24,x227000=>if x24=true then (some false)else (cZ.l0 k x3 x227000 (x227000.length:Int) 0 x227000)
def cZ.l0:Nat->Int->List Int->Int->Int->List Int->Option (Bool)
 | 0,_,_,_,_,_=>none
 | k+1,x3,x26,x27,x28,x227000=>if x28<x27 then (if 0<=x28 then (if x28<(x26.length:Int)then (if (rd x26 x28)=(-1)then (cZ.l0 k x3 x26 x27 (wrap64 (x28+1)) x227000)else (if x28<=(x227000.length:Int)then ((bD.f k (x227000.take (x28:Int).toNat) (rd x26 x28)).bind λt232=>(if t232=true then (some false)else ((jB.f (rd x26 x28) x28 x3).bind λt233=>(cZ.l1 k x3 x28 t233 x26 x27 x28 x227000))))else (none)))else (none))else (none))else (some true)
def cZ.l1:Nat->Int->Int->Int->List Int->Int->Int->List Int->Option (Bool)
 | 0,_,_,_,_,_,_,_=>none
 | k+1,x3,x4,x6,x26,x27,x28,x227000=>if x6>0 then (if x3=0 then (none)else (if 0<=(Int.tmod (wrap64 ((wrap64 (x4 - x6))+x3)) x3)then (if (Int.tmod (wrap64 ((wrap64 (x4 - x6))+x3)) x3)<(x227000.length:Int)then (if (rd x227000 (Int.tmod (wrap64 ((wrap64 (x4 - x6))+x3)) x3))=(-1)then (some false)else (cZ.l1 k x3 x4 (wrap64 (x6 - 1)) x26 x27 x28 x227000))else (none))else (none)))else (cZ.l0 k x3 x26 x27 (wrap64 (x28+1)) x227000)
end
def cZ.f(k:Nat)(l0_0:List Int):Option (Bool):=(ek.f (l0_0.length:Int) 2 12).bind λt227=>(if t227=true then ((fC.f k l0_0 (-1) 999).bind λt228=>(if t228=true then ((bD.f k l0_0 (-1)).bind λt229=>(cZ.j0 k (l0_0.length:Int) (!t229) l0_0))else (cZ.j0 k (l0_0.length:Int) true l0_0)))else (cZ.j0 k (l0_0.length:Int) true l0_0))
theorem cZ.calls(k:Nat)(A0_0:Option Addr)(c0_0:Nat)(l0_0:List Int)(r:Bool)(w:World)(hr0_0:Kd.C (Kd.int .i64) w A0_0 l0_0.length l0_0)(hc0_0:l0_0.length<=c0_0)(h:cZ.f k l0_0=some r) :
  Calls Tryz.prog 72 #[.agg #[.slice A0_0 l0_0.length c0_0]] w λe w'=>e=.returned (.bool r)/\Below w.heap.size w w':=by
 have hu34:=Tryz.underlying34;have HR0_0:=aa hr0_0;have HC0_0:=aa hc0_0;clear hr0_0 hc0_0;have HB:=aa (Below.refl w.heap.size w);unfold cZ.f at h;have H:=h;clear h;have HC2:=aa H;clear H;go_enter Tryz.func72,Tryz.ntmps72;have zz_:=trivial
 repeat (clear zz_;go_upto_region 2 with (first|((with_reducible refine dm 1 ?_);refine fJ #[.slice A0_0 l0_0.length c0_0] 34 ?_;intro gb226 hg w3 hbox hb;have BK226:=aa (hbox);have GW226:=aa ((by rw[hg];exact (ay af):w.heap.size<=gb226));have GE226:=aa ((by rw[hg];exact (ay af):w.heap.size<=gb226));replace HB:=aa (aj af hb);clear hb hbox hg;have hcz4_0:w3.cell? ⟨gb226,0,none⟩=some (.slice A0_0 l0_0.length c0_0):=(ah BK226.out 0).trans rfl;have hfz4_0:=au BK226.out 0));try (go_quiet (fail);have zz_:=trivial))
 (try simp only[Act.put,List.setIfInBounds_toArray,List.set_cons_zero,List.set_cons_succ])
 go_cut [24] (λv24 wc=>∃ (kq:Nat) (x24_1:Bool),v24=.bool x24_1/\ae (cZ.j0 kq (l0_0.length:Int) x24_1 l0_0=some r)/\ae (kq<=k)/\ae (wc.heap[gb226]?=some (.cells #[(.slice A0_0 l0_0.length c0_0)] 34 (0,0)))/\ae (Below w.heap.size w wc))
 case first =>
  have H:=HC2.out;clear HC2;obtain ⟨t227,A5,H⟩:=aA H;revert H;refine bA (λc6 H=>?_) λc6 H=>?_
  ·
   subst c6;obtain ⟨t228,A7,H⟩:=aA H;revert H;refine bA (λc8 H=>?_) λc8 H=>?_
   ·
    subst c8;obtain ⟨t229,A9,H⟩:=aA H;have H':=aa H;clear H;have zz_:=trivial
    repeat (clear zz_;go_wp2_with (first|(go_at_call 112;(with_reducible refine (ek.calls (l0_0.length:Int) 2 12 true _ A5.out).mono ?_);rintro e w' ⟨rfl,⟨nd,rfl⟩⟩;(try exact eP);have hcz10_0:w3.cell? ⟨gb226,0,none⟩=some (.slice A0_0 l0_0.length c0_0):=(ah BK226.out 0).trans rfl;have hfz10_0:=au BK226.out 0)|(go_at_call 110;(with_reducible refine (fC.calls k _ _ l0_0 (-1) 999 true _ ?s1 ?s2 A7.out).mono ?_);(case s1=>exact kL HR0_0.out GE226.out);(case s2=>exact HC0_0.out);rintro e w' ⟨rfl,⟨nd,rfl⟩⟩;(try exact eP))|(go_at_call 113;(with_reducible refine (bD.calls k _ _ l0_0 (-1) t229 _ ?s1 ?s2 A9.out).mono ?_);(case s1=>exact kL HR0_0.out GE226.out);(case s2=>exact HC0_0.out);rintro e w' ⟨rfl,⟨nd,rfl⟩⟩;(try exact eP)));try (go_quiet (first|(go_at_call 112;(with_reducible refine (ek.calls (l0_0.length:Int) 2 12 true _ A5.out).mono ?_);rintro e w' ⟨rfl,⟨nd,rfl⟩⟩;(try exact eP);have hcz10_0:w3.cell? ⟨gb226,0,none⟩=some (.slice A0_0 l0_0.length c0_0):=(ah BK226.out 0).trans rfl;have hfz10_0:=au BK226.out 0)|(go_at_call 110;(with_reducible refine (fC.calls k _ _ l0_0 (-1) 999 true _ ?s1 ?s2 A7.out).mono ?_);(case s1=>exact kL HR0_0.out GE226.out);(case s2=>exact HC0_0.out);rintro e w' ⟨rfl,⟨nd,rfl⟩⟩;(try exact eP))|(go_at_call 113;(with_reducible refine (bD.calls k _ _ l0_0 (-1) t229 _ ?s1 ?s2 A9.out).mono ?_);(case s1=>exact kL HR0_0.out GE226.out);(case s2=>exact HC0_0.out);rintro e w' ⟨rfl,⟨nd,rfl⟩⟩;(try exact eP)));have zz_:=trivial))
    go_meet
    case rel=>exact ⟨_,(!t229),ag,H',⟨dF⟩,⟨aJ BK226.out⟩,⟨aY GE226.out⟩⟩
   subst c8;have H':=aa H;clear H;have zz_:=trivial
   repeat (clear zz_;go_wp2_with (first|(go_at_call 112;(with_reducible refine (ek.calls (l0_0.length:Int) 2 12 true _ A5.out).mono ?_);rintro e w' ⟨rfl,⟨nd,rfl⟩⟩;(try exact eP);have hcz11_0:w3.cell? ⟨gb226,0,none⟩=some (.slice A0_0 l0_0.length c0_0):=(ah BK226.out 0).trans rfl;have hfz11_0:=au BK226.out 0)|(go_at_call 110;(with_reducible refine (fC.calls k _ _ l0_0 (-1) 999 false _ ?s1 ?s2 A7.out).mono ?_);(case s1=>exact kL HR0_0.out GE226.out);(case s2=>exact HC0_0.out);rintro e w' ⟨rfl,⟨nd,rfl⟩⟩;(try exact eP)));try (go_quiet (first|(go_at_call 112;(with_reducible refine (ek.calls (l0_0.length:Int) 2 12 true _ A5.out).mono ?_);rintro e w' ⟨rfl,⟨nd,rfl⟩⟩;(try exact eP);have hcz11_0:w3.cell? ⟨gb226,0,none⟩=some (.slice A0_0 l0_0.length c0_0):=(ah BK226.out 0).trans rfl;have hfz11_0:=au BK226.out 0)|(go_at_call 110;(with_reducible refine (fC.calls k _ _ l0_0 (-1) 999 false _ ?s1 ?s2 A7.out).mono ?_);(case s1=>exact kL HR0_0.out GE226.out);(case s2=>exact HC0_0.out);rintro e w' ⟨rfl,⟨nd,rfl⟩⟩;(try exact eP)));have zz_:=trivial))
   go_meet
   case rel=>exact ⟨_,(true),ag,H',⟨dF⟩,⟨aJ BK226.out⟩,⟨aY GE226.out⟩⟩
  subst c6;have H':=aa H;clear H;have zz_:=trivial
  repeat (clear zz_;go_wp2_with (first|(go_at_call 112;(with_reducible refine (ek.calls (l0_0.length:Int) 2 12 false _ A5.out).mono ?_);rintro e w' ⟨rfl,⟨nd,rfl⟩⟩;(try exact eP)));try (go_quiet ((go_at_call 112;(with_reducible refine (ek.calls (l0_0.length:Int) 2 12 false _ A5.out).mono ?_);rintro e w' ⟨rfl,⟨nd,rfl⟩⟩;(try exact eP)));have zz_:=trivial))
  go_meet
  case rel=>exact ⟨_,(true),ag,H',⟨dF⟩,⟨aJ BK226.out⟩,⟨aY GE226.out⟩⟩
 case rest =>
  clear HC2;obtain ⟨kq,x24_1,rfl,HA,HJ1,BK226,HB⟩:=hcut;cases kq with
  | zero=>exact ak HA.out
  | succ kj1 =>
   have H:=HA.out;clear HA;simp only[cZ.j0]at H;revert H;refine bA (λc12 H=>?_) λc12 H=>?_
   ·
    subst c12;obtain rfl:=Option.some.inj H;go_wp2
    repeat (go_quiet (fail);try go_wp2)
    go_ret;exact ⟨aU,aY GE226.out⟩
   subst c12;have H':=aa H;clear H;have hcz13_0:wc.cell? ⟨gb226,0,none⟩=some (.slice A0_0 l0_0.length c0_0):=(ah BK226.out 0).trans rfl;have hfz13_0:=au BK226.out 0;go_wp2
   repeat (go_quiet (fail);try go_wp2)
   go_loopg [28] kj1 (λkq v28 w'=>∃ (x28_2:Int),v28=.int .i64 x28_2/\ae (cZ.l0 kq (l0_0.length:Int) l0_0 (l0_0.length:Int) x28_2 l0_0=some r)/\ae (kq<=kj1)/\ae (w'.heap[gb226]?=some (.cells #[(.slice A0_0 l0_0.length c0_0)] 34 (0,0)))/\ae (Below w.heap.size w w'))
   case atStart=>exact ⟨(0),ag,H',⟨Nat.le_refl _⟩,⟨aJ BK226.out⟩,⟨aY GE226.out⟩⟩
   case round =>
    clear H';obtain ⟨x28_2,rfl,HA,HK2,BK226,HB⟩:=hrel;cases gk with
    | zero=>exact ak HA.out
    | succ k2 =>
     have H:=HA.out;clear HA;simp only[cZ.l0]at H;revert H;refine bi (λc14b0 H=>?_) λc14b0 H=>?_
     ·
      revert H;refine aX λc15b0 H=>?_;revert H;refine aX λc16b0 H=>?_;revert H;refine dH (λc17b0 c17b1 H=>?_) λc17 c17b0 c17b1 H=>?_
      ·
       have H':=aa H;clear H;obtain ⟨ad230,rfl,hx230_0,p230,q230⟩:=bW HR0_0.out x28_2
       (try (replace hx230_0:=(HB.out.cell (World.block_lt_of_cell? w _ hx230_0)).trans hx230_0))
       go_wp2
       repeat (go_quiet (fail);try go_wp2)
       go_roundg k2
       case measure=>have:=HJ1.out;have:=HK2.out;omega
       case rel=>exact ⟨(wrap64 (x28_2+1)),ag,H',⟨dR HJ1.out HK2.out⟩,⟨aJ BK226.out⟩,⟨aY GE226.out⟩⟩
      have c18b0:=eq_true (of_decide_eq_true aD:0<=x28_2);revert H;refine dI λc19b0 c19b1 H=>?_;obtain ⟨t232,A20,H⟩:=aA H;revert H;refine bA (λc21 H=>?_) λc21 H=>?_
      ·
       subst c21;obtain rfl:=Option.some.inj H;obtain ⟨ad230,rfl,hx230_0,p230,q230⟩:=bW HR0_0.out x28_2
       (try (replace hx230_0:=(HB.out.cell (World.block_lt_of_cell? w _ hx230_0)).trans hx230_0))
       have hcz22_0:wr.cell? ⟨gb226,0,none⟩=some (.slice (some ad230) l0_0.length c0_0):=(ah BK226.out 0).trans rfl;have hfz22_0:=au BK226.out 0;obtain ⟨i023,hi023,_,hsz23,_⟩:=info_parts info3;obtain ⟨hcut23,hA23,hC23⟩:=mE (P:=Tryz.prog) (Value.int .i64) 0 22 3 .i64 Tryz.underlying22 hi023 hsz23 (some ad230) c0_0 l0_0 x28_2 (of_decide_eq_true aD) (of_decide_eq_true aD) HC0_0.out
       have hlen23:(l0_0.take (x28_2:Int).toNat).length=(x28_2:Int).toNat:=by
        have h1:0<=(x28_2:Int):=of_decide_eq_true aD;have h2:(x28_2:Int)<=(l0_0.length:Int):=of_decide_eq_true aD;rw[List.length_take];omega
       have HR231:=aa (Kd.C_of_reads (h1:=λ_=>rfl) (hA23 _ (Kd.reads_of_C HR0_0.out)));have HC231:=aa hC23;clear hA23 hC23 hi023 hsz23;have zz_:=trivial
       repeat (clear zz_;go_wp2_with (first|(go_at_call 113;(try rw[<- hlen23]);(with_reducible refine (bD.calls k2 _ _ (l0_0.take (x28_2:Int).toNat) (rd l0_0 x28_2) true _ ?s1 ?s2 A20.out).mono ?_);(case s1=>exact bQ HR231.out);(case s2=>exact HC231.out);rintro e w' ⟨rfl,⟨nd,rfl⟩⟩;(try exact eP)));try (go_quiet ((go_at_call 113;(try rw[<- hlen23]);(with_reducible refine (bD.calls k2 _ _ (l0_0.take (x28_2:Int).toNat) (rd l0_0 x28_2) true _ ?s1 ?s2 A20.out).mono ?_);(case s1=>exact bQ HR231.out);(case s2=>exact HC231.out);rintro e w' ⟨rfl,⟨nd,rfl⟩⟩;(try exact eP)));have zz_:=trivial))
       go_ret;exact ⟨aU,aY GE226.out⟩
      subst c21;obtain ⟨t233,A24,H⟩:=aA H;have H':=aa H;clear H;obtain ⟨ad230,rfl,hx230_0,p230,q230⟩:=bW HR0_0.out x28_2
      (try (replace hx230_0:=(HB.out.cell (World.block_lt_of_cell? w _ hx230_0)).trans hx230_0))
      have hcz25_0:wr.cell? ⟨gb226,0,none⟩=some (.slice (some ad230) l0_0.length c0_0):=(ah BK226.out 0).trans rfl;have hfz25_0:=au BK226.out 0;obtain ⟨i026,hi026,_,hsz26,_⟩:=info_parts info3;obtain ⟨hcut26,hA26,hC26⟩:=mE (P:=Tryz.prog) (Value.int .i64) 0 22 3 .i64 Tryz.underlying22 hi026 hsz26 (some ad230) c0_0 l0_0 x28_2 (of_decide_eq_true aD) (of_decide_eq_true aD) HC0_0.out
      have hlen26:(l0_0.take (x28_2:Int).toNat).length=(x28_2:Int).toNat:=by
       have h1:0<=(x28_2:Int):=of_decide_eq_true aD;have h2:(x28_2:Int)<=(l0_0.length:Int):=of_decide_eq_true aD;rw[List.length_take];omega
      have HR231:=aa (Kd.C_of_reads (h1:=λ_=>rfl) (hA26 _ (Kd.reads_of_C HR0_0.out)));have HC231:=aa hC26;clear hA26 hC26 hi026 hsz26;have zz_:=trivial
      repeat (clear zz_;go_wp2_with (first|(go_at_call 113;(try rw[<- hlen26]);(with_reducible refine (bD.calls k2 _ _ (l0_0.take (x28_2:Int).toNat) (rd l0_0 x28_2) false _ ?s1 ?s2 A20.out).mono ?_);(case s1=>exact bQ HR231.out);(case s2=>exact HC231.out);rintro e w' ⟨rfl,⟨nd,rfl⟩⟩;(try exact eP))|(go_at_call 114;(with_reducible refine (jB.calls (rd l0_0 x28_2) x28_2 (l0_0.length:Int) t233 _ A24.out).mono ?_);rintro e w' ⟨rfl,⟨nd,rfl⟩⟩;(try exact eP)));try (go_quiet (first|(go_at_call 113;(try rw[<- hlen26]);(with_reducible refine (bD.calls k2 _ _ (l0_0.take (x28_2:Int).toNat) (rd l0_0 x28_2) false _ ?s1 ?s2 A20.out).mono ?_);(case s1=>exact bQ HR231.out);(case s2=>exact HC231.out);rintro e w' ⟨rfl,⟨nd,rfl⟩⟩;(try exact eP))|(go_at_call 114;(with_reducible refine (jB.calls (rd l0_0 x28_2) x28_2 (l0_0.length:Int) t233 _ A24.out).mono ?_);rintro e w' ⟨rfl,⟨nd,rfl⟩⟩;(try exact eP)));have zz_:=trivial))
      go_loopg [6] k2 (λkq v6 w'=>∃ (x6_3:Int),v6=.int .i64 x6_3/\ae (cZ.l1 kq (l0_0.length:Int) x28_2 x6_3 l0_0 (l0_0.length:Int) x28_2 l0_0=some r)/\ae (kq<=k2)/\ae (w'.heap[gb226]?=some (.cells #[(.slice (some ad230) l0_0.length c0_0)] 34 (0,0)))/\ae (Below w.heap.size w w'))
      case atStart=>exact ⟨(t233),ag,H',⟨Nat.le_refl _⟩,⟨aJ BK226.out⟩,⟨aY GE226.out⟩⟩
      case round =>
       clear H';obtain ⟨x6_3,rfl,HA,HK3,BK226,HB⟩:=hrel;cases gk with
       | zero=>exact ak HA.out
       | succ k3 =>
        have H:=HA.out;clear HA;simp only[cZ.l1]at H;revert H;refine bi (λc27b0 H=>?_) λc27b0 H=>?_
        ·
         revert H;refine jb λc28 H=>?_;have c28b0:=beq_eq_false_iff_ne.mpr c28;have c28b1:=bne_iff_ne.mpr c28;have c28b2:¬ (l0_0=[]):=λh_=>c28 (by rw[h_];rfl);obtain ⟨ji29,hji29⟩:∃j_:Int,(Int.tmod (wrap64 ((wrap64 (x28_2 - x6_3))+(l0_0.length:Int))) (l0_0.length:Int))=j_:=⟨_,rfl⟩;replace H:(if 0<=(ji29)then (if (ji29)<(l0_0.length:Int)then (if (rd l0_0 (ji29))=(-1)then (some false)else (cZ.l1 k3 (l0_0.length:Int) x28_2 (wrap64 (x6_3 - 1)) l0_0 (l0_0.length:Int) x28_2 l0_0))else (none))else (none))=some r:=by first|(rw[hji29]at H;exact H)|(simp only[hji29]at H ⊢;exact H)
         revert H;refine aX λc30b0 H=>?_;revert H;refine aX λc31b0 H=>?_;revert H;refine dH (λc32b0 c32b1 H=>?_) λc32 c32b0 c32b1 H=>?_
         ·
          obtain rfl:=Option.some.inj H;have hcz33_0:wr.cell? ⟨gb226,0,none⟩=some (.slice (some ad230) l0_0.length c0_0):=(ah BK226.out 0).trans rfl;have hfz33_0:=au BK226.out 0;have p234:0<=((ji29):Int):=of_decide_eq_true aD;have q234:(ji29)<(l0_0.length:Int):=of_decide_eq_true aD;obtain ⟨ad234,e234,hx234_0⟩:=Kd.at_int HR0_0.out (ji29) p234 q234;obtain rfl:ad230=ad234:=(by injection e234)
          (try (replace hx234_0:=(HB.out.cell (World.block_lt_of_cell? w _ hx234_0)).trans hx234_0))
          replace p234:=eq_true p234;replace q234:=eq_true q234;go_wp2
          repeat (go_quiet (fail);try go_wp2)
          go_ret;exact ⟨by first|rfl|(simp[ig,ic] <;> rfl)|(simp only[<- hji29];first|rfl|(simp[ig,ic] <;> rfl))|(simp[*,ig,ic] <;> rfl),aY GE226.out⟩
         have H':=aa H;clear H;have hcz34_0:wr.cell? ⟨gb226,0,none⟩=some (.slice (some ad230) l0_0.length c0_0):=(ah BK226.out 0).trans rfl;have hfz34_0:=au BK226.out 0;have p234:0<=((ji29):Int):=of_decide_eq_true aD;have q234:(ji29)<(l0_0.length:Int):=of_decide_eq_true aD;obtain ⟨ad234,e234,hx234_0⟩:=Kd.at_int HR0_0.out (ji29) p234 q234;obtain rfl:ad230=ad234:=(by injection e234)
         (try (replace hx234_0:=(HB.out.cell (World.block_lt_of_cell? w _ hx234_0)).trans hx234_0))
         replace p234:=eq_true p234;replace q234:=eq_true q234;go_wp2
         repeat (go_quiet (fail);try go_wp2)
         go_roundg k3
         case measure=>have:=HJ1.out;have:=HK2.out;have:=HK3.out;omega
         case rel=>exact ⟨(wrap64 (x6_3 - 1)),ag,H',⟨kU HJ1.out HK2.out HK3.out⟩,⟨aJ BK226.out⟩,⟨aY GE226.out⟩⟩
        have H':=aa H;clear H;go_wp2
        repeat (go_quiet (fail);try go_wp2)
        go_roundg k3
        case measure=>have:=HJ1.out;have:=HK2.out;have:=HK3.out;omega
        case rel=>exact ⟨(wrap64 (x28_2+1)),ag,H',⟨kU HJ1.out HK2.out HK3.out⟩,⟨aJ BK226.out⟩,⟨aY GE226.out⟩⟩
     obtain rfl:=Option.some.inj H;go_wp2
     repeat (go_quiet (fail);try go_wp2)
     go_ret;exact ⟨aU,aY GE226.out⟩
def kr.f(a0:Int):Option (Bool):=(ek.f a0 0 999).bind λt235=>(some t235)
theorem kr.calls(a0:Int)(r:Bool)(w:World)(h:kr.f a0=some r) :
  Calls Tryz.prog 183 #[.int .i64 a0] w λe w'=>e=.returned (.bool r)/\bg w w':=by
 unfold kr.f at h;have H:=h;clear h;obtain ⟨t235,A2,H⟩:=aA H;obtain rfl:=Option.some.inj H;go_enter Tryz.func183,Tryz.ntmps183;go_wp2_with (first|((with_reducible refine av 112 ?_);refine ax 4 Tryz.func112 #[.int .i64 a0,.int .i64 0,.int .i64 999] ?_;(with_reducible refine (ek.calls a0 0 999 t235 _ A2.out).mono ?_);rintro e w' ⟨rfl,⟨nd,rfl⟩⟩;refine ⟨_,rfl,?_⟩));go_ret;exact ⟨ag,aZ⟩
def iR.l0:Nat->Int->List Int->Int->Int->Option (Int)
 | 0,_,_,_,_=>none
 | k+1,x3,x7,x8,x9=>if x9<x8 then (if 0<=x9 then (if x9<(x7.length:Int)then (if (rd x7 x9)=(-1)then (iR.l0 k x3 x7 x8 (wrap64 (x9+1)))else (iR.l0 k (wrap64 (x3+1)) x7 x8 (wrap64 (x9+1))))else (none))else (none))else (some x3)
def iR.f(k:Nat)(l0_0:List Int):Option (Int):=iR.l0 k 0 l0_0 (l0_0.length:Int) 0
theorem iR.calls(k:Nat)(A0_0:Option Addr)(c0_0:Nat)(l0_0:List Int)(r:Int)(w:World)(hr0_0:Kd.C (Kd.int .i64) w A0_0 l0_0.length l0_0)(hc0_0:l0_0.length<=c0_0)(h:iR.f k l0_0=some r) :
  Calls Tryz.prog 184 #[.agg #[.slice A0_0 l0_0.length c0_0]] w λe w'=>e=.returned (.int .i64 r)/\Below w.heap.size w w':=by
 have hu34:=Tryz.underlying34;have HR0_0:=aa hr0_0;have HC0_0:=aa hc0_0;clear hr0_0 hc0_0;have HB:=aa (Below.refl w.heap.size w);unfold iR.f at h;have H:=h;clear h;have H':=aa H;clear H;go_enter Tryz.func184,Tryz.ntmps184;go_wp2_with (first|((with_reducible refine dm 1 ?_);refine fJ #[.slice A0_0 l0_0.length c0_0] 34 ?_;intro gb236 hg w2 hbox hb;have BK236:=aa (hbox);have GW236:=aa ((by rw[hg];exact (ay af):w.heap.size<=gb236));have GE236:=aa ((by rw[hg];exact (ay af):w.heap.size<=gb236));replace HB:=aa (aj af hb);clear hb hbox hg;have hcz3_0:w2.cell? ⟨gb236,0,none⟩=some (.slice A0_0 l0_0.length c0_0):=(ah BK236.out 0).trans rfl;have hfz3_0:=au BK236.out 0))
 go_loopg [3,9] k (λkq v3 v9 w'=>∃ (x3_1:Int) (x9_1:Int),v3=.int .i64 x3_1/\v9=.int .i64 x9_1/\ae (iR.l0 kq x3_1 l0_0 (l0_0.length:Int) x9_1=some r)/\ae (kq<=k)/\ae (w'.heap[gb236]?=some (.cells #[(.slice A0_0 l0_0.length c0_0)] 34 (0,0)))/\ae (Below w.heap.size w w'))
 case atStart=>exact ⟨(0),(0),ag,ag,H',⟨Nat.le_refl _⟩,⟨aJ BK236.out⟩,⟨aY GE236.out⟩⟩
 case round =>
  clear H';obtain ⟨x3_1,x9_1,rfl,rfl,HA,HK1,BK236,HB⟩:=hrel;cases gk with
  | zero=>exact ak HA.out
  | succ k1 =>
   have H:=HA.out;clear HA;simp only[iR.l0]at H;revert H;refine bi (λc4b0 H=>?_) λc4b0 H=>?_
   ·
    revert H;refine aX λc5b0 H=>?_;revert H;refine aX λc6b0 H=>?_;revert H;refine dH (λc7b0 c7b1 H=>?_) λc7 c7b0 c7b1 H=>?_
    ·
     have H':=aa H;clear H;obtain ⟨ad237,rfl,hx237_0,p237,q237⟩:=bW HR0_0.out x9_1
     (try (replace hx237_0:=(HB.out.cell (World.block_lt_of_cell? w _ hx237_0)).trans hx237_0))
     go_wp2;go_roundg k1
     case measure=>have:=HK1.out;omega
     case rel=>exact ⟨(x3_1),(wrap64 (x9_1+1)),ag,ag,H',⟨bB HK1.out⟩,⟨aJ BK236.out⟩,⟨aY GE236.out⟩⟩
    have H':=aa H;clear H;obtain ⟨ad237,rfl,hx237_0,p237,q237⟩:=bW HR0_0.out x9_1
    (try (replace hx237_0:=(HB.out.cell (World.block_lt_of_cell? w _ hx237_0)).trans hx237_0))
    go_wp2;go_roundg k1
    case measure=>have:=HK1.out;omega
    case rel=>exact ⟨(wrap64 (x3_1+1)),(wrap64 (x9_1+1)),ag,ag,H',⟨bB HK1.out⟩,⟨aJ BK236.out⟩,⟨aY GE236.out⟩⟩
   obtain rfl:=Option.some.inj H;go_wp2;go_ret;exact ⟨aU,aY GE236.out⟩
def iZ.l0:Nat->List Int->Int->Int->Option (Int × List Int)
 | 0,_,_,_=>none
 | k+1,x0,x1,x5=>if 0<=x5 then (if x5<(x0.length:Int)then (if (rd x0 x5)=(-1)then (some (x5,(x0.set (x5:Int).toNat x1)))else (if (x0.length:Int)=0 then (none)else (iZ.l0 k x0 x1 (Int.tmod (wrap64 (x5+1)) (x0.length:Int)))))else (none))else (none)
def iZ.f(k:Nat)(l0:List Int)(a1:Int):Option (Int × List Int):=if (l0.length:Int)=0 then (none)else (iZ.l0 k l0 a1 (Int.tmod a1 (l0.length:Int)))
theorem iZ.calls(k:Nat)(P0_:Nat->Prop)(u9000_:Value)(l0:List Int)(a1:Int)(r1:Int)(r2:List Int)(w0 w:World)(hB:Below w0.heap.size w0 w)(ho0:Kd.R (Kd.int .i64) 3 w w0.heap.size P0_ u9000_ l0)(h:iZ.f k l0 a1=some (r1,r2)) :
  Calls Tryz.prog 185 #[u9000_,.int .i64 a1] w λe w'=>e=.returned (.int .i64 r1)/\Kd.R (Kd.int .i64) 3 w' w0.heap.size (λk_=>(P0_ k_\/w.heap.size<=k_)) u9000_ r2/\Below w0.heap.size w0 w'/\Kept w w' (λk_=>P0_ k_):=by
 have HO0:=aa (show Kd.R (Kd.int .i64) 3 w w0.heap.size (λk_=>(P0_ k_\/w.heap.size<=k_)) u9000_ l0 from Kd.R_mono ho0 (λk_ hk=>(.inl hk)));have HK:=aa (Kept.refl w (λk_=>P0_ k_));have HW0:=aa hB.size;have HB:=aa hB;clear hB;unfold iZ.f at h;have H:=h;clear h;revert H;refine jb λc3 H=>?_;have c3b0:=beq_eq_false_iff_ne.mpr c3;have c3b1:=bne_iff_ne.mpr c3;have c3b2:¬ (l0=[]):=λh_=>c3 (by rw[h_];rfl);have H':=aa H;clear H;obtain ⟨Ao4,co4,eo4⟩:=Kd.R_slice HO0.out;subst eo4;go_enter Tryz.func185,Tryz.ntmps185;go_wp2
 go_loopg [5] k (λkq v5 w'=>∃ (x5_1:Int),v5=.int .i64 x5_1/\ae (iZ.l0 kq l0 a1 x5_1=some (r1,r2))/\ae (kq<=k)/\ae (Kd.R (Kd.int .i64) 3 w' w0.heap.size (λk_=>(P0_ k_\/w.heap.size<=k_)) (.slice Ao4 l0.length co4) l0)/\ae (Kept w w' (λk_=>P0_ k_))/\ae (Below w0.heap.size w0 w'))
 case atStart=>exact ⟨(Int.tmod a1 (l0.length:Int)),ag,H',⟨Nat.le_refl _⟩,⟨ai HO0.out⟩,⟨oq⟩,⟨af⟩⟩
 case round =>
  clear H';obtain ⟨x5_1,rfl,HA,HK1,HO_0,HK,HB⟩:=hrel;cases gk with
  | zero=>exact ak HA.out
  | succ k1 =>
   have H:=HA.out;clear HA;simp only[iZ.l0]at H;revert H;refine aX λc5b0 H=>?_;revert H;refine aX λc6b0 H=>?_;revert H;refine dH (λc7b0 c7b1 H=>?_) λc7 c7b0 c7b1 H=>?_
   ·
    obtain ⟨y239,hy239⟩:=bv ((l0.set (x5_1:Int).toNat a1):List Int);replace H:(some (x5_1,y239))=some (r1,r2):=bu hy239 H;have Ny239:=aa hy239;clear hy239;obtain ⟨rfl,rfl⟩:=dB H;obtain ⟨ad238,rfl,hx238_0,p238,q238⟩:=bW (f_ HO_0.out) x5_1;have p8:0<=(x5_1:Int):=of_decide_eq_true aD;have q8:(x5_1:Int)<((l0.length:Int):Int):=of_decide_eq_true aD;obtain ⟨go8,co8,eo8,gb8,gl8,cl8,HG8⟩:=Kd.R_form HO_0.out (by omega)
    (first|cases eo8|(injection eo8 with ea_ en_ ec_;(first|subst ea_|(injection ea_ with ea_;subst ea_));subst ec_;clear en_))
    have GB8:=aa gb8;have GG8:=aa HG8;clear gb8 gl8 HG8;have HMgo8:=aa (show (P0_ go8\/w.heap.size<=go8) from (HO_0.out.1 _ rfl))
    (first|simp only[add_plain]at hx238_0|skip)
    obtain ⟨hx8_0,hf8_0⟩:=Kd.R_celln 0 HO_0.out (x5_1:Int) p8 q8;replace p8:=eq_true p8;replace q8:=eq_true q8;have HP9:=Kd.R_putg HO_0.out (x5_1:Int) a1;go_wp2_with (first|((with_reducible refine jh (t:=3) (p:=23) rfl ?_);refine jF (t:=3) (p:=23) (v:=?vo_w10) (w1:=(wr.setCell ⟨go8,(x5_1:Int).toNat,none⟩ (.int .i64 a1))) ?hg ?ho ?hn ?hr ?_;(case ho=>rfl);(case hg=>rfl);(case hn=>rfl);(case hr=>exact eO);intro w10 hw;have hg:wr.grownBy w10 (some go8):=(by rw[hw];exact HP9.2);have hp_:Kd.R (Kd.int .i64) 3 w10 w0.heap.size (λk_=>(P0_ k_\/w.heap.size<=k_)) (.slice (some ⟨go8,0,none⟩) l0.length co4) y239:=(by rw[hw,Ny239.out];exact HP9.1);clear HP9;replace HK:=aa (Kept.of_grown (S:=(λk_=>P0_ k_)) hg oq (λk_ e_=>(HO_0.out.1 k_ e_)));replace HO_0:=aa (hp_);replace HB:=aa ((by rw[hw];exact bf (HB.out) GB8.out:Below w0.heap.size w0 w10));clear hg hw hp_));go_ret;exact ⟨aU,ai HO_0.out,af,oq⟩
   revert H;refine jb λc11 H=>?_;have c11b0:=beq_eq_false_iff_ne.mpr c11;have c11b1:=bne_iff_ne.mpr c11;have c11b2:¬ (l0=[]):=λh_=>c11 (by rw[h_];rfl);have H':=aa H;clear H;obtain ⟨ad238,rfl,hx238_0,p238,q238⟩:=bW (f_ HO_0.out) x5_1;go_wp2;go_roundg k1
   case measure=>have:=HK1.out;omega
   case rel=>exact ⟨(Int.tmod (wrap64 (x5_1+1)) (l0.length:Int)),ag,H',⟨bB HK1.out⟩,⟨ai HO_0.out⟩,⟨oq⟩,⟨af⟩⟩
end Go.Proofs.YtjdlhefjgceabaaGreatDoor.PAll
