/- Tables: what the program's isTable and the reference's prGood come to. Conditions: lengths below 2^40. -/
import Derived.Test.YtjdlhefjgceabaaGreatDoorBs4
import Derived.Test.YtjdlhefjgceabaaGreatDoorCb4
set_option linter.unusedVariables false
namespace Go.Proofs.YtjdlhefjgceabaaGreatDoor.Plain
open Go.RowKit YtjdlhefjgceabaaGreatDoorW.PrintWords YtjdlhefjgceabaaGreatDoorW.PrintLast Hand PAll
theorem Je(l:List Int)(x:Int)(hs:l.length<=1099511627776):∀ (d n:Nat),n+d=l.length ->
  ∃r:Int,(decide (r >= 0)=decide (x∈l.drop n))/\Ev (λk=>fU.l0 k l x (l.length:Int) (n:Int)) r:=by
 intro d
 induction d with
 | zero =>
  intro n hn;refine ⟨-1,?_,Ev.step (f:=λ_=>some (-1)) (λk=>?_) (Ev.now _)⟩
  ·
   rw[List.drop_eq_nil_of_le (by omega)];simp
  · rw[fU.l0,if_neg (by omega)]
 | succ d ih =>
  intro n hn
  have h1:n<l.length:=by omega
  rw[List.drop_eq_getElem_cons h1]
  by_cases hx:x=l[n]
  ·
   refine ⟨(n:Int),?_,Ev.step (f:=λ_=>some (n:Int)) (λk=>?_) (Ev.now _)⟩
   · rw[decide_eq_true (by omega),decide_eq_true (by rw[hx];exact List.mem_cons_self)]
   · rw[fU.l0,if_pos (by omega),if_pos (by omega),if_pos (by omega),dn l n h1,if_pos hx]
  ·
   obtain ⟨r,hr,he⟩:=ih (n+1) (by omega);refine ⟨r,?_,Ev.step (f:=λk=>fU.l0 k l x (l.length:Int) ((n+1:Nat):Int)) (λk=>?_) he⟩
   · rw[hr,zV _ (λe=>hx e.symm)]
   · rw[fU.l0,if_pos (by omega),if_pos (by omega),if_pos (by omega),dn l n h1,if_neg hx,bX n (by omega)]
theorem qW(l:List Int)(x:Int)(hs:l.length<=1099511627776):Ev (λk=>gP.f k l x) (decide (x∈l)):=by
 obtain ⟨r,hr,he⟩:=Je l x hs l.length 0 (by omega);rw[List.drop_zero]at hr;unfold gP.f fU.f;rw[<- hr];exact Ev.bind he (Ev.now _)
theorem tmod_nat(a b:Nat):Int.tmod (a:Int) (b:Int)=((a % b:Nat):Int):=(Int.ofNat_tmod a b).symm
theorem CO{N i K c m:Nat}(hi:i<N)(hc:c=(i+N - K % N) % N)(hm:m<c):(i+N - (c - m)) % N=(K+m) % N:=by
 have hh:K % N<N:=Nat.mod_lt _ (by omega);rw[<- Nat.mod_add_mod K N m]
 generalize K % N=h at hh hc ⊢
 by_cases hle:h<=i
 ·
  have e:c=i - h:=by rw[hc,show i+N - h=(i - h)+N by omega,Nat.add_mod_right,Nat.mod_eq_of_lt (by omega)]
  rw[show i+N - (c - m)=(h+m)+N by omega,Nat.add_mod_right]
 ·
  have e:c=i+N - h:=by rw[hc,Nat.mod_eq_of_lt (by omega)]
  rw[show i+N - (c - m)=h+m by omega]
def cost(N i K:Nat):Nat:=(i+N - K % N) % N
theorem om{N i K:Nat}(hN:0<N):cost N i K<N:=Nat.mod_lt _ hN
theorem cost_eq{N i K:Nat}(hN:0<N)(h12:N<=12)(hi:i<N):Int.tmod (wrap64 ((wrap64 ((i:Int) - (Int.tmod (K:Int) (N:Int))))+(N:Int))) (N:Int)=(cost N i K:Int):=by
 have hh:K % N<N:=Nat.mod_lt _ hN;rw[tmod_nat,wrap64_in ((i:Int) - ((K % N:Nat):Int)) (by omega) (by omega),wrap64_in _ (by omega) (by omega)];rw[show (i:Int) - ((K % N:Nat):Int)+(N:Int)=((i+N - K % N:Nat):Int) by omega,tmod_nat];rfl
def inner(l:List Int)(K:Nat):Nat->Nat->Bool
 | 0,_=>true
 | d+1,m=>if rd l (((K+m) % l.length:Nat):Int)=-1 then false else inner l K d (m+1)
def outer(l:List Int):Nat->Nat->Bool
 | 0,_=>true
 | d+1,i=>if rd l (i:Int)=-1 then outer l d (i+1)else if rd l (i:Int)∈l.take i then false else if inner l (rd l (i:Int)).toNat (cost l.length i (rd l (i:Int)).toNat) 0=true then outer l d (i+1)else false
structure Fit (l:List Int):Prop where
 two:2<=l.length
 len:l.length<=12
 inn:∀n:Nat,n<l.length->-1<=rd l (n:Int)/\rd l (n:Int)<=999
theorem CR{l:List Int}(hf:Fit l)(i:Nat)(hi:i<l.length)(K:Nat)(r:Bool)(hg:Ev (λk=>cZ.l0 k (l.length:Int) l (l.length:Int) ((i+1:Nat):Int) l) r):∀ (d m:Nat),m+d=cost l.length i K ->
  Ev (λk=>cZ.l1 k (l.length:Int) (i:Int) (d:Int) l (l.length:Int) (i:Int) l) (if inner l K d m=true then r else false):=by
 have h2:=hf.two;have h12:=hf.len;have hcl:=om (i:=i) (K:=K) (show 0<l.length by omega);intro d
 induction d with
 | zero =>
  intro m hm;rw[inner,if_pos rfl];refine Ev.step (λk=>?_) hg;rw[cZ.l1,if_neg (by omega),bX i (by omega)]
 | succ d ih =>
  intro m hm;have hp:(i+l.length - (cost l.length i K - m)) % l.length=(K+m) % l.length:=CO hi rfl (by omega);have hq:(K+m) % l.length<l.length:=Nat.mod_lt _ (by omega)
  have e:Int.tmod (wrap64 ((wrap64 ((i:Int) - ((d+1:Nat):Int)))+(l.length:Int))) (l.length:Int)=(((K+m) % l.length:Nat):Int):=by
   rw[wrap64_in ((i:Int) - ((d+1:Nat):Int)) (by omega) (by omega),wrap64_in _ (by omega) (by omega),<- hp,show (i:Int) - ((d+1:Nat):Int)+(l.length:Int)=((i+l.length - (cost l.length i K - m):Nat):Int) by omega,tmod_nat]
  have e2:wrap64 (((d+1:Nat):Int) - 1)=(d:Int):=by rw[wrap64_in _ (by omega) (by omega)];omega
  rw[inner]
  by_cases hc:rd l (((K+m) % l.length:Nat):Int)=-1
  ·
   rw[if_pos hc,if_neg (by decide)];refine Ev.step (f:=λ_=>some false) (λk=>?_) (Ev.now _);rw[cZ.l1,e,if_pos (by omega),if_neg (by omega),if_pos (by omega),if_pos (by omega),if_pos hc]
  ·
   rw[if_neg hc];refine Ev.step (λk=>?_) (ih (m+1) (by omega));rw[cZ.l1,e,e2,if_pos (by omega),if_neg (by omega),if_pos (by omega),if_pos (by omega),if_neg hc]
theorem Fq{l:List Int}(hf:Fit l)(i:Nat)(hi:i<l.length)(K:Nat)(hK:K<=999)(r:Bool)(hg:Ev (λk=>dz.l0 k l (l.length:Int) ((i+1:Nat):Int) l) r):∀ (d m:Nat),m+d=cost l.length i K ->
  Ev (λk=>dz.l1 k (K:Int) l (l.length:Int) (i:Int) (cost l.length i K:Int) (m:Int) l) (if inner l K d m=true then r else false):=by
 have h2:=hf.two;have h12:=hf.len;have hcl:=om (i:=i) (K:=K) (show 0<l.length by omega);intro d
 induction d with
 | zero =>
  intro m hm;rw[inner,if_pos rfl];refine Ev.step (λk=>?_) hg;rw[dz.l1,if_neg (by omega),bX i (by omega)]
 | succ d ih =>
  intro m hm;have hq:(K+m) % l.length<l.length:=Nat.mod_lt _ (by omega);have hin:=hf.inn _ hq
  have e:Int.tmod (wrap64 ((K:Int)+(m:Int))) (l.length:Int)=(((K+m) % l.length:Nat):Int):=by
   rw[wrap64_in _ (by omega) (by omega),show (K:Int)+(m:Int)=((K+m:Nat):Int) by omega,tmod_nat]
  rw[inner]
  by_cases hc:rd l (((K+m) % l.length:Nat):Int)=-1
  ·
   rw[if_pos hc,if_neg (by decide)];refine Ev.step (f:=λ_=>some false) (λk=>?_) (Ev.now _);rw[dz.l1,e,if_pos (by omega),if_neg (by omega),if_pos (by omega),if_pos (by omega),if_pos (by omega)]
  ·
   rw[if_neg hc];refine Ev.step (λk=>?_) (ih (m+1) (by omega));rw[dz.l1,e,if_pos (by omega),if_neg (by omega),if_pos (by omega),if_pos (by omega),if_neg (by omega),bX m (by omega)]
theorem C_{l:List Int}(hf:Fit l):∀ (d i:Nat),i+d=l.length->Ev (λk=>cZ.l0 k (l.length:Int) l (l.length:Int) (i:Int) l) (outer l d i):=by
 have h2:=hf.two;have h12:=hf.len;intro d
 induction d with
 | zero =>
  intro i hi;refine Ev.step (f:=λ_=>some true) (λk=>?_) (Ev.now _);rw[cZ.l0,if_neg (by omega)]
 | succ d ih =>
  intro i hi
  have h1:i<l.length:=by omega
  have hin:=hf.inn i h1;rw[outer]
  by_cases hc:rd l (i:Int)=-1
  ·
   rw[if_pos hc];refine Ev.step (λk=>?_) (ih (i+1) (by omega));rw[cZ.l0,if_pos (by omega),if_pos (by omega),if_pos (by omega),if_pos hc,bX i (by omega)]
  ·
   rw[if_neg hc];obtain ⟨K,hK⟩:=Int.eq_ofNat_of_zero_le (show 0<=rd l (i:Int) by omega);refine Ev.step (f:=?f1) (λk=>?h1) ?g1
   case h1=>rw[cZ.l0,if_pos (by omega),if_pos (by omega),if_pos (by omega),if_neg hc,if_pos (by omega),Int.toNat_natCast]
   refine Ev.bind (nG (l.take i) (rd l (i:Int)) (by rw[List.length_take];omega)) ?_
   by_cases hm:rd l (i:Int)∈l.take i
   ·
    rw[if_pos hm,decide_eq_true hm];exact Ev.pos rfl (Ev.now _)
   ·
    rw[if_neg hm,decide_eq_false hm,hK,Int.toNat_natCast];refine Ev.neg (by decide) (Ev.bindc (a:=(cost l.length i K:Int)) ?_ (CR hf i h1 K (outer l d (i+1)) (ih (i+1) (by omega)) (cost l.length i K) 0 (by omega)));unfold jB.f;rw[if_neg (by omega),cost_eq (by omega) h12 h1]
theorem IV{l:List Int}(hf:Fit l):∀ (d i:Nat),i+d=l.length->Ev (λk=>dz.l0 k l (l.length:Int) (i:Int) l) (outer l d i):=by
 have h2:=hf.two;have h12:=hf.len;intro d
 induction d with
 | zero =>
  intro i hi;refine Ev.step (f:=λ_=>some true) (λk=>?_) (Ev.now _);rw[dz.l0,if_neg (by omega)]
 | succ d ih =>
  intro i hi
  have h1:i<l.length:=by omega
  have hin:=hf.inn i h1;rw[outer]
  by_cases hc:rd l (i:Int)=-1
  ·
   rw[if_pos hc];refine Ev.step (λk=>?_) (ih (i+1) (by omega));rw[dz.l0,if_pos (by omega),if_pos (by omega),if_pos (by omega),if_pos (by omega),bX i (by omega)]
  ·
   rw[if_neg hc];obtain ⟨K,hK⟩:=Int.eq_ofNat_of_zero_le (show 0<=rd l (i:Int) by omega);refine Ev.step (f:=?f1) (λk=>?h1) ?g1
   case h1=>rw[dz.l0,if_pos (by omega),if_pos (by omega),if_pos (by omega),if_neg (show ¬ rd l (i:Int)<0 by omega),if_pos (by omega),Int.toNat_natCast]
   refine Ev.bind (qW (l.take i) (rd l (i:Int)) (by rw[List.length_take];omega)) ?_
   by_cases hm:rd l (i:Int)∈l.take i
   ·
    rw[if_pos hm,decide_eq_true hm];exact Ev.pos rfl (Ev.now _)
   ·
    rw[if_neg hm,decide_eq_false hm,hK,Int.toNat_natCast];refine Ev.neg (by decide) (Ev.bindc (a:=(cost l.length i K:Int)) ?_ (Fq hf i h1 K (by omega) (outer l d (i+1)) (ih (i+1) (by omega)) (cost l.length i K) 0 (by omega)));unfold jO.f;rw[if_pos (by omega),if_pos (by omega),if_neg (by omega),hK,cost_eq (by omega) h12 h1]
def table(l:List Int):Bool:=decide (2<=(l.length:Int)/\(l.length:Int)<=12) && (l.all λx=>decide (-1<=x/\x<=999)) && decide ((-1:Int)∈l) && outer l l.length 0
theorem fit{l:List Int}(h1:2<=(l.length:Int)/\(l.length:Int)<=12)(h2:(l.all λx=>decide (-1<=x/\x<=999))=true):Fit l :=
 ⟨by omega,by omega,λn hn=>by rw[dn l n hn];exact of_decide_eq_true (List.all_eq_true.1 h2 _ (List.getElem_mem hn))⟩
theorem prGood_ev(l:List Int)(hs:l.length<=1099511627776):Ev (λk=>cZ.f k l) (table l):=by
 unfold cZ.f table
 refine Ev.bindc (l1In_eq _ 2 12) ?_
 by_cases h1:2<=(l.length:Int)/\(l.length:Int)<=12
 ·
  rw[decide_eq_true h1,Bool.true_and];refine Ev.pos rfl (Ev.bind (uQ l (-1) 999 hs) ?_)
  cases h2:l.all λx=>decide (-1<=x/\x<=999) with
  | true =>
   rw[Bool.true_and];refine Ev.pos rfl (Ev.bind (nG l (-1) hs) ?_)
   by_cases h3:(-1:Int)∈l
   ·
    rw[decide_eq_true h3,Bool.true_and];refine Ev.step (λk=>?_) (C_ (fit h1 h2) l.length 0 (by omega));rw[cZ.j0,if_neg (by decide)];rfl
   ·
    rw[decide_eq_false h3,Bool.false_and];refine Ev.step (f:=λ_=>some false) (λk=>?_) (Ev.now _);rw[cZ.j0,if_pos (by decide)]
  | false =>
   rw[Bool.false_and,Bool.false_and];refine Ev.neg (by decide) (Ev.step (f:=λ_=>some false) (λk=>?_) (Ev.now _));rw[cZ.j0,if_pos rfl]
 ·
  rw[decide_eq_false h1,Bool.false_and,Bool.false_and,Bool.false_and];refine Ev.neg (by decide) (Ev.step (f:=λ_=>some false) (λk=>?_) (Ev.now _));rw[cZ.j0,if_pos rfl]
theorem AL(l:List Int)(lo hi:Int):iE.f l lo hi=some (l.all λx=>decide (lo<=x/\x<=hi)):=rfl
theorem isTable_ev(l:List Int)(hs:l.length<=1099511627776):Ev (λk=>dz.f k l) (table l):=by
 unfold dz.f table
 refine Ev.bindc (a:=decide (2<=(l.length:Int)/\(l.length:Int)<=12)) (by unfold j6.f;rw[between_eq];rfl) ?_
 by_cases h1:2<=(l.length:Int)/\(l.length:Int)<=12
 ·
  rw[decide_eq_true h1,Bool.true_and];refine Ev.pos rfl (Ev.bindc (AL l (-1) 999) ?_)
  cases h2:l.all λx=>decide (-1<=x/\x<=999) with
  | true =>
   rw[Bool.true_and];refine Ev.pos rfl (Ev.bind (qW l (-1) hs) ?_)
   by_cases h3:(-1:Int)∈l
   ·
    rw[decide_eq_true h3,Bool.true_and];refine Ev.step (λk=>?_) (IV (fit h1 h2) l.length 0 (by omega));rw[dz.j0,if_neg (by decide)];rfl
   ·
    rw[decide_eq_false h3,Bool.false_and];refine Ev.step (f:=λ_=>some false) (λk=>?_) (Ev.now _);rw[dz.j0,if_pos (by decide)]
  | false =>
   rw[Bool.false_and,Bool.false_and];refine Ev.neg (by decide) (Ev.step (f:=λ_=>some false) (λk=>?_) (Ev.now _));rw[dz.j0,if_pos rfl]
 ·
  rw[decide_eq_false h1,Bool.false_and,Bool.false_and,Bool.false_and];refine Ev.neg (by decide) (Ev.step (f:=λ_=>some false) (λk=>?_) (Ev.now _));rw[dz.j0,if_pos rfl]
end Go.Proofs.YtjdlhefjgceabaaGreatDoor.Plain
namespace Go.Proofs.YtjdlhefjgceabaaGreatDoor.Plain
open Go.RowKit YtjdlhefjgceabaaGreatDoorW.PrintWords YtjdlhefjgceabaaGreatDoorW.PrintLast Hand
structure Tb (l:List Int):Prop where
 fit:Fit l
 free:∃e:Nat,e<l.length/\rd l (e:Int)=-1
 one:∀i j:Nat,i<j->j<l.length->rd l (i:Int)=rd l (j:Int)->rd l (i:Int)=-1
 path:∀i:Nat,i<l.length->rd l (i:Int)≠-1->∀m,m<cost l.length i (rd l (i:Int)).toNat->rd l ((((rd l (i:Int)).toNat+m) % l.length:Nat):Int)≠-1
theorem xL(l:List Int)(K:Nat):∀d m,inner l K d m=true ↔ ∀j,m<=j->j<m+d->rd l (((K+j) % l.length:Nat):Int)≠-1:=by
 intro d
 induction d with
 | zero=>intro m;rw[inner];exact ⟨λ_ j h1 h2=>by omega,λ_=>rfl⟩
 | succ d ih =>
  intro m;rw[inner]
  by_cases hc:rd l (((K+m) % l.length:Nat):Int)=-1
  ·
   rw[if_pos hc];exact ⟨λh=>(Bool.noConfusion h),λh=>absurd hc (h m (Nat.le_refl _) (by omega))⟩
  ·
   rw[if_neg hc,ih]
   constructor
   ·
    intro h j h1 h2
    by_cases e:j=m
    · rw[e];exact hc
    · exact h j (by omega) (by omega)
   ·
    intro h j h1 h2;exact h j (by omega) (by omega)
theorem yY(l:List Int):∀d i,i+d=l.length->(outer l d i=true ↔ ∀x:Nat,i<=x->x<l.length->rd l (x:Int)≠-1->rd l (x:Int) ∉ l.take x/\∀m,m<cost l.length x (rd l (x:Int)).toNat->rd l ((((rd l (x:Int)).toNat+m) % l.length:Nat):Int)≠-1):=by
 intro d
 induction d with
 | zero=>intro i hi;rw[outer];exact ⟨λ_ x h1 h2=>by omega,λ_=>rfl⟩
 | succ d ih =>
  intro i hi;have h0:=ih (i+1) (by omega);rw[outer]
  by_cases hc:rd l (i:Int)=-1
  ·
   rw[if_pos hc,h0]
   constructor
   ·
    intro h x h1 h2 h3
    by_cases e:x=i
    · rw[e]at h3;exact absurd hc h3
    · exact h x (by omega) h2 h3
   ·
    intro h x h1 h2 h3;exact h x (by omega) h2 h3
  ·
   rw[if_neg hc]
   by_cases hm:rd l (i:Int)∈l.take i
   ·
    rw[if_pos hm];exact ⟨λh=>(Bool.noConfusion h),λh=>absurd hm (h i (Nat.le_refl _) (by omega) hc).1⟩
   ·
    rw[if_neg hm]
    by_cases hn:inner l (rd l (i:Int)).toNat (cost l.length i (rd l (i:Int)).toNat) 0=true
    ·
     rw[if_pos hn,h0];rw[xL]at hn
     constructor
     ·
      intro h x h1 h2 h3
      by_cases e:x=i
      · subst e;exact ⟨hm,λm h4=>hn m (by omega) (by omega)⟩
      · exact h x (by omega) h2 h3
     ·
      intro h x h1 h2 h3;exact h x (by omega) h2 h3
    ·
     rw[if_neg hn];refine ⟨λh=>(Bool.noConfusion h),λh=>absurd ?_ hn⟩;rw[xL];intro j h1 h2;exact (h i (Nat.le_refl _) (by omega) hc).2 j (by omega)
theorem vw{l:List Int}{n:Nat}(h:n<l.length):rd l (n:Int)∈l:=by rw[dn l n h];exact List.getElem_mem h
theorem uJ{l:List Int}{x:Int}(h:x∈l):∃n:Nat,n<l.length/\rd l (n:Int)=x:=by
 obtain ⟨n,hn,e⟩:=List.getElem_of_mem h;exact ⟨n,hn,by rw[dn l n hn,e]⟩
theorem rD{l:List Int}{x:Int}{i:Nat}(hi:i<=l.length):x∈l.take i ↔ ∃n:Nat,n<i/\rd l (n:Int)=x:=by
 constructor
 ·
  intro h;obtain ⟨n,hn,e⟩:=List.getElem_of_mem h;rw[List.length_take]at hn;rw[List.getElem_take]at e;exact ⟨n,by omega,by rw[dn l n (by omega),e]⟩
 ·
  rintro ⟨n,hn,e⟩;rw[dn l n (by omega)]at e;rw[<- e,List.mem_take_iff_getElem];exact ⟨n,by omega,rfl⟩
theorem table_iff(l:List Int):table l=true ↔ Tb l:=by
 unfold table;simp only[Bool.and_eq_true,decide_eq_true_eq]
 constructor
 ·
  rintro ⟨⟨⟨h1,h2⟩,h3⟩,h4⟩;rw[yY l l.length 0 (by omega)]at h4;refine ⟨fit h1 h2,uJ h3,λi j hij hj e=>?_,λi hi hn=>(h4 i (by omega) hi hn).2⟩
  refine Classical.byContradiction λhne=>?_
  exact (h4 j (by omega) hj (e▸hne)).1 ((rD (by omega)).2 ⟨i,hij,e⟩)
 ·
  rintro ⟨hf,⟨e,he,hee⟩,ho,hp⟩;refine ⟨⟨⟨⟨by have:=hf.two;omega,by have:=hf.len;omega⟩,?_⟩,hee▸vw he⟩,?_⟩
  ·
   rw[List.all_eq_true];intro x hx;obtain ⟨n,hn,rfl⟩:=uJ hx;exact decide_eq_true (hf.inn n hn)
  ·
   rw[yY l l.length 0 (by omega)];intro x _ hx hne;refine ⟨λhm=>?_,hp x hx hne⟩;obtain ⟨n,hn,e⟩:=(rD (by omega)).1 hm;exact hne (e▸ho n x hn hx e)
theorem mod_one{N K a b:Nat}(ha:a<N)(hb:b<N)(h:(K+a) % N=(K+b) % N):a=b:=by
 have hh:K % N<N:=Nat.mod_lt _ (by omega);rw[<- Nat.mod_add_mod K N a,<- Nat.mod_add_mod K N b]at h
 generalize K % N=q at h hh
 by_cases h1:q+a<N
 ·
  by_cases h2:q+b<N
  · rw[Nat.mod_eq_of_lt h1,Nat.mod_eq_of_lt h2]at h;omega
  · rw[Nat.mod_eq_of_lt h1,Nat.mod_eq_sub_mod (by omega),Nat.mod_eq_of_lt (by omega)]at h;omega
 ·
  by_cases h2:q+b<N
  · rw[Nat.mod_eq_of_lt h2,Nat.mod_eq_sub_mod (by omega),Nat.mod_eq_of_lt (by omega)]at h;omega
  · rw[Nat.mod_eq_sub_mod (by omega),Nat.mod_eq_of_lt (by omega),Nat.mod_eq_sub_mod (by omega),Nat.mod_eq_of_lt (by omega)]at h;omega
theorem qH{N:Nat}(K:Nat){x:Nat}(hx:x<N):∃c,c<N/\(K+c) % N=x:=by
 have hh:K % N<N:=Nat.mod_lt _ (by omega)
 by_cases h:K % N<=x
 ·
  refine ⟨x - K % N,by omega,?_⟩;rw[<- Nat.mod_add_mod K N,show K % N+(x - K % N)=x by omega,Nat.mod_eq_of_lt hx]
 ·
  refine ⟨x+N - K % N,by omega,?_⟩;rw[<- Nat.mod_add_mod K N,show K % N+(x+N - K % N)=x+N by omega,Nat.add_mod_right,Nat.mod_eq_of_lt hx]
theorem cost_at{N K c:Nat}(hc:c<N):cost N ((K+c) % N) K=c:=by
 have hh:K % N<N:=Nat.mod_lt _ (by omega);unfold cost;rw[<- Nat.mod_add_mod K N c]
 generalize K % N=q at hh
 by_cases h1:q+c<N
 · rw[Nat.mod_eq_of_lt h1,show q+c+N - q=c+N by omega,Nat.add_mod_right,Nat.mod_eq_of_lt hc]
 ·
  have e:(q+c) % N=q+c - N:=by rw[Nat.mod_eq_sub_mod (by omega),Nat.mod_eq_of_lt (by omega)]
  rw[e,show q+c - N+N - q=c by omega,Nat.mod_eq_of_lt hc]
theorem uM{N K x:Nat}(hx:x<N):(K+cost N x K) % N=x:=by
 obtain ⟨c,hc,e⟩:=qH K hx;have h:=cost_at (K:=K) hc;rw[e]at h;rw[h,e]
theorem mod_add(N a b:Nat):(a % N+b) % N=(a+b) % N:=Nat.mod_add_mod a N b
theorem rd_set_self{l:List Int}{p:Nat}(v:Int)(h:p<l.length):rd (l.set p v) (p:Int)=v:=by
 rw[dn _ p (by simpa using h),List.getElem_set_self]
theorem rd_set_ne{l:List Int}{p i:Nat}(v:Int)(h:i≠p):rd (l.set p v) (i:Int)=rd l (i:Int):=by
 unfold rd;rw[Int.toNat_natCast,List.getD_eq_getElem?_getD,List.getD_eq_getElem?_getD,List.getElem?_set_ne (by omega)]
def je(l:List Int)(K:Nat):Nat->Nat->Nat
 | 0,c=>c
 | d+1,c=>if rd l (((K+c) % l.length:Nat):Int)=-1 then c else je l K d (c+1)
theorem AO(l:List Int)(K:Nat):∀d c,c+d=l.length->(∃t,c<=t/\t<l.length/\rd l (((K+t) % l.length:Nat):Int)=-1) ->
  c<=je l K d c/\je l K d c<l.length/\rd l (((K+je l K d c) % l.length:Nat):Int)=-1/\∀m,c<=m->m<je l K d c->rd l (((K+m) % l.length:Nat):Int)≠-1:=by
 intro d
 induction d with
 | zero=>rintro c hc ⟨t,h1,h2,_⟩;omega
 | succ d ih =>
  rintro c hc ⟨t,h1,h2,h3⟩;rw[je]
  by_cases h:rd l (((K+c) % l.length:Nat):Int)=-1
  ·
   rw[if_pos h];exact ⟨Nat.le_refl _,by omega,h,λm h4 h5=>by omega⟩
  ·
   rw[if_neg h];have hne:t≠c:=λe=>h (e▸h3);obtain ⟨g1,g2,g3,g4⟩:=ih (c+1) (by omega) ⟨t,by omega,h2,h3⟩;refine ⟨by omega,g2,g3,λm h4 h5=>?_⟩
   by_cases e:m=c
   · rw[e];exact h
   · exact g4 m (by omega) h5
def gV(l:List Int)(K:Nat):Nat:=(K+je l K l.length 0) % l.length
theorem xK{l:List Int}(hT:Tb l)(K:Nat):je l K l.length 0<l.length/\gV l K<l.length/\rd l (gV l K:Int)=-1/\∀m,m<je l K l.length 0->rd l (((K+m) % l.length:Nat):Int)≠-1:=by
 have h2:=hT.fit.two;obtain ⟨e,he,hee⟩:=hT.free;obtain ⟨t,ht,hte⟩:=qH K he;obtain ⟨g1,g2,g3,g4⟩:=AO l K l.length 0 (by omega) ⟨t,by omega,ht,by rw[hte];exact hee⟩;exact ⟨g2,Nat.mod_lt _ (by omega),g3,λm hm=>g4 m (by omega) hm⟩
theorem C8{l:List Int}(hT:Tb l){K:Nat}(hK:K<=999)(hn:(K:Int) ∉ l)(hfree:∃e:Nat,e<l.length/\e≠gV l K/\rd l (e:Int)=-1):Tb (l.set (gV l K) (K:Int)):=by
 have h2:=hT.fit.two;obtain ⟨g1,g2,g3,g4⟩:=xK hT K
 have hlen:(l.set (gV l K) (K:Int)).length=l.length:=by simp
 refine ⟨⟨by omega,by have:=hT.fit.len;omega,λn h=>?_⟩,?_,λi j hij hj e=>?_,λi hi hne m hm=>?_⟩
 ·
  by_cases e:n=gV l K
  · rw[e,rd_set_self _ g2];omega
  · rw[rd_set_ne _ e];exact hT.fit.inn n (by omega)
 ·
  obtain ⟨e,h1,h3,h4⟩:=hfree;exact ⟨e,by omega,by rw[rd_set_ne _ h3];exact h4⟩
 ·
  rw[hlen]at hj
  by_cases e1:i=gV l K
  ·
   have e2:j≠gV l K:=by omega
   rw[e1,rd_set_self _ g2,rd_set_ne _ e2]at e;exact absurd (e▸vw hj) hn
  ·
   by_cases e2:j=gV l K
   ·
    rw[e2,rd_set_self _ g2,rd_set_ne _ e1]at e;exact absurd (e▸vw (show i<l.length by omega)) hn
   ·
    rw[rd_set_ne _ e1,rd_set_ne _ e2]at e;rw[rd_set_ne _ e1];exact hT.one i j hij hj e
 ·
  rw[hlen]at hi hm ⊢
  have keep:∀x:Nat,rd l (x:Int)≠-1->rd (l.set (gV l K) (K:Int)) (x:Int)≠-1:=by
   intro x hx
   by_cases e:x=gV l K
   · rw[e,rd_set_self _ g2];omega
   · rw[rd_set_ne _ e];exact hx
  by_cases e1:i=gV l K
  ·
   rw[e1,rd_set_self _ g2,Int.toNat_natCast]at hm ⊢;have e3:cost l.length (gV l K) K=je l K l.length 0:=cost_at g1;rw[e3]at hm;exact keep _ (g4 m hm)
  ·
   rw[rd_set_ne _ e1]at hne hm ⊢;exact keep _ (hT.path i hi hne m hm)
structure Rm (l:List Int) (f k:Nat):Prop where
 fit:Fit l
 cell:f<l.length
 hole:rd l (f:Int)=-1
 one:∀i j:Nat,i<j->j<l.length->rd l (i:Int)=rd l (j:Int)->rd l (i:Int)=-1
 path:∀i:Nat,i<l.length->rd l (i:Int)≠-1->∀m,m<cost l.length i (rd l (i:Int)).toNat->rd l ((((rd l (i:Int)).toNat+m) % l.length:Nat):Int)=-1->((rd l (i:Int)).toNat+m) % l.length=f
 far:1<=k
 behind:∀j,1<=j->j<k->rd l (((f+j) % l.length:Nat):Int)≠-1/\cost l.length ((f+j) % l.length) (rd l (((f+j) % l.length:Nat):Int)).toNat<j
def remN:Nat->List Int->Nat->Nat->List Int
 | 0,l,_,_=>l
 | d+1,l,f,k =>
  if rd l (((f+k) % l.length:Nat):Int)=-1 then l
  else if k<=cost l.length ((f+k) % l.length) (rd l (((f+k) % l.length:Nat):Int)).toNat then remN d ((l.set f (rd l (((f+k) % l.length:Nat):Int))).set ((f+k) % l.length) (-1)) ((f+k) % l.length) 1
  else remN d l f (k+1)
theorem Rm.start{l:List Int}(hT:Tb l){f:Nat}(hf:f<l.length):Rm (l.set f (-1)) f 1:=by
 have h2:=hT.fit.two
 have hlen:(l.set f (-1)).length=l.length:=by simp
 refine ⟨⟨by omega,by have:=hT.fit.len;omega,λn h=>?_⟩,by omega,rd_set_self _ hf,λi j hij hj e=>?_,λi hi hne m hm h=>?_,Nat.le_refl _,λj h1 h3=>by omega⟩
 ·
  by_cases e:n=f
  · rw[e,rd_set_self _ hf];omega
  · rw[rd_set_ne _ e];exact hT.fit.inn n (by omega)
 ·
  rw[hlen]at hj
  by_cases e1:i=f
  · rw[e1,rd_set_self _ hf]
  ·
   by_cases e2:j=f
   · rw[e2,rd_set_self _ hf]at e;exact e
   ·
    rw[rd_set_ne _ e1,rd_set_ne _ e2]at e;rw[rd_set_ne _ e1];exact hT.one i j hij hj e
 ·
  rw[hlen]at hi hm h ⊢;have e1:i≠f:=λe=>hne (by rw[e,rd_set_self _ hf]);rw[rd_set_ne _ e1]at hne hm h ⊢
  refine Classical.byContradiction λhx=>?_
  rw[rd_set_ne _ hx]at h;exact hT.path i hi hne m hm h
theorem Rm.stay{l:List Int}{f k:Nat}(h:Rm l f k)(h1:rd l (((f+k) % l.length:Nat):Int)≠-1)(h2:¬ k<=cost l.length ((f+k) % l.length) (rd l (((f+k) % l.length:Nat):Int)).toNat):Rm l f (k+1):=by
 obtain ⟨a,b,c,d,e,g,i⟩:=h;refine ⟨a,b,c,d,e,by omega,λj h3 h4=>?_⟩
 by_cases hj:j=k
 · subst hj;exact ⟨h1,by omega⟩
 · exact i j h3 (by omega)
theorem Rm.move{l:List Int}{f k:Nat}(h:Rm l f k)(hk:k<l.length)(h1:rd l (((f+k) % l.length:Nat):Int)≠-1)(h2:k<=cost l.length ((f+k) % l.length) (rd l (((f+k) % l.length:Nat):Int)).toNat) :
  Rm ((l.set f (rd l (((f+k) % l.length:Nat):Int))).set ((f+k) % l.length) (-1)) ((f+k) % l.length) 1:=by
 obtain ⟨hfit,hcell,hhole,hone,hpath,hfar,hbeh⟩:=h;have htwo:=hfit.two;have ha:(f+k) % l.length<l.length:=Nat.mod_lt _ (by omega)
 have hne:(f+k) % l.length≠f:=by
  intro e
  have e2:(f+k) % l.length=(f+0) % l.length:=by rw[e,Nat.add_zero,Nat.mod_eq_of_lt hcell]
  have:=mod_one hk (by omega) e2;omega
 generalize hA:(f+k) % l.length=a at ha hne h1 h2 ⊢
 have hin:=hfit.inn a ha;obtain ⟨K,hK⟩:=Int.eq_ofNat_of_zero_le (show 0<=rd l (a:Int) by omega)
 have hlen:((l.set f (rd l (a:Int))).set a (-1)).length=l.length:=by simp
 have ga:rd ((l.set f (rd l (a:Int))).set a (-1)) (a:Int)=-1:=rd_set_self _ (by simpa using ha)
 have gf:rd ((l.set f (rd l (a:Int))).set a (-1)) (f:Int)=(K:Int):=by rw[rd_set_ne _ (Ne.symm hne),rd_set_self _ hcell,hK]
 have go:∀x:Nat,x≠a->x≠f->rd ((l.set f (rd l (a:Int))).set a (-1)) (x:Int)=rd l (x:Int):=λx e1 e2=>by rw[rd_set_ne _ e1,rd_set_ne _ e2]
 generalize hM:(l.set f (rd l (a:Int))).set a (-1)=l' at hlen ga gf go ⊢
 have hcK:=uM (K:=K) ha;rw[hK,Int.toNat_natCast]at h2;have hclt:cost l.length a K<l.length:=om (by omega)
 have hcf:cost l.length f K=cost l.length a K - k:=by
  have e:f=(K+(cost l.length a K - k)) % l.length:=by
   obtain ⟨c,hc,hce⟩:=qH K hcell
   have e2:(K+(c+k)) % l.length=(K+cost l.length a K) % l.length:=by
    rw[hcK,<- Nat.add_assoc,<- mod_add l.length (K+c) k,hce,hA]
   by_cases h5:c+k<l.length
   ·
    have:=mod_one h5 hclt e2;rw[<- hce];congr 2;omega
   ·
    have e3:(K+(c+k - l.length)) % l.length=(K+cost l.length a K) % l.length:=by
     rw[<- e2,show K+(c+k)=K+(c+k - l.length)+l.length by omega,Nat.add_mod_right]
    have:=mod_one (by omega) hclt e3;omega
  have h6:=cost_at (N:=l.length) (K:=K) (c:=cost l.length a K - k) (by omega);rw[<- e]at h6;exact h6
 refine ⟨⟨by omega,by have:=hfit.len;omega,λn h=>?_⟩,by omega,ga,λi j hij hj e=>?_,λi hi hni m hm h=>?_,Nat.le_refl _,λj h3 h4=>by omega⟩
 ·
  by_cases e1:n=a
  · rw[e1,ga];omega
  ·
   by_cases e2:n=f
   · rw[e2,gf,<- hK];exact hin
   · rw[go n e1 e2];exact hfit.inn n (by omega)
 ·
  rw[hlen]at hj
  have hax:∀x:Nat,x<l.length->x≠a->rd l (x:Int)=rd l (a:Int)->False:=by
   intro x hx hxa e3
   rcases Nat.lt_or_gt_of_ne hxa with h5|h5
   · exact h1 (e3▸hone x a h5 ha e3)
   · exact h1 (hone a x h5 hx e3.symm)
  by_cases i1:i=a
  · rw[i1];exact ga
  ·
   by_cases j1:j=a
   · rw[j1,ga]at e;exact e
   ·
    by_cases i2:i=f
    ·
     have j2:j≠f:=by omega
     rw[i2,gf,go j j1 j2,<- hK]at e;exact (hax j hj j1 e.symm).elim
    ·
     by_cases j2:j=f
     ·
      rw[j2,gf,go i i1 i2,<- hK]at e;exact (hax i (by omega) i1 e).elim
     ·
      rw[go i i1 i2,go j j1 j2]at e;rw[go i i1 i2];exact hone i j hij hj e
 ·
  rw[hlen]at hi hm h ⊢;have i1:i≠a:=λe=>hni (by rw[e,ga])
  by_cases i2:i=f
  ·
   rw[i2,gf,Int.toNat_natCast]at hm h ⊢;rw[hcf]at hm
   refine Classical.byContradiction λhx=>?_
   have hxf:(K+m) % l.length≠f:=by
    intro e
    have e4:(K+m) % l.length=(K+cost l.length f K) % l.length:=by rw[e,uM hcell]
    have:=mod_one (by omega) (by omega) e4;omega
   rw[go _ hx hxf]at h;have h7:=hpath a ha h1 m (by rw[hK,Int.toNat_natCast];omega) (by rw[hK,Int.toNat_natCast];exact h);rw[hK,Int.toNat_natCast]at h7;exact hxf h7
  ·
   rw[go i i1 i2]at hni hm h ⊢
   refine Classical.byContradiction λhx=>?_
   by_cases hxf:((rd l (i:Int)).toNat+m) % l.length=f
   · rw[hxf,gf]at h;omega
   ·
    rw[go _ hx hxf]at h;exact hxf (hpath i hi hni m hm h)
theorem Rm.done{l:List Int}{f k:Nat}(h:Rm l f k)(hk:k<l.length)(h1:rd l (((f+k) % l.length:Nat):Int)=-1):Tb l:=by
 obtain ⟨hfit,hcell,hhole,hone,hpath,hfar,hbeh⟩:=h;have htwo:=hfit.two;refine ⟨hfit,⟨f,hcell,hhole⟩,hone,λi hi hni m hm h=>?_⟩;have hin:=hfit.inn i hi;obtain ⟨K,hK⟩:=Int.eq_ofNat_of_zero_le (show 0<=rd l (i:Int) by omega);have hp:=λm=>hpath i hi hni m;have hbe:=hbeh;rw[hK,Int.toNat_natCast]at hm h hp;have hf:=hp m hm h;have hc:=uM (K:=K) hi;have hclt:cost l.length i K<l.length:=om (by omega)
 have hx:(f+(cost l.length i K - m)) % l.length=i:=by rw[<- hf,mod_add,show K+m+(cost l.length i K - m)=K+cost l.length i K by omega,hc]
 rcases Nat.lt_trichotomy (cost l.length i K - m) k with h3|h3|h3
 ·
  have h4:=(hbeh (cost l.length i K - m) (by omega) h3).2;rw[hx,hK,Int.toNat_natCast]at h4;omega
 ·
  rw[<- h3,hx]at h1;exact hni h1
 ·
  have e5:(K+(m+k)) % l.length=(f+k) % l.length:=by rw[<- Nat.add_assoc,<- mod_add l.length (K+m) k,hf]
  have h6:=hp (m+k) (by omega) (by rw[e5];exact h1);rw[e5]at h6
  have e7:(f+k) % l.length=(f+0) % l.length:=by rw[h6,Nat.add_zero,Nat.mod_eq_of_lt hcell]
  have:=mod_one hk (by omega) e7;omega
theorem IE:∀ (d:Nat) (l:List Int) (f k t:Nat),Rm l f k->k<=t->t<l.length->rd l (((f+t) % l.length:Nat):Int)=-1->t - k<d->Tb (remN d l f k)/\(remN d l f k).length=l.length:=by
 intro d
 induction d with
 | zero=>intro l f k t _ _ _ _ h;omega
 | succ d ih =>
  intro l f k t hR hk ht he hd;rw[remN]
  by_cases h1:rd l (((f+k) % l.length:Nat):Int)=-1
  ·
   rw[if_pos h1];exact ⟨hR.done (by omega) h1,rfl⟩
  ·
   rw[if_neg h1];have hne:k≠t:=λe=>h1 (e▸he)
   by_cases h2:k<=cost l.length ((f+k) % l.length) (rd l (((f+k) % l.length:Nat):Int)).toNat
   ·
    rw[if_pos h2];have hm:=hR.move (by omega) h1 h2
    have hlen:((l.set f (rd l (((f+k) % l.length:Nat):Int))).set ((f+k) % l.length) (-1)).length=l.length:=by simp
    have e1:((f+k) % l.length+(t - k)) % l.length=(f+t) % l.length:=by rw[mod_add,show f+k+(t - k)=f+t by omega]
    have g:=ih _ _ 1 (t - k) hm (by omega) (by omega) (by
     rw[hlen,e1]
     by_cases e2:(f+t) % l.length=(f+k) % l.length
     · rw[e2];exact rd_set_self _ (by simpa using Nat.mod_lt _ (by omega))
     ·
      rw[rd_set_ne _ e2,rd_set_ne _ (λe3=>?_),he]
      have e4:(f+t) % l.length=(f+0) % l.length:=by rw[e3,Nat.add_zero,Nat.mod_eq_of_lt hR.cell]
      have:=mod_one ht (by omega) e4;have:=hR.far
      omega) (by omega)
    rw[hlen]at g;exact g
   ·
    rw[if_neg h2];exact ih l f (k+1) t (hR.stay h1 h2) (by omega) ht he (by omega)
def remL(l:List Int)(f:Nat):List Int:=remN l.length (l.set f (-1)) f 1
theorem other_free{l:List Int}(hT:Tb l){f:Nat}(hf:f<l.length)(hn:rd l (f:Int)≠-1):∃t,1<=t/\t<l.length/\rd (l.set f (-1)) (((f+t) % l.length:Nat):Int)=-1:=by
 obtain ⟨e,he,hee⟩:=hT.free;obtain ⟨t,ht,hte⟩:=qH f he
 have h0:t≠0:=λe0=>by
  rw[e0,Nat.add_zero,Nat.mod_eq_of_lt hf]at hte;exact hn (hte▸hee)
 refine ⟨t,by omega,ht,?_⟩;have hef:e≠f:=λe1=>hn (by rw[<- e1];exact hee);rw[hte,rd_set_ne _ hef,hee]
theorem JI{l:List Int}(hT:Tb l){f:Nat}(hf:f<l.length)(hn:rd l (f:Int)≠-1):Tb (remL l f)/\(remL l f).length=l.length:=by
 obtain ⟨t,h1,h2,h3⟩:=other_free hT hf hn;have h:=IE l.length (l.set f (-1)) f 1 t (Rm.start hT hf) h1 (by simpa using h2) (by simpa using h3) (by omega);rw[List.length_set]at h;exact h
def turned(l:List Int)(a by_:Int):List Int:=l.map λx=>Int.tmod (x+by_) a
theorem ou(l:List Int)(a by_:Int):(turned l a by_).length=l.length:=by simp[turned]
theorem tT{a x b:Int}(hx:0<=x/\x<a)(hb:0<=b/\b<a):Int.tmod (x+b) a=if x+b<a then x+b else x+b - a:=by
 rw[Int.tmod_eq_emod_of_nonneg (by omega)]
 split
 · exact Int.emod_eq_of_lt (by omega) (by omega)
 ·
  rw[<- Int.sub_emod_right];exact Int.emod_eq_of_lt (by omega) (by omega)
theorem wZ{l:List Int}{a b:Int}(hl:∀x∈l,0<=x/\x<a)(hb:0<=b/\b<a):∀y∈turned l a b,0<=y/\y<a:=by
 intro y hy;unfold turned at hy;rw[List.mem_map]at hy;obtain ⟨x,hx,rfl⟩:=hy;have:=hl x hx;rw[tT this hb]
 split <;> omega
def iG(p:Int)(out:List Int):Nat->Int->Int
 | 0,x=>x
 | d+1,x=>if x∈out then iG p out d (Int.tmod (x+1) p)else x
def iA(p:Int):List Int->List Int->List Int
 | out,[]=>out
 | out,x :: xs=>iA p (out++[iG p out p.toNat x]) xs
theorem rT(p:Int):∀ (xs out:List Int),(iA p out xs).length=out.length+xs.length:=by
 intro xs
 induction xs with
 | nil=>intro out;rfl
 | cons x xs ih=>intro out;rw[iA,ih,List.length_append,List.length_singleton,List.length_cons];omega
def nC(p f x:Int):Int:=Int.tmod (x+(p - 1 - f)) p
theorem rE{p f x:Int}(hf:0<=f/\f<p)(hx:0<=x/\x<p):nC p f x=if x<=f then x+(p - 1 - f)else x - f - 1:=by
 unfold nC;rw[tT hx (by omega)]
 split <;> split <;> omega
theorem JB{p f:Int}(hf:0<=f/\f<p)(out:List Int)(ho:f ∉ out):∀ (d:Nat) (x:Int),0<=x/\x<p->p - 1 - nC p f x<=(d:Int) ->
  iG p out d x ∉ out/\(0<=iG p out d x/\iG p out d x<p)/\nC p f x<=nC p f (iG p out d x):=by
 intro d
 induction d with
 | zero =>
  intro x hx hd;rw[iG];refine ⟨?_,hx,Int.le_refl _⟩;rw[rE hf hx]at hd
  have e:x=f:=by split at hd <;> omega
  rw[e];exact ho
 | succ d ih =>
  intro x hx hd;rw[iG]
  by_cases hm:x∈out
  ·
   rw[if_pos hm];have hne:x≠f:=λe=>ho (e▸hm)
   have h1:Int.tmod (x+1) p=if x+1<p then x+1 else x+1 - p:=tT hx (by omega)
   have hx':0<=Int.tmod (x+1) p/\Int.tmod (x+1) p<p:=by rw[h1];split <;> omega
   have h2:nC p f (Int.tmod (x+1) p)=nC p f x+1:=by
    rw[rE hf hx',rE hf hx,h1]
    split <;> split <;> split <;> omega
   obtain ⟨a,b,c⟩:=ih (Int.tmod (x+1) p) hx' (by omega);exact ⟨a,b,by omega⟩
  ·
   rw[if_neg hm];exact ⟨hm,hx,Int.le_refl _⟩
def dst(s l:List Int)(n:Nat):List Int:=(List.range n).map λi:Nat=>wrap64 (rd s (i:Int) - rd l (i:Int))
theorem zh(s l:List Int)(n:Nat):dst s l (n+1)=dst s l n++[wrap64 (rd s (n:Int) - rd l (n:Int))]:=by simp[dst,List.range_succ]
theorem mV(s l:List Int)(n:Nat):(dst s l n).length=n:=by simp[dst]
theorem yz(p:Int):∀ (l out:List Int) (i:Nat) (h:i<l.length) (h2:out.length+i<(sdrive p out l).length),(sdrive p out l)[out.length+i]=-1\/l[i]<=(sdrive p out l)[out.length+i]:=by
 intro l
 induction l with
 | nil=>intro out i h;simp at h
 | cons x xs ih =>
  intro out i h h2
  cases i with
  | zero =>
   obtain ⟨t,ht⟩:=rX p xs (out++[told p (nf p out (p - x).toNat x)])
   have e:(sdrive p out (x :: xs))[out.length+0]=told p (nf p out (p - x).toNat x):=by
    have e2:sdrive p out (x :: xs)=out++(told p (nf p out (p - x).toNat x) :: t):=by rw[sdrive,ht,List.append_assoc];rfl
    simp only[e2];rw[List.getElem_append_right (by omega)];simp
   rw[e];have:=sK p out (p - x).toNat x;unfold told
   split
   · exact .inl rfl
   · exact .inr this
  | succ i =>
   have h3:=ih (out++[told p (nf p out (p - x).toNat x)]) i (by simpa using h) (by rw[sdrive]at h2;simp;omega);simp only[List.length_append,List.length_singleton]at h3
   have e:out.length+1+i=out.length+(i+1):=by omega
   simp only[e]at h3;simpa [sdrive] using h3
def dists(l:List Int):List Int:=dst (sdrive (l.length:Int) [] l) l l.length
theorem EP{l:List Int}(h:parking l=true):∀x∈dists l,0<=x:=by
 intro x hx;unfold dists dst at hx;rw[List.mem_map]at hx;obtain ⟨i,hi,rfl⟩:=hx;have hi:=List.mem_range.1 hi
 have hlen:(sdrive (l.length:Int) [] l).length=l.length:=by rw[mG];simp
 have h8:=parking_cars h;rw[dn _ i (by omega),dn l i hi];have hb:=parking_in h l[i] (List.getElem_mem hi);have hm:=List.getElem_mem (show i<(sdrive (l.length:Int) [] l).length by omega);have h1:=yz (l.length:Int) l [] i hi (by simp;omega);simp only[List.length_nil,Nat.zero_add]at h1
 have hlt:(sdrive (l.length:Int) [] l)[i]<(l.length:Int):=by
  rcases tF (l.length:Int) (by omega) l [] _ hm with h2|h2
  · simp at h2
  · exact h2
 rcases h1 with h1|h1
 · exact absurd (h1▸hm) (qm h)
 ·
  rw[wrap64_in _ (by omega) (by omega)];omega
theorem yG(n:Nat)(i:Int):i∈iota 0 n ↔ 0<=i/\i<(n:Int):=by
 unfold iota;rw[List.mem_map]
 constructor
 ·
  rintro ⟨a,ha,rfl⟩;have:=List.mem_range.1 ha;omega
 ·
  intro h;exact ⟨i.toNat,List.mem_range.2 (by omega),by omega⟩
theorem I5(n:Nat):(iota 0 n).Nodup:=by
 refine List.pairwise_iff_getElem.2 λi j hi hj hij=>?_
 rw[sQ,sQ];omega
theorem uZ(P:Nat)(out:List Int)(h:out.length<P):∃f:Int,0<=f/\f<(P:Int)/\f ∉ out:=by
 refine Classical.byContradiction λhn=>?_
 have h1:∀x∈iota 0 P,x∈out:=λx hx=>Classical.byContradiction λhx2=>hn ⟨x,((yG _ _).1 hx).1,((yG _ _).1 hx).2,hx2⟩;have h2:=ru (iota 0 P) out (I5 P) h1;rw[vM]at h2;omega
def lv(out:List Int):Nat->Nat->Int
 | 0,i=>(i:Int)
 | d+1,i=>if (i:Int)∈out then lv out d (i+1)else (i:Int)
theorem BG(out:List Int):∀d i:Nat,(i:Int)<=lv out d i/\lv out d i<=((i+d:Nat):Int):=by
 intro d
 induction d with
 | zero=>intro i;rw[lv];omega
 | succ d ih =>
  intro i;rw[lv];have:=ih (i+1)
  split <;> omega
theorem Ha(out:List Int):∀d i:Nat,(∃f:Int,(i:Int)<=f/\f<((i+d:Nat):Int)/\f ∉ out)->lv out d i<((i+d:Nat):Int):=by
 intro d
 induction d with
 | zero=>rintro i ⟨f,h1,h2,_⟩;omega
 | succ d ih =>
  rintro i ⟨f,h1,h2,h3⟩;rw[lv]
  by_cases hm:(i:Int)∈out
  ·
   rw[if_pos hm];have hne:f≠(i:Int):=λe=>h3 (e▸hm);have:=ih (i+1) ⟨f,by omega,by omega,h3⟩;omega
  ·
   rw[if_neg hm];omega
def kW(l:List Int):Int:=lv (iA ((l.length:Int)+1) [] l) (l.length+1) 0
theorem vI(l:List Int):0<=kW l/\kW l<=(l.length:Int):=by
 have h:=BG (iA ((l.length:Int)+1) [] l) (l.length+1) 0;obtain ⟨f,h1,h2,h3⟩:=uZ (l.length+1) (iA ((l.length:Int)+1) [] l) (by rw[rT];simp);have h4:=Ha (iA ((l.length:Int)+1) [] l) (l.length+1) 0 ⟨f,by omega,by omega,h3⟩;unfold kW;omega
def circ(l:List Int):Bool:=decide (l.length<=8) && l.all λx=>decide (0<=x/\x<=(l.length:Int))
theorem circ_in{l:List Int}(h:circ l=true):l.length<=8/\∀x∈l,0<=x/\x<(l.length:Int)+1:=by
 unfold circ at h;rw[Bool.and_eq_true,decide_eq_true_eq,List.all_eq_true]at h;refine ⟨h.1,λx hx=>?_⟩;have:=of_decide_eq_true (h.2 x hx);omega
def pU(l:List Int):List Int:=turned l ((l.length:Int)+1) ((l.length:Int) - kW l)
theorem EF{l:List Int}(h:circ l=true):(pU l).length<=8/\∀x∈pU l,0<=x/\x<(l.length:Int)+1:=by
 have h1:=circ_in h;have h2:=vI l;unfold pU;rw[ou];exact ⟨h1.1,wZ h1.2 (by omega)⟩
def jV(p:List Int)(n:Nat):Nat->Nat->Int
 | 0,_=>0
 | d+1,y=>lQ (p++[(y:Int)]) n+jV p n d (y+1)
def kD(l:List Int):Nat->Nat->Int
 | 0,_=>0
 | d+1,i=>jV (l.take i) l.length (rd l (i:Int)).toNat 0+kD l d (i+1)
def rankL(l:List Int):Int:=kD l l.length 0
theorem u_{n:Nat}(hn:n<=8){p:List Int}(hp:p.length<=n)(hl:gX p n):0<=lQ p n/\lQ p n<=43046721:=by
 have h1:=su n hn p (n - p.length) (by omega) hl;have h2:=sM n hn (n - p.length) p (by omega) hl;omega
theorem vo{n:Nat}(hn:n<=8){p:List Int}(hp:p.length<n)(hl:gX p n):∀d y,y+d<=n->0<=jV p n d y/\jV p n d y<=43046721 * (d:Int):=by
 intro d
 induction d with
 | zero=>intro y _;rw[jV];omega
 | succ d ih =>
  intro y hy;have h1:=u_ hn (p:=p++[(y:Int)]) (by simp;omega) (hl.snoc (by omega));have h2:=ih (y+1) (by omega);rw[jV];omega
theorem Ir{l:List Int}(h8:l.length<=8)(hl:gX l l.length):∀d i,i+d=l.length->0<=kD l d i/\kD l d i<=344373768 * (d:Int):=by
 intro d
 induction d with
 | zero=>intro i _;rw[kD];omega
 | succ d ih =>
  intro i hi;have hx:=hl _ (List.getElem_mem (show i<l.length by omega));rw[<- dn l i (by omega)]at hx;have h1:=vo h8 (p:=l.take i) (by rw[List.length_take];omega) (λx hx=>hl x (List.mem_of_mem_take hx)) (rd l (i:Int)).toNat 0 (by omega);have h2:=ih (i+1) (by omega);rw[kD];omega
theorem uT{l:List Int}(h:parking l=true):gX l l.length:=λx hx=>parking_in h x hx
theorem rV{l:List Int}(h:parking l=true):0<=rankL l/\rankL l<=2754990144:=by
 have h8:=parking_cars h;have:=Ir h8 (uT h) l.length 0 (by omega);unfold rankL;omega
def jQ(n r:Int):Option (List Int):=if (0<=n/\n<=8)/\0<=r then (dK n.toNat n.toNat [])[r.toNat]? else none
def nU(n:Int):Option Int:=if 0<=n/\n<=8 then some ((dK n.toNat n.toNat []).length:Int)else none
def backT:List Int:=[16,24,27,27,27,27,27,27,27]
def backL(n:Int):Option Int:=if 0<=n/\n<=8 then some (rd backT n)else none
def joinL(l m:List Int):Option (List Int):=if parking l=true/\parking m=true/\l.length+m.length<=8 then some (l++m.map λx=>x+(l.length:Int))else none
def emptyL(n:Int):Option (List Int):=if 2<=n/\n<=12 then some (List.replicate n.toNat (-1))else none
def kC(t:List Int):Int:=cnt (λx=>decide (0<=x)) t
def insL(t:List Int)(n:Int):Option (List Int × Int):=if (0<=n/\n<=999)/\n ∉ t/\kC t+1≠(t.length:Int)then some (t.set (gV t n.toNat) n,(gV t n.toNat:Int))else none
def posL(t:List Int)(n:Int):Nat:=t.idxOf n
def remK(t:List Int)(n:Int):Option (List Int):=if (0<=n/\n<=999)/\n∈t then some (remL t (posL t n))else none
def findL(t:List Int)(n:Int):Option (Int × Int):=if (0<=n/\n<=999)/\n∈t then some ((posL t n:Int),(cost t.length (posL t n) n.toNat:Int))else none
def mX(t:List Int):Nat->Nat->Int
 | 0,_=>0
 | d+1,i=>(if rd t (i:Int)=-1 then 0 else (cost t.length i (rd t (i:Int)).toNat:Int))+mX t d (i+1)
def costL(t:List Int):Int:=mX t t.length 0
theorem Ak{t:List Int}(h:Tb t):∀d i,0<=mX t d i/\mX t d i<=12 * (d:Int):=by
 intro d;have h2:=h.fit.two;have h12:=h.fit.len
 induction d with
 | zero=>intro i;rw[mX];omega
 | succ d ih =>
  intro i;have h1:=ih (i+1);have h3:=om (i:=i) (K:=(rd t (i:Int)).toNat) (show 0<t.length by omega);rw[mX]
  split <;> omega
theorem yV{t:List Int}(h:Tb t):0<=costL t/\costL t<=144:=by
 have:=Ak h t.length 0;have:=h.fit.len;unfold costL;omega
theorem posL_ok{t:List Int}{n:Int}(h:n∈t):posL t n<t.length/\rd t (posL t n:Int)=n:=by
 have h1:t.idxOf n<t.length:=List.idxOf_lt_length_of_mem h;refine ⟨h1,?_⟩;unfold posL;rw[dn t _ h1,List.getElem_idxOf]
theorem uo(p:Int->Bool)(l:List Int)(h:∀x∈l,p x=true):cnt p l=(l.length:Int):=by
 unfold cnt;rw[List.filter_eq_self.2 h]
theorem Dt{t:List Int}(hT:Tb t){p:Nat}(hp:p<t.length)(h0:rd t (p:Int)=-1)(hm:kC t+1≠(t.length:Int)):∃e:Nat,e<t.length/\e≠p/\rd t (e:Int)=-1:=by
 refine Classical.byContradiction λhn=>hm ?_
 have hall:∀e:Nat,e<t.length->e≠p->0<=rd t (e:Int):=by
  intro e he hne;have:=hT.fit.inn e he;refine Classical.byContradiction λh=>hn ⟨e,he,hne,by omega⟩
 have e1:t=t.take p++(t[p] :: t.drop (p+1)):=by rw[<- List.drop_eq_getElem_cons hp,List.take_append_drop]
 have a1:cnt (λx=>decide (0<=x)) (t.take p)=((t.take p).length:Int):=uo _ _ λx hx=>by
  obtain ⟨n,hn,rfl⟩:=(rD (by omega)).1 hx;exact decide_eq_true (hall n (by omega) (by omega))
 have a2:cnt (λx=>decide (0<=x)) (t.drop (p+1))=((t.drop (p+1)).length:Int):=uo _ _ λx hx=>by
  obtain ⟨n,hn,e⟩:=List.getElem_of_mem hx;rw[List.length_drop]at hn;rw[List.getElem_drop]at e;have h5:=hall (p+1+n) (by omega) (by omega);rw[dn t _ (by omega),e]at h5;exact decide_eq_true h5
 rw[dn t p hp]at h0;unfold kC;have a3:cnt (λx=>decide (0<=x)) t=cnt (λx=>decide (0<=x)) (t.take p++(t[p] :: t.drop (p+1))):=congrArg _ e1;rw[a3,nP,o7,a1,a2,h0,if_neg (by decide),List.length_take,List.length_drop];omega
theorem ins_ok{t t':List Int}{n a:Int}(ht:table t=true)(h:insL t n=some (t',a)):table t'=true/\0<=a/\a<=999:=by
 rw[table_iff]at ht ⊢;unfold insL at h
 split at h
 ·
  rename_i hc
  obtain ⟨h0,h1,h2⟩:=hc;obtain ⟨g1,g2,g3,g4⟩:=xK ht n.toNat;have h12:=ht.fit.len
  have e:((n.toNat:Nat):Int)=n:=by omega
  have hr:=C8 ht (K:=n.toNat) (by omega) (by rw[e];exact h1) (Dt ht g2 g3 h2);rw[e]at hr;cases h;exact ⟨hr,by omega,by omega⟩
 · cases h
theorem Jk{t t':List Int}{n:Int}(ht:table t=true)(h:remK t n=some t'):table t'=true:=by
 rw[table_iff]at ht ⊢;unfold remK at h
 split at h
 ·
  rename_i hc
  obtain ⟨h1,h2⟩:=posL_ok hc.2;cases h;exact (JI ht h1 (by omega)).1
 · cases h
theorem find_ok{t:List Int}{n a c:Int}(ht:table t=true)(h:findL t n=some (a,c)):0<=a/\a<=999/\0<=c/\c<=999:=by
 rw[table_iff]at ht;unfold findL at h
 split at h
 ·
  rename_i hc
  obtain ⟨h1,h2⟩:=posL_ok hc.2;have h12:=ht.fit.len;have h3:=om (i:=posL t n) (K:=n.toNat) (show 0<t.length by omega);cases h;omega
 · cases h
theorem GR:∀n:Fin 11,table (List.replicate (n.1+2) (-1))=true:=by decide +kernel
theorem GX{n:Int}{t:List Int}(h:emptyL n=some t):table t=true:=by
 unfold emptyL at h
 split at h
 ·
  cases h;have:=GR ⟨n.toNat - 2,by omega⟩
  rwa [show n.toNat - 2+2=n.toNat by omega]at this
 · cases h
theorem v_{n r:Int}{l:List Int}(h:jQ n r=some l):parking l=true:=by
 unfold jQ at h
 split at h
 · exact F5 _ _ _ _ (List.mem_of_getElem? h)
 · cases h
theorem G9{l m s:List Int}(h:joinL l m=some s):parking s=true:=by
 unfold joinL at h
 split at h
 ·
  rename_i hc
  obtain ⟨hl,hm,h8⟩:=hc;cases h;have bl:=parking_in hl;have bm:=parking_in hm;have cl:=vv l bl (qm hl);have cm:=vv m bm (qm hm)
  have hlen:(l++m.map λx=>x+(l.length:Int)).length=l.length+m.length:=by simp
  have hb:∀x∈l++m.map λx=>x+(l.length:Int),0<=x/\x<((l++m.map λx=>x+(l.length:Int)).length:Int):=by
   intro x hx;rw[hlen];rw[List.mem_append,List.mem_map]at hx
   rcases hx with hx|⟨y,hy,rfl⟩
   · have:=bl x hx;omega
   · have:=bm y hy;omega
  have hp:=xM _ hb (λf h0 h1=>by
   rw[hlen]at h1;rw[nP]
   have em:cnt (λx=>decide (x<=f)) (m.map λx=>x+(l.length:Int))=cnt (λx=>decide (x<=f - (l.length:Int))) m:=by
    unfold cnt;rw[List.filter_map,List.length_map]
    congr 2
    refine List.filter_congr λx _=>?_
    show decide (x+(l.length:Int)<=f)=decide (x<=f - (l.length:Int))
    by_cases h:x+(l.length:Int)<=f
    · rw[decide_eq_true h,decide_eq_true (by omega)]
    · rw[decide_eq_false h,decide_eq_false (by omega)]
   rw[em]
   by_cases hf:f<(l.length:Int)
   ·
    have h3:=cl f h0 hf;have h4:=lY (λx=>decide (x<=f - (l.length:Int))) m;omega
   ·
    have h3:=cm (f - (l.length:Int)) (by omega) (by omega);have h4:=uo (λx=>decide (x<=f)) l (λx hx=>by have:=bl x hx;exact decide_eq_true (by omega))
    omega)
  unfold parking;rw[decide_eq_true (by omega),Bool.true_and,Bool.and_eq_true,List.all_eq_true,Bool.not_eq_true',decide_eq_false_iff_not];exact ⟨λx hx=>by have:=hb x hx;exact decide_eq_true (by omega),hp⟩
 · cases h
theorem vD{l:List Int}(h:parking l=true):∀x∈sdrive (l.length:Int) [] l,0<=x/\x<(l.length:Int):=by
 intro x hx;obtain ⟨i,hi,rfl⟩:=List.getElem_of_mem hx
 have hlen:(sdrive (l.length:Int) [] l).length=l.length:=by rw[mG];simp
 have hb:=parking_in h l[i] (List.getElem_mem (by omega));have h1:=yz (l.length:Int) l [] i (by omega) (by simp;omega);simp only[List.length_nil,Nat.zero_add]at h1
 have hlt:(sdrive (l.length:Int) [] l)[i]<(l.length:Int):=by
  rcases tF (l.length:Int) (by omega) l [] _ hx with h2|h2
  · simp at h2
  · exact h2
 rcases h1 with h1|h1
 · exact absurd (h1▸hx) (qm h)
 · omega
theorem xH{l:List Int}(h:parking l=true):∀x∈dists l,0<=x/\x<=8:=by
 intro x hx;refine ⟨EP h x hx,?_⟩;unfold dists dst at hx;rw[List.mem_map]at hx;obtain ⟨i,hi,rfl⟩:=hx;have hi:=List.mem_range.1 hi
 have hlen:(sdrive (l.length:Int) [] l).length=l.length:=by rw[mG];simp
 have h8:=parking_cars h;have h1:=vD h _ (List.getElem_mem (show i<(sdrive (l.length:Int) [] l).length by omega));have hb:=parking_in h l[i] (List.getElem_mem hi);rw[dn _ i (by omega),dn l i hi,wrap64_in _ (by omega) (by omega)];omega
theorem EI(l:List Int)(c:Int):∀ (d j:Nat) (out:List Int),c∈lL l d j out->c∈out\/((j:Int)<=c/\c<((j+d:Nat):Int)):=by
 intro d
 induction d with
 | zero=>intro j out h;exact .inl h
 | succ d ih =>
  intro j out h;rw[lL]at h
  rcases ih _ _ h with h|h
  ·
   split at h
   ·
    rw[List.mem_append,List.mem_singleton]at h
    rcases h with h|h
    · exact .inl h
    · right;omega
   · exact .inl h
  · right;omega
theorem wP(l:List Int):∀c∈cutsL l,0<=c/\c<=(l.length:Int):=by
 intro c hc
 rcases EI l c _ _ _ hc with h|h
 · cases h
 · omega
theorem xh{n m:Int}(h:nU n=some m):0<=m/\m<=43046721:=by
 unfold nU at h
 split at h
 ·
  cases h;have:=sM n.toNat (by omega) n.toNat [] (by simp) (λx hx=>by cases hx);omega
 · cases h
theorem FJ:∀n:Fin 9,0<=rd backT (n.1:Int)/\rd backT (n.1:Int)<=27:=by decide +kernel
theorem yB{n m:Int}(h:backL n=some m):0<=m/\m<=27:=by
 unfold backL at h
 split at h
 ·
  cases h;have:=FJ ⟨n.toNat,by omega⟩;simp only[show ((n.toNat:Nat):Int)=n by omega]at this;exact this
 · cases h
def clsO(l:List Int):Option (List Int):=if circ l=true then some (pU l)else none
theorem yh{l m:List Int}(h:clsO l=some m):m.length<=8/\∀x∈m,0<=x/\x<=9:=by
 unfold clsO at h
 split at h
 ·
  rename_i hc
  cases h;have h1:=EF hc;have h2:=circ_in hc;exact ⟨h1.1,λx hx=>by have:=h1.2 x hx;omega⟩
 · cases h
def dom:aN where
 park:=parking
 tab:=table
 next l:=jQ (l.length:Int) (rankL l+1)
 at_:=jQ
 cars l:=sdrive (l.length:Int) [] l
 far:=dists
 cuts:=cutsL
 rank:=rankL
 join:=joinL
 cls:=clsO
 count:=nU
 back:=backL
 empty:=emptyL
 ins:=insL
 rem:=remK
 find:=findL
 cost:=costL
theorem dom_good:Hand.Good dom where
 park l h:=⟨parking_cars h,λx hx=>by have h1:=parking_in h x hx;have h2:=parking_cars h;omega⟩
 tab t h:=by
  rw[show dom.tab t=table t from rfl,table_iff]at h;exact ⟨h.fit.len,λx hx=>by obtain ⟨n,hn,rfl⟩:=uJ hx;exact h.fit.inn n hn⟩
 next l l' _ h:=v_ h
 at_ n r l' h:=v_ h
 join l m l' h:=G9 h
 empty n t h:=GX h
 ins t n t' a ht h:=by have:=ins_ok ht h;exact ⟨this.1,by unfold bJ;omega⟩
 rem t n t' ht h:=Jk ht h
 find t n a c ht h:=find_ok ht h
 cars l h:=⟨by have:=parking_cars h;show (sdrive (l.length:Int) [] l).length<=10000;rw[mG];simp;omega,λx hx=>by have h1:=vD h x hx;have h2:=parking_cars h;unfold bJ;omega⟩
 far l h:=⟨by have:=parking_cars h;show (dists l).length<=10000;unfold dists;rw[mV];omega,λx hx=>by have h1:=xH h x hx;unfold bJ;omega⟩
 cuts l h:=⟨by have:=parking_cars h;have:=DU l;show (cutsL l).length<=10000;omega,λx hx=>by have h1:=wP l x hx;have h2:=parking_cars h;unfold bJ;omega⟩
 cls l m h:=by have:=yh h;exact ⟨by omega,λx hx=>by have:=this.2 x hx;unfold bJ;omega⟩
 rank l h:=by have:=rV h;show bJ (rankL l);unfold bJ;omega
 count n m h:=by have:=xh h;unfold bJ;omega
 back n m h:=by have:=yB h;unfold bJ;omega
 cost t h:=by
  rw[show dom.tab t=table t from rfl,table_iff]at h;have:=yV h;show bJ (costL t);unfold bJ;omega
theorem dom_pos:Hand.Pos dom where
 cars l h x hx:=(vD h x hx).1
 far l h x hx:=(xH h x hx).1
 cuts l h x hx:=(wP l x hx).1
 cls l m h x hx:=((yh h).2 x hx).1
 rank l h:=(rV h).1
 count n m h:=(xh h).1
 back n m h:=(yB h).1
 cost t h:=by
  rw[show dom.tab t=table t from rfl,table_iff]at h;exact (yV h).1
 ins t n t' a ht h:=(ins_ok ht h).2.1
theorem dom_park0:dom.park [0]=true:=by decide +kernel
theorem dom_first:dom.tab firstT=true:=by decide +kernel
open PAll
theorem EK:∀n:Fin 9,∀k:Fin 9,k.1<=n.1->fQ.f 60 (n.1:Int) (k.1:Int)=some (bin n.1 k.1:Int):=by decide +kernel
theorem Ex(n k:Nat)(hn:n<=8)(hk:k<=n):Ev (λq=>fQ.f q (n:Int) (k:Int)) (bin n k:Int) :=
 Ev.of (k:=60) (λq=>fQ.mono _ _ q) (EK ⟨n,by omega⟩ ⟨k,by omega⟩ hk)
theorem IQ:∀n:Fin 9,∀k:Fin 9,k.1<=n.1->fP.f 60 (n.1:Int) (k.1:Int)=some (bin n.1 k.1:Int):=by decide +kernel
theorem Jp(n k:Nat)(hn:n<=8)(hk:k<=n):Ev (λq=>fP.f q (n:Int) (k:Int)) (bin n k:Int) :=
 Ev.of (k:=60) (λq=>fP.mono _ _ q) (IQ ⟨n,by omega⟩ ⟨k,by omega⟩ hk)
theorem own_eq(l:List Int)(hs:l.length<=1099511627776):fH.f l=some l:=by
 unfold fH.f;simp only[Option.bind_some,List.nil_append];rw[if_pos (by simp;omega)]
theorem sW(l:List Int)(hs:l.length<=1099511627776):iw.f l=some l:=by
 unfold iw.f;rw[if_pos (by omega)]
theorem Jj(n:Nat)(l:List Int)(left:Nat)(hleft:left<=8)(own w:Int)(hf:0<=own/\own<=1000)(v:Nat)(kk:Nat)(hk:kk<=left)(wl:List Int)(r:Int):∀ (d m:Nat) (nxt:List Int),m+d=left - kk+1->nxt.length=left+1 ->
  Ev (λk=>bH.l1 k l (left:Int) own (inn left own ((v:Int)+1) w kk d m nxt) (n:Int) (v:Int) wl (wl.length:Int) ((kk+1:Nat):Int) (v:Int)) r ->
  Ev (λk=>bH.l2 k l (left:Int) own nxt (kk:Int) w (m:Int) (n:Int) (v:Int) wl (wl.length:Int) (kk:Int) (v:Int)) r:=by
 intro d
 induction d with
 | zero =>
  intro m nxt hm hn hg;refine Ev.step (λk=>?_) hg;rw[bH.l2,wrap64_in ((kk:Int)+(m:Int)) (by omega) (by omega),if_neg (by omega),bX kk (by omega)];rfl
 | succ d ih =>
  intro m nxt hm hn hg
  have e1:wrap64 ((kk:Int)+(m:Int))=((kk+m:Nat):Int):=by rw[wrap64_in _ (by omega) (by omega)];omega
  have e2:wrap64 ((wrap64 (own+(kk:Int)))+(m:Int))=own+(kk:Int)+(m:Int):=by rw[wrap64_in (own+(kk:Int)) (by omega) (by omega),wrap64_in _ (by omega) (by omega)]
  have e3:wrap64 ((left:Int) - (kk:Int))=((left - kk:Nat):Int):=by rw[wrap64_in _ (by omega) (by omega)];omega
  rw[inn]at hg
  by_cases hc:own+(kk:Int)+(m:Int) >= (v:Int)+1
  ·
   rw[if_pos hc]at hg;refine Ev.step (f:=?f1) (λk=>?h1) ?g1
   case h1=>rw[bH.l2,e1,e2,e3,if_pos (by omega),if_pos (by omega),if_pos (by omega),if_pos (by omega),Int.toNat_natCast,bX m (by omega)]
   exact Ev.bind (Ex (left - kk) m (by omega) (by omega)) (ih (m+1) _ (by omega) (by simpa using hn) hg)
  ·
   rw[if_neg hc]at hg;refine Ev.step (λk=>?_) (ih (m+1) _ (by omega) hn hg);rw[bH.l2,e1,e2,if_pos (by omega),if_neg (by omega),bX m (by omega)]
theorem Gc(n:Nat)(l:List Int)(left:Nat)(hleft:left<=8)(own:Int)(hf:0<=own/\own<=1000)(v:Nat)(hv1:(v:Int)<1000)(wl:List Int)(hw:wl.length=left+1)(r:Int):∀ (d kk:Nat) (nxt:List Int),kk+d=left+1->nxt.length=left+1 ->
  Ev (λk=>bH.l0 k l (left:Int) (kH left own ((v:Int)+1) wl d kk nxt) (n:Int) ((v+1:Nat):Int)) r ->
  Ev (λk=>bH.l1 k l (left:Int) own nxt (n:Int) (v:Int) wl (wl.length:Int) (kk:Int) (v:Int)) r:=by
 intro d
 induction d with
 | zero =>
  intro kk nxt hm hn hg;refine Ev.step (λk=>?_) hg;rw[bH.l1,if_neg (by omega),bX v (by omega)];rfl
 | succ d ih =>
  intro kk nxt hm hn hg;rw[kH]at hg;refine Ev.step (f:=?f1) (λk=>?h1) ?g1
  case h1=>rw[bH.l1,if_pos (by omega),if_pos (by omega),if_pos (by omega)]
  exact Jj n l left hleft own (rd wl (kk:Int)) hf v kk (by omega) wl r (left - kk+1) 0 nxt (by omega) hn (ih (kk+1) _ (by omega) (by rw[qp];exact hn) hg)
theorem Ee(n:Nat)(hn:n<=8)(l:List Int)(left:Nat)(hleft:left<=8)(hl:l.length<=8):∀ (d v:Nat) (wl:List Int),v+d=n->wl.length=left+1 ->
  Ev (λk=>bH.l0 k l (left:Int) wl (n:Int) (v:Int)) (rd (dp left (λv=>upTo l (v:Int)) (λv=>(v:Int)+1) d v wl) (left:Int)):=by
 intro d
 induction d with
 | zero =>
  intro v wl hd hw;refine Ev.step (f:=λ_=>some (rd wl (left:Int))) (λk=>?_) (Ev.now _);rw[bH.l0,if_neg (by omega),if_pos (by omega),if_pos (by omega)]
 | succ d ih =>
  intro v wl hd hw;have hu:=pR l (v:Int);have e2:wrap64 ((left:Int)+1)=((left+1:Nat):Int):=bX left (by omega);rw[dp];refine Ev.step (f:=?f1) (λk=>?h1) ?g1
  case h1=>rw[bH.l0,if_pos (by omega),pK.f,Option.bind_some,e2,if_pos (by omega),if_pos (by omega),Int.toNat_natCast]
  exact Gc n l left hleft (upTo l (v:Int)) (by omega) v (by omega) wl hw _ (left+1) 0 (List.replicate (left+1) 0) (by omega) (by simp) (ih (v+1) _ (by omega) (by rw[uU];simp))
theorem vU(l:List Int)(n:Nat)(hn:n<=8)(hl:l.length<=n):Ev (λk=>bH.f k l (n:Int)) (lQ l n):=by
 obtain ⟨left,hleft⟩:∃left:Nat,left=n - l.length:=⟨_,rfl⟩
 have e1:wrap64 ((n:Int) - (l.length:Int))=(left:Int):=by rw[wrap64_in _ (by omega) (by omega)];omega
 have e2:wrap64 ((left:Int)+1)=((left+1:Nat):Int):=bX left (by omega);unfold bH.f;rw[e1,e2];refine Ev.pos (by omega) (Ev.pos (by omega) (Ev.bindc rfl (Ev.pos (by simp) ?_)));have h0:=Ee n hn l left (by omega) (by omega) n 0 (1 :: List.replicate left 0) (by omega) (by simp);unfold lQ;rw[<- hleft];exact h0
theorem Dx(n:Nat)(l:List Int)(left:Nat)(hleft:left<=8)(own w:Int)(hf:0<=own/\own<=1000)(v:Nat)(kk:Nat)(hk:kk<=left)(wl:List Int)(r:Int):∀ (d m:Nat) (nxt:List Int),m+d=left - kk+1->nxt.length=left+1 ->
  Ev (λk=>bE.l2 k l (n:Int) (left:Int) own (v:Int) (inn left own ((v:Int)+1) w kk d m nxt) wl (wl.length:Int) ((kk+1:Nat):Int)) r ->
  Ev (λk=>bE.l3 k l (n:Int) (left:Int) own (v:Int) nxt (kk:Int) w (m:Int) wl (wl.length:Int) (kk:Int)) r:=by
 intro d
 induction d with
 | zero =>
  intro m nxt hm hn hg;refine Ev.step (λk=>?_) hg;rw[bE.l3,wrap64_in ((kk:Int)+(m:Int)) (by omega) (by omega),if_neg (by omega),bX kk (by omega)];rfl
 | succ d ih =>
  intro m nxt hm hn hg
  have e1:wrap64 ((kk:Int)+(m:Int))=((kk+m:Nat):Int):=by rw[wrap64_in _ (by omega) (by omega)];omega
  have e2:wrap64 ((wrap64 (own+(kk:Int)))+(m:Int))=own+(kk:Int)+(m:Int):=by rw[wrap64_in (own+(kk:Int)) (by omega) (by omega),wrap64_in _ (by omega) (by omega)]
  have e3:wrap64 ((left:Int) - (kk:Int))=((left - kk:Nat):Int):=by rw[wrap64_in _ (by omega) (by omega)];omega
  rw[inn]at hg
  by_cases hc:own+(kk:Int)+(m:Int) >= (v:Int)+1
  ·
   rw[if_pos hc]at hg;refine Ev.step (f:=?f1) (λk=>?h1) ?g1
   case h1=>rw[bE.l3,e1,e2,e3,if_pos (by omega),if_pos (by omega),if_pos (by omega),if_pos (by omega),Int.toNat_natCast,bX m (by omega)]
   exact Ev.bind (Jp (left - kk) m (by omega) (by omega)) (ih (m+1) _ (by omega) (by simpa using hn) hg)
  ·
   rw[if_neg hc]at hg;refine Ev.step (λk=>?_) (ih (m+1) _ (by omega) hn hg);rw[bE.l3,e1,e2,if_pos (by omega),if_neg (by omega),bX m (by omega)]
theorem GN(n:Nat)(l:List Int)(left:Nat)(hleft:left<=8)(own:Int)(hf:0<=own/\own<=1000)(v:Nat)(hv1:(v:Int)<1000)(wl:List Int)(hw:wl.length=left+1)(r:Int):∀ (d kk:Nat) (nxt:List Int),kk+d=left+1->nxt.length=left+1 ->
  Ev (λk=>bE.l0 k l (n:Int) (left:Int) (kH left own ((v:Int)+1) wl d kk nxt) own ((v+1:Nat):Int)) r ->
  Ev (λk=>bE.l2 k l (n:Int) (left:Int) own (v:Int) nxt wl (wl.length:Int) (kk:Int)) r:=by
 intro d
 induction d with
 | zero =>
  intro kk nxt hm hn hg;refine Ev.step (λk=>?_) hg;rw[bE.l2,if_neg (by omega),bX v (by omega)];rfl
 | succ d ih =>
  intro kk nxt hm hn hg;rw[kH]at hg;refine Ev.step (f:=?f1) (λk=>?h1) ?g1
  case h1=>rw[bE.l2,if_pos (by omega),if_pos (by omega),if_pos (by omega)]
  exact Dx n l left hleft own (rd wl (kk:Int)) hf v kk (by omega) wl r (left - kk+1) 0 nxt (by omega) hn (ih (kk+1) _ (by omega) (by rw[qp];exact hn) hg)
theorem Cq(n:Nat)(l:List Int)(hl:l.length<=8)(left:Nat)(hleft:left<=8)(v:Nat)(wl:List Int)(r:Int)
  (hg:Ev (λk=>bE.l2 k l (n:Int) (left:Int) (upTo l (v:Int)) (v:Int) (List.replicate (left+1) 0) wl (wl.length:Int) 0) r):∀ (d i:Nat) (b:Int),i+d=l.length->b+cnt (λx=>decide (x=(v:Int))) (l.drop i)=upTo l (v:Int)->0<=b/\b<=(i:Int)+100 ->
  Ev (λk=>bE.l1 k l (n:Int) (left:Int) wl b (v:Int) l (l.length:Int) (i:Int)) r:=by
 intro d
 induction d with
 | zero =>
  intro i b hi hb hb2;rw[List.drop_eq_nil_of_le (by omega),show cnt (λx=>decide (x=(v:Int))) []=0 from rfl,Int.add_zero]at hb;refine Ev.step (λk=>?_) hg;rw[bE.l1,if_neg (by omega),bX left (by omega),if_pos (by omega),if_pos (by omega),Int.toNat_natCast,hb]
 | succ d ih =>
  intro i b hi hb hb2
  have h1:i<l.length:=by omega
  rw[List.drop_eq_getElem_cons h1,o7]at hb
  by_cases hx:l[i]=(v:Int)
  ·
   rw[if_pos (decide_eq_true hx)]at hb;refine Ev.step (λk=>?_) (ih (i+1) (b+1) (by omega) (by omega) (by omega));rw[bE.l1,if_pos (by omega),if_pos (by omega),if_pos (by omega),dn l i h1,if_pos hx,wrap64_in (b+1) (by omega) (by omega),bX i (by omega)]
  ·
   rw[if_neg (by rw[decide_eq_false hx];decide),Int.zero_add]at hb;refine Ev.step (λk=>?_) (ih (i+1) b (by omega) hb (by omega));rw[bE.l1,if_pos (by omega),if_pos (by omega),if_pos (by omega),dn l i h1,if_neg hx,bX i (by omega)]
theorem BK(n:Nat)(hn:n<=8)(l:List Int)(left:Nat)(hleft:left<=8)(hl:l.length<=8):∀ (d v:Nat) (wl:List Int),v+d=n->wl.length=left+1 ->
  Ev (λk=>bE.l0 k l (n:Int) (left:Int) wl (upTo l ((v:Int) - 1)) (v:Int)) (rd (dp left (λv=>upTo l (v:Int)) (λv=>(v:Int)+1) d v wl) (left:Int)):=by
 intro d
 induction d with
 | zero =>
  intro v wl hd hw;refine Ev.step (f:=λ_=>some (rd wl (left:Int))) (λk=>?_) (Ev.now _);rw[bE.l0,if_neg (by omega),if_pos (by omega),if_pos (by omega)]
 | succ d ih =>
  intro v wl hd hw;have hu:=pR l (v:Int);have hu1:=pR l ((v:Int) - 1);rw[dp];have h0:=ih (v+1) (kH left (upTo l (v:Int)) ((v:Int)+1) wl (left+1) 0 (List.replicate (left+1) 0)) (by omega) (by rw[uU];simp);rw[show (((v+1:Nat):Int) - 1)=(v:Int) by omega]at h0;have h2:=GN n l left hleft (upTo l (v:Int)) (by omega) v (by omega) wl hw _ (left+1) 0 (List.replicate (left+1) 0) (by omega) (by simp) h0;have h1:=Cq n l hl left hleft v wl _ h2 l.length 0 (upTo l ((v:Int) - 1)) (by omega) (by rw[List.drop_zero];exact Ci l (v:Int)) (by omega);refine Ev.step (λk=>?_) h1;rw[bE.l0,if_pos (by omega)];rfl
theorem ug(l:List Int)(n:Nat)(hn:n<=8)(hl:l.length<=n)(hx:∀x∈l,0<=x):Ev (λk=>bE.f k l (n:Int)) (lQ l n):=by
 obtain ⟨left,hleft⟩:∃left:Nat,left=n - l.length:=⟨_,rfl⟩
 have e1:wrap64 ((n:Int) - (l.length:Int))=(left:Int):=by rw[wrap64_in _ (by omega) (by omega)];omega
 have e2:wrap64 ((left:Int)+1)=((left+1:Nat):Int):=bX left (by omega);unfold bE.f;rw[e1,e2];refine Ev.pos (by omega) (Ev.pos (by omega) (Ev.bindc rfl (Ev.pos (by simp) ?_)));have h0:=BK n hn l left (by omega) (by omega) n 0 (1 :: List.replicate left 0) (by omega) (by simp);have e3:upTo l (((0:Nat):Int) - 1)=0:=G5 l hx;rw[e3]at h0;unfold lQ;rw[<- hleft];exact h0
theorem wS{l:List Int}(h8:l.length<=8){i:Nat}(hi:i<l.length)(hl:gX l l.length)(y:Nat)(hy:y<l.length):(l.take i++[(y:Int)]).length<=l.length/\gX (l.take i++[(y:Int)]) l.length:=by
 refine ⟨by rw[List.length_append,List.length_take,List.length_singleton];omega,?_⟩;have h:gX (l.take i) l.length:=λx hx=>hl x (List.mem_of_mem_take hx);exact h.snoc hy
theorem BP{l:List Int}(h8:l.length<=8)(hl:gX l l.length){i:Nat}(hi:i<l.length)(r:Int × Bool):∀ (d y:Nat) (a:Int),rd l (i:Int)=((y+d:Nat):Int)->0<=a/\a<=43046721 * (8 * (i:Int)+(y:Int)) ->
  Ev (λk=>fq.l0 k l (a+jV (l.take i) l.length d y) l (l.length:Int) ((i+1:Nat):Int)) r ->
  Ev (λk=>fq.l1 k l a (i:Int) (rd l (i:Int)) (y:Int) l (l.length:Int) (i:Int)) r:=by
 have hx:=hl _ (List.getElem_mem hi);rw[<- dn l i hi]at hx;intro d
 induction d with
 | zero =>
  intro y a hd ha hg;rw[jV,Int.add_zero]at hg;refine Ev.step (λk=>?_) hg;rw[fq.l1,if_neg (by omega),bX i (by omega)]
 | succ d ih =>
  intro y a hd ha hg;obtain ⟨g1,g2⟩:=wS h8 hi hl y (by omega);have hw:=u_ h8 g1 g2;rw[jV,<- Int.add_assoc]at hg;refine Ev.step (f:=?f1) (λk=>?h1) ?g1
  case h1=>rw[fq.l1,if_pos (by omega),if_pos (by omega),if_pos (by omega),Int.toNat_natCast,own_eq _ (by rw[List.length_take];omega),Option.bind_some,if_pos (by rw[List.length_take];omega),bX y (by omega)]
  refine Ev.bind (ug _ l.length h8 g1 (λx hx=>(g2 x hx).1)) ?_
  rw[wrap64_in _ (by omega) (by omega)];exact ih (y+1) _ (by omega) (by omega) hg
theorem Jl{l:List Int}(h8:l.length<=8)(hl:gX l l.length):∀ (d i:Nat) (a:Int),i+d=l.length->0<=a/\a<=43046721 * (8 * (i:Int)) ->
  Ev (λk=>fq.l0 k l a l (l.length:Int) (i:Int)) (a+kD l d i,true):=by
 intro d
 induction d with
 | zero =>
  intro i a hi ha;rw[kD,Int.add_zero];refine Ev.step (f:=λ_=>some (a,true)) (λk=>?_) (Ev.now _);rw[fq.l0,if_neg (by omega)]
 | succ d ih =>
  intro i a hi ha
  have h1:i<l.length:=by omega
  have hx:=hl _ (List.getElem_mem h1);rw[<- dn l i h1]at hx;have h2:=vo h8 (p:=l.take i) (by rw[List.length_take];omega) (λx hx=>hl x (List.mem_of_mem_take hx)) (rd l (i:Int)).toNat 0 (by omega);have h3:=ih (i+1) (a+jV (l.take i) l.length (rd l (i:Int)).toNat 0) (by omega) (by omega);rw[kD,<- Int.add_assoc];have h4:=BP h8 hl h1 _ (rd l (i:Int)).toNat 0 a (by omega) (by omega) h3;refine Ev.step (λk=>?_) h4;rw[fq.l0,if_pos (by omega),if_pos (by omega),if_pos (by omega)];rfl
theorem specRank_ev{l:List Int}(h:parking l=true):Ev (λk=>fq.f k l) (rankL l,true):=by
 have h2:=paParking_ev l;rw[h]at h2;unfold fq.f;refine Ev.bind h2 (Ev.pos rfl ?_);have h3:=Jl (parking_cars h) (uT h) l.length 0 0 (by omega) (by omega);rw[Int.zero_add]at h3;exact h3
theorem GJ{l:List Int}(h8:l.length<=8)(hl:gX l l.length){i:Nat}(hi:i<l.length)(r:Int):∀ (d y:Nat) (a:Int),rd l (i:Int)=((y+d:Nat):Int)->0<=a/\a<=43046721 * (8 * (i:Int)+(y:Int)) ->
  Ev (λk=>fu.l0 k l (a+jV (l.take i) l.length d y) l (l.length:Int) ((i+1:Nat):Int)) r ->
  Ev (λk=>fu.l1 k l a (i:Int) l (l.length:Int) (i:Int) (rd l (i:Int)) (y:Int)) r:=by
 have hx:=hl _ (List.getElem_mem hi);rw[<- dn l i hi]at hx;intro d
 induction d with
 | zero =>
  intro y a hd ha hg;rw[jV,Int.add_zero]at hg;refine Ev.step (λk=>?_) hg;rw[fu.l1,if_neg (by omega),bX i (by omega)]
 | succ d ih =>
  intro y a hd ha hg;obtain ⟨g1,g2⟩:=wS h8 hi hl y (by omega);have hw:=u_ h8 g1 g2;rw[jV,<- Int.add_assoc]at hg;refine Ev.step (f:=?f1) (λk=>?h1) ?g1
  case h1=>rw[fu.l1,if_pos (by omega),if_pos (by omega),if_pos (by omega),Int.toNat_natCast,sW _ (by rw[List.length_take];omega),Option.bind_some,if_pos (by rw[List.length_take];omega),bX y (by omega)]
  refine Ev.bind (vU _ l.length h8 g1) ?_
  rw[wrap64_in _ (by omega) (by omega)];exact ih (y+1) _ (by omega) (by omega) hg
theorem II{l:List Int}(h8:l.length<=8)(hl:gX l l.length):∀ (d i:Nat) (a:Int),i+d=l.length->0<=a/\a<=43046721 * (8 * (i:Int)) ->
  Ev (λk=>fu.l0 k l a l (l.length:Int) (i:Int)) (a+kD l d i):=by
 intro d
 induction d with
 | zero =>
  intro i a hi ha;rw[kD,Int.add_zero];refine Ev.step (f:=λ_=>some a) (λk=>?_) (Ev.now _);rw[fu.l0,if_neg (by omega)]
 | succ d ih =>
  intro i a hi ha
  have h1:i<l.length:=by omega
  have hx:=hl _ (List.getElem_mem h1);rw[<- dn l i h1]at hx;have h2:=vo h8 (p:=l.take i) (by rw[List.length_take];omega) (λx hx=>hl x (List.mem_of_mem_take hx)) (rd l (i:Int)).toNat 0 (by omega);have h3:=ih (i+1) (a+jV (l.take i) l.length (rd l (i:Int)).toNat 0) (by omega) (by omega);rw[kD,<- Int.add_assoc];have h4:=GJ h8 hl h1 _ (rd l (i:Int)).toNat 0 a (by omega) (by omega) h3;refine Ev.step (λk=>?_) h4;rw[fu.l0,if_pos (by omega),if_pos (by omega),if_pos (by omega)];rfl
theorem wH{l:List Int}(h:parking l=true):Ev (λk=>fu.f k l) (rankL l):=by
 unfold fu.f;have h3:=II (parking_cars h) (uT h) l.length 0 0 (by omega) (by omega);rw[Int.zero_add]at h3;exact h3
theorem implRankParking_ev{l:List Int}(h:parking l=true):Ev (λk=>oV.f k l) (rankL l,true):=by
 have h2:=isParking_ev l;rw[h]at h2;unfold oV.f;exact Ev.bind h2 (Ev.pos rfl (Ev.bind (wH h) (Ev.now _)))
theorem at_next{n:Nat}(hn:n<=8){d:Nat}(p:List Int)(hp:p.length+(d+1)=n)(hl:gX p n)(s:List Int)
  (go:∀ (x r:Nat),x<n->r<=1000000000->(dK n d (p++[(x:Int)]))[r]?=some s->Ev (λk=>fD.l0 k (n:Int) (r:Int) (p++[(x:Int)])) s) :
  ∀ (e x r:Nat),x+e=n->r<=1000000000->(jG (λx=>dK n d (p++[(x:Int)])) x e)[r]?=some s->Ev (λk=>fD.l1 k (n:Int) (r:Int) p (x:Int)) s:=by
 intro e
 induction e with
 | zero=>intro x r hx hr h;simp[jG]at h
 | succ e ih =>
  intro x r hx hr h;have hc:=vU (p++[(x:Int)]) n (by omega) (by simp;omega);have hw:=su n hn (p++[(x:Int)]) d (by simp;omega) (hl.snoc (by omega));rw[jG]at h;refine Ev.step (f:=?f1) (λk=>?h1) ?g1
  case h1=>rw[fD.l1,sW p (by omega),Option.bind_some,if_pos (by omega)]
  refine Ev.bind hc ?_
  by_cases hlt:r<(dK n d (p++[(x:Int)])).length
  ·
   rw[List.getElem?_append_left hlt]at h;exact Ev.pos (by omega) (Ev.pos (by omega) (go x r (by omega) hr h))
  ·
   rw[List.getElem?_append_right (by omega)]at h
   refine Ev.neg (by omega) ?_
   rw[bX x (by omega),wrap64_in _ (by omega) (by omega),hw,show (r:Int) - ((dK n d (p++[(x:Int)])).length:Int)=((r - (dK n d (p++[(x:Int)])).length:Nat):Int) by omega];exact ih (x+1) _ (by omega) (by omega) h
theorem BJ{n:Nat}(hn:n<=8)(s:List Int):∀ (d:Nat) (p:List Int) (r:Nat),p.length+d=n->gX p n->r<=1000000000->(dK n d p)[r]?=some s->Ev (λk=>fD.l0 k (n:Int) (r:Int) p) s:=by
 intro d
 induction d with
 | zero =>
  intro p r hp hl hr h;rw[dK]at h
  split at h
  ·
   have e:s=p:=by
    cases r with
    | zero=>simpa using h.symm
    | succ r=>simp at h
   subst e;refine Ev.step (f:=λ_=>some s) (λk=>?_) (Ev.now _);rw[fD.l0,if_neg (by omega)]
  · simp at h
 | succ d ih =>
  intro p r hp hl hr h;rw[dK]at h;have h2:=at_next hn p hp hl s (λx r hx hr=>ih (p++[(x:Int)]) r (by simp;omega) (hl.snoc hx) hr) n 0 r (by omega) hr h;refine Ev.step (λk=>?_) h2;rw[fD.l0,if_pos (by omega)];rfl
theorem CY{n:Nat}(hn:n<=8){d:Nat}(p:List Int)(hp:p.length+(d+1)=n)(hl:gX p n)(s:List Int)
  (go:∀ (x r:Nat),x<n->r<=1000000000->(dK n d (p++[(x:Int)]))[r]?=some s->Ev (λk=>fB.l0 k (n:Int) (r:Int) (p++[(x:Int)])) s) :
  ∀ (e x r:Nat),x+(e+1)=n->r<=1000000000->(jG (λx=>dK n d (p++[(x:Int)])) x (e+1))[r]?=some s->Ev (λk=>fB.l1 k (n:Int) (r:Int) p (x:Int) (lQ (p++[(x:Int)]) n)) s:=by
 intro e
 induction e with
 | zero =>
  intro x r hx hr h;have hw:=su n hn (p++[(x:Int)]) d (by simp;omega) (hl.snoc (by omega));rw[jG,jG,List.append_nil]at h;have hlt:r<(dK n d (p++[(x:Int)])).length:=(List.getElem?_eq_some_iff.1 h).1;refine Ev.step (λk=>?_) (go x r (by omega) hr h);rw[fB.l1,if_neg (by omega),if_pos (by omega)]
 | succ e ih =>
  intro x r hx hr h;have hc:=ug (p++[((x+1:Nat):Int)]) n (by omega) (by simp;omega) (λy hy=>((hl.snoc (show x+1<n by omega)) y hy).1);have hw:=su n hn (p++[(x:Int)]) d (by simp;omega) (hl.snoc (by omega));rw[jG]at h
  by_cases hlt:r<(dK n d (p++[(x:Int)])).length
  ·
   rw[List.getElem?_append_left hlt]at h;refine Ev.step (λk=>?_) (go x r (by omega) hr h);rw[fB.l1,if_neg (by omega),if_pos (by omega)]
  ·
   rw[List.getElem?_append_right (by omega)]at h;refine Ev.step (f:=?f1) (λk=>?h1) ?g1
   case h1=>rw[fB.l1,if_pos (by omega),own_eq p (by omega),Option.bind_some,if_pos (by omega),bX x (by omega)]
   refine Ev.bind hc ?_
   rw[wrap64_in _ (by omega) (by omega),hw,show (r:Int) - ((dK n d (p++[(x:Int)])).length:Int)=((r - (dK n d (p++[(x:Int)])).length:Nat):Int) by omega];exact ih (x+1) _ (by omega) (by omega) h
theorem Ar{n:Nat}(hn:n<=8)(s:List Int):∀ (d:Nat) (p:List Int) (r:Nat),p.length+d=n->gX p n->r<=1000000000->(dK n d p)[r]?=some s->Ev (λk=>fB.l0 k (n:Int) (r:Int) p) s:=by
 intro d
 induction d with
 | zero =>
  intro p r hp hl hr h;rw[dK]at h
  split at h
  ·
   have e:s=p:=by
    cases r with
    | zero=>simpa using h.symm
    | succ r=>simp at h
   subst e;refine Ev.step (f:=λ_=>some s) (λk=>?_) (Ev.now _);rw[fB.l0,if_neg (by omega)]
  · simp at h
 | succ d ih =>
  intro p r hp hl hr h;rw[dK,show jG (λx=>dK n d (p++[(x:Int)])) 0 n=jG (λx=>dK n d (p++[(x:Int)])) 0 (n - 1+1) by rw[show n - 1+1=n by omega]]at h;have h2:=CY hn p hp hl s (λx r hx hr=>ih (p++[(x:Int)]) r (by simp;omega) (hl.snoc hx) hr) (n - 1) 0 r (by omega) hr h;have hc:=ug (p++[((0:Nat):Int)]) n (by omega) (by simp;omega) (λy hy=>((hl.snoc (show 0<n by omega)) y hy).1);refine Ev.step (f:=?f1) (λk=>?h1) ?g1
  case h1=>rw[fB.l0,if_pos (by omega),own_eq p (by omega),Option.bind_some,if_pos (by omega)]
  exact Ev.bind hc h2
theorem zf:∀n:Fin 9,jC.f 60 (n.1:Int)=some (DD (jX []) lu n.1 n.1 n.1:Int)/\jk.f 60 (n.1:Int)=some (DD (jX []) lu n.1 n.1 n.1:Int):=by decide +kernel
theorem zW(n:Nat)(hn:n<=8):Ev (λk=>jC.f k (n:Int)) ((dK n n []).length:Int):=by
 rw[sO n (by omega) n [] (by simp) (λx hx=>by cases hx)];exact Ev.of (k:=60) (λk=>jC.mono _ k) (zf ⟨n,by omega⟩).1
theorem xX(n:Nat)(hn:n<=8):Ev (λk=>jk.f k (n:Int)) ((dK n n []).length:Int):=by
 rw[sO n (by omega) n [] (by simp) (λx hx=>by cases hx)];exact Ev.of (k:=60) (λk=>jk.mono _ k) (zf ⟨n,by omega⟩).2
theorem tZ(n:Int):ji.f n=some (decide (0<=n/\n<=8)):=by
 unfold ji.f;rw[between_eq];rfl
theorem yF(n:Int):kF.f n=some (decide (0<=n/\n<=8)):=by
 unfold kF.f;rw[l1In_eq];rfl
def rowO(o:Option (List Int)):List Int × Bool:=(o.getD [],o.isSome)
def numO(o:Option Int):Int × Bool:=(o.getD 0,o.isSome)
theorem implCount_ev(n:Int):Ev (λk=>oM.f k n) (numO (nU n)):=by
 unfold oM.f nU numO
 refine Ev.bindc (tZ n) ?_
 by_cases h:0<=n/\n<=8
 ·
  rw[decide_eq_true h,if_pos h];have h2:=zW n.toNat (by omega);rw[show ((n.toNat:Nat):Int)=n by omega]at h2;exact Ev.pos rfl (Ev.bind h2 (Ev.now _))
 ·
  rw[decide_eq_false h,if_neg h];exact Ev.neg (by decide) (Ev.now _)
theorem specCount_ev(n:Int):Ev (λk=>oW.f k n) (numO (nU n)):=by
 unfold oW.f nU numO
 refine Ev.bindc (yF n) ?_
 by_cases h:0<=n/\n<=8
 ·
  rw[decide_eq_true h,if_pos h];have h2:=xX n.toNat (by omega);rw[show ((n.toNat:Nat):Int)=n by omega]at h2;exact Ev.pos rfl (Ev.bind h2 (Ev.now _))
 ·
  rw[decide_eq_false h,if_neg h];exact Ev.neg (by decide) (Ev.now _)
theorem ze{n r:Int}(hn:0<=n/\n<=8)(hr:0<=r/\r<=((dK n.toNat n.toNat []).length:Int) - 1):∃s,jQ n r=some s/\(dK n.toNat n.toNat [])[r.toNat]?=some s:=by
 have h:r.toNat<(dK n.toNat n.toNat []).length:=by omega
 exact ⟨_,by unfold jQ;rw[if_pos ⟨hn,hr.1⟩,List.getElem?_eq_getElem h],List.getElem?_eq_getElem h⟩
theorem yD{n r:Int}(h:¬ (0<=r/\r<=((dK n.toNat n.toNat []).length:Int) - 1)):jQ n r=none:=by
 unfold jQ
 by_cases hr:0<=r
 ·
  have:(dK n.toNat n.toNat [])[r.toNat]?=none:=List.getElem?_eq_none (by omega);rw[this]
  split <;> rfl
 · rw[if_neg (λh2=>hr h2.2)]
theorem implAt_ev(n r:Int):Ev (λk=>mi.f k n r) (rowO (jQ n r)):=by
 unfold mi.f
 refine Ev.bindc (tZ n) ?_
 by_cases h:0<=n/\n<=8
 ·
  rw[decide_eq_true h]
  have hN:((n.toNat:Nat):Int)=n:=by omega
  have h2:=zW n.toNat (by omega);rw[hN]at h2;have hle:=sM n.toNat (by omega) n.toNat [] (by simp) (λx hx=>by cases hx);refine Ev.pos rfl (Ev.bind h2 (Ev.bindc (between_eq _ _ _) ?_));rw[wrap64_in _ (by omega) (by omega)]
  by_cases hr:0<=r/\r<=((dK n.toNat n.toNat []).length:Int) - 1
  ·
   rw[decide_eq_true hr];obtain ⟨s,h3,h4⟩:=ze h hr;rw[h3];have h5:=BJ (show n.toNat<=8 by omega) s n.toNat [] r.toNat (by simp) (λx hx=>by cases hx) (by omega) h4;rw[hN,show ((r.toNat:Nat):Int)=r by omega]at h5;refine Ev.pos rfl (Ev.bind (a:=s) ?_ (Ev.now _));unfold fD.f;exact h5
  ·
   rw[decide_eq_false hr,yD hr];exact Ev.neg (by decide) (Ev.now _)
 ·
  rw[decide_eq_false h];unfold jQ;rw[if_neg (λh2=>h h2.1)];exact Ev.neg (by decide) (Ev.now _)
theorem specAt_ev(n r:Int):Ev (λk=>mH.f k n r) (rowO (jQ n r)):=by
 unfold mH.f
 refine Ev.bindc (yF n) ?_
 by_cases h:0<=n/\n<=8
 ·
  rw[decide_eq_true h]
  have hN:((n.toNat:Nat):Int)=n:=by omega
  have h2:=xX n.toNat (by omega);rw[hN]at h2;have hle:=sM n.toNat (by omega) n.toNat [] (by simp) (λx hx=>by cases hx);refine Ev.pos rfl (Ev.bind h2 (Ev.bindc (l1In_eq _ _ _) ?_));rw[wrap64_in _ (by omega) (by omega)]
  by_cases hr:0<=r/\r<=((dK n.toNat n.toNat []).length:Int) - 1
  ·
   rw[decide_eq_true hr];obtain ⟨s,h3,h4⟩:=ze h hr;rw[h3];have h5:=Ar (show n.toNat<=8 by omega) s n.toNat [] r.toNat (by simp) (λx hx=>by cases hx) (by omega) h4;rw[hN,show ((r.toNat:Nat):Int)=r by omega]at h5;refine Ev.pos rfl (Ev.bind (a:=s) ?_ (Ev.now _));unfold fB.f;exact h5
  ·
   rw[decide_eq_false hr,yD hr];exact Ev.neg (by decide) (Ev.now _)
 ·
  rw[decide_eq_false h];unfold jQ;rw[if_neg (λh2=>h h2.1)];exact Ev.neg (by decide) (Ev.now _)
theorem implNext_ev{l:List Int}(h:parking l=true):Ev (λk=>oP.f k l) (rowO (jQ (l.length:Int) (rankL l+1))):=by
 have h2:=isParking_ev l;rw[h]at h2;have h3:=rV h;have h4:=implAt_ev (l.length:Int) (rankL l+1);unfold oP.f;refine Ev.bind h2 (Ev.pos rfl (Ev.bind (wH h) ?_));rw[wrap64_in _ (by omega) (by omega)];exact Ev.bind h4 (Ev.now _)
theorem specNext_ev{l:List Int}(h:parking l=true):Ev (λk=>pz.f k l) (rowO (jQ (l.length:Int) (rankL l+1))):=by
 have h3:=rV h;have h4:=specAt_ev (l.length:Int) (rankL l+1);unfold pz.f;refine Ev.bind (specRank_ev h) (Ev.pos rfl ?_);rw[wrap64_in _ (by omega) (by omega)];exact Ev.bind h4 (Ev.now _)
end Go.Proofs.YtjdlhefjgceabaaGreatDoor.Plain
