/- Tables: what the program's isTable and the reference's prGood come to. Conditions: lengths below 2^40. -/
import Derived.Test.YtjdlhefjgceabaaGreatDoorPAllA3
import Derived.Test.YtjdlhefjgceabaaGreatDoorPAllC3
import Derived.Test.YtjdlhefjgceabaaGreatDoorBs3
import Derived.Test.YtjdlhefjgceabaaGreatDoorCb3
import Derived.Test.YtjdlhefjgceabaaGreatDoorPAllD3
import Derived.Test.YtjdlhefjgceabaaGreatDoorPAllB3
namespace Go.Proofs.YtjdlhefjgceabaaGreatDoor.Plain
open Go.RowKit Go.Proofs.YtjdlhefjgceabaaGreatDoorW.PrintWords Go.Proofs.YtjdlhefjgceabaaGreatDoorW.PrintLast Go.Proofs.YtjdlhefjgceabaaGreatDoor.Hand Go.Proofs.YtjdlhefjgceabaaGreatDoor.PAll
set_option linter.unusedVariables false
theorem index_l0 (l:List Int) (x:Int) (hs:l.length<=1099511627776):∀ (d n:Nat),n + d = l.length ->
  ∃ r:Int,(decide (r >= 0) = decide (x ∈ l.drop n))/\Ev (fun k=>slices_Index_int_int.l0 k l x (l.length:Int) (n:Int)) r:=by
 intro d
 induction d with
 | zero =>
  intro n hn;refine ⟨-1,?_,Ev.step (f:=fun _=>some (-1)) (fun k=>?_) (Ev.now _)⟩
  ·
   rw [List.drop_eq_nil_of_le (by omega)];simp
  · rw [slices_Index_int_int.l0,if_neg (by omega)]
 | succ d ih =>
  intro n hn
  have h1:n < l.length:=by omega
  rw [List.drop_eq_getElem_cons h1]
  by_cases hx:x = l[n]
  ·
   refine ⟨(n:Int),?_,Ev.step (f:=fun _=>some (n:Int)) (fun k=>?_) (Ev.now _)⟩
   · rw [decide_eq_true (by omega),decide_eq_true (by rw [hx];exact List.mem_cons_self)]
   · rw [slices_Index_int_int.l0,if_pos (by omega),if_pos (by omega),if_pos (by omega),rd_nat l n h1,if_pos hx]
  ·
   obtain ⟨r,hr,he⟩:=ih (n + 1) (by omega);refine ⟨r,?_,Ev.step (f:=fun k=>slices_Index_int_int.l0 k l x (l.length:Int) ((n + 1:Nat):Int)) (fun k=>?_) he⟩
   · rw [hr,mem_skip _ (fun e=>hx e.symm)]
   · rw [slices_Index_int_int.l0,if_pos (by omega),if_pos (by omega),if_pos (by omega),rd_nat l n h1,if_neg hx,wrap_succ n (by omega)]
theorem contains_ev (l:List Int) (x:Int) (hs:l.length<=1099511627776):Ev (fun k=>slices_Contains_int_int.f k l x) (decide (x ∈ l)):=by
 obtain ⟨r,hr,he⟩:=index_l0 l x hs l.length 0 (by omega);rw [List.drop_zero] at hr;unfold slices_Contains_int_int.f slices_Index_int_int.f;rw [<- hr];exact Ev.bind he (Ev.now _)
theorem tmod_nat (a b:Nat):Int.tmod (a:Int) (b:Int) = ((a % b:Nat):Int):=(Int.ofNat_tmod a b).symm
theorem pos_eq {N i K c m:Nat} (hi:i < N) (hc:c = (i + N - K % N) % N) (hm:m < c):(i + N - (c - m)) % N = (K + m) % N:=by
 have hh:K % N < N:=Nat.mod_lt _ (by omega);rw [<- Nat.mod_add_mod K N m]
 generalize K % N = h at hh hc ⊢
 by_cases hle:h<=i
 ·
  have e:c = i - h:=by rw [hc,show i + N - h = (i - h) + N by omega,Nat.add_mod_right,Nat.mod_eq_of_lt (by omega)]
  rw [show i + N - (c - m) = (h + m) + N by omega,Nat.add_mod_right]
 ·
  have e:c = i + N - h:=by rw [hc,Nat.mod_eq_of_lt (by omega)]
  rw [show i + N - (c - m) = h + m by omega]
def cost (N i K:Nat):Nat:=(i + N - K % N) % N
theorem cost_lt {N i K:Nat} (hN:0 < N):cost N i K < N:=Nat.mod_lt _ hN
theorem cost_eq {N i K:Nat} (hN:0 < N) (h12:N<=12) (hi:i < N):Int.tmod (wrap64 ((wrap64 ((i:Int) - (Int.tmod (K:Int) (N:Int)))) + (N:Int))) (N:Int) = (cost N i K:Int):=by
 have hh:K % N < N:=Nat.mod_lt _ hN;rw [tmod_nat,wrap64_in ((i:Int) - ((K % N:Nat):Int)) (by omega) (by omega),wrap64_in _ (by omega) (by omega)];rw [show (i:Int) - ((K % N:Nat):Int) + (N:Int) = ((i + N - K % N:Nat):Int) by omega,tmod_nat];rfl
def inner (l:List Int) (K:Nat):Nat->Nat->Bool
 | 0,_=>true
 | d + 1,m=>if rd l (((K + m) % l.length:Nat):Int) = -1 then false else inner l K d (m + 1)
def outer (l:List Int):Nat->Nat->Bool
 | 0,_=>true
 | d + 1,i=>if rd l (i:Int) = -1 then outer l d (i + 1) else if rd l (i:Int) ∈ l.take i then false else if inner l (rd l (i:Int)).toNat (cost l.length i (rd l (i:Int)).toNat) 0 = true then outer l d (i + 1) else false
structure Fit (l:List Int):Prop where
 two:2<=l.length
 len:l.length<=12
 inn:∀ n:Nat,n < l.length->-1<=rd l (n:Int)/\rd l (n:Int)<=999
theorem spec_l1 {l:List Int} (hf:Fit l) (i:Nat) (hi:i < l.length) (K:Nat) (r:Bool) (hg:Ev (fun k=>spec_prGood.l0 k (l.length:Int) l (l.length:Int) ((i + 1:Nat):Int) l) r):∀ (d m:Nat),m + d = cost l.length i K ->
  Ev (fun k=>spec_prGood.l1 k (l.length:Int) (i:Int) (d:Int) l (l.length:Int) (i:Int) l) (if inner l K d m = true then r else false):=by
 have h2:=hf.two;have h12:=hf.len;have hcl:=cost_lt (i:=i) (K:=K) (show 0 < l.length by omega);intro d
 induction d with
 | zero =>
  intro m hm;rw [inner,if_pos rfl];refine Ev.step (fun k=>?_) hg;rw [spec_prGood.l1,if_neg (by omega),wrap_succ i (by omega)]
 | succ d ih =>
  intro m hm;have hp:(i + l.length - (cost l.length i K - m)) % l.length = (K + m) % l.length:=pos_eq hi rfl (by omega);have hq:(K + m) % l.length < l.length:=Nat.mod_lt _ (by omega)
  have e:Int.tmod (wrap64 ((wrap64 ((i:Int) - ((d + 1:Nat):Int))) + (l.length:Int))) (l.length:Int) = (((K + m) % l.length:Nat):Int):=by
   rw [wrap64_in ((i:Int) - ((d + 1:Nat):Int)) (by omega) (by omega),wrap64_in _ (by omega) (by omega),<- hp,show (i:Int) - ((d + 1:Nat):Int) + (l.length:Int) = ((i + l.length - (cost l.length i K - m):Nat):Int) by omega,tmod_nat]
  have e2:wrap64 (((d + 1:Nat):Int) - 1) = (d:Int):=by rw [wrap64_in _ (by omega) (by omega)];omega
  rw [inner]
  by_cases hc:rd l (((K + m) % l.length:Nat):Int) = -1
  ·
   rw [if_pos hc,if_neg (by decide)];refine Ev.step (f:=fun _=>some false) (fun k=>?_) (Ev.now _);rw [spec_prGood.l1,e,if_pos (by omega),if_neg (by omega),if_pos (by omega),if_pos (by omega),if_pos hc]
  ·
   rw [if_neg hc];refine Ev.step (fun k=>?_) (ih (m + 1) (by omega));rw [spec_prGood.l1,e,e2,if_pos (by omega),if_neg (by omega),if_pos (by omega),if_pos (by omega),if_neg hc]
theorem impl_l1 {l:List Int} (hf:Fit l) (i:Nat) (hi:i < l.length) (K:Nat) (hK:K<=999) (r:Bool) (hg:Ev (fun k=>impl_isTable.l0 k l (l.length:Int) ((i + 1:Nat):Int) l) r):∀ (d m:Nat),m + d = cost l.length i K ->
  Ev (fun k=>impl_isTable.l1 k (K:Int) l (l.length:Int) (i:Int) (cost l.length i K:Int) (m:Int) l) (if inner l K d m = true then r else false):=by
 have h2:=hf.two;have h12:=hf.len;have hcl:=cost_lt (i:=i) (K:=K) (show 0 < l.length by omega);intro d
 induction d with
 | zero =>
  intro m hm;rw [inner,if_pos rfl];refine Ev.step (fun k=>?_) hg;rw [impl_isTable.l1,if_neg (by omega),wrap_succ i (by omega)]
 | succ d ih =>
  intro m hm;have hq:(K + m) % l.length < l.length:=Nat.mod_lt _ (by omega);have hin:=hf.inn _ hq
  have e:Int.tmod (wrap64 ((K:Int) + (m:Int))) (l.length:Int) = (((K + m) % l.length:Nat):Int):=by
   rw [wrap64_in _ (by omega) (by omega),show (K:Int) + (m:Int) = ((K + m:Nat):Int) by omega,tmod_nat]
  rw [inner]
  by_cases hc:rd l (((K + m) % l.length:Nat):Int) = -1
  ·
   rw [if_pos hc,if_neg (by decide)];refine Ev.step (f:=fun _=>some false) (fun k=>?_) (Ev.now _);rw [impl_isTable.l1,e,if_pos (by omega),if_neg (by omega),if_pos (by omega),if_pos (by omega),if_pos (by omega)]
  ·
   rw [if_neg hc];refine Ev.step (fun k=>?_) (ih (m + 1) (by omega));rw [impl_isTable.l1,e,if_pos (by omega),if_neg (by omega),if_pos (by omega),if_pos (by omega),if_neg (by omega),wrap_succ m (by omega)]
theorem spec_l0 {l:List Int} (hf:Fit l):∀ (d i:Nat),i + d = l.length->Ev (fun k=>spec_prGood.l0 k (l.length:Int) l (l.length:Int) (i:Int) l) (outer l d i):=by
 have h2:=hf.two;have h12:=hf.len;intro d
 induction d with
 | zero =>
  intro i hi;refine Ev.step (f:=fun _=>some true) (fun k=>?_) (Ev.now _);rw [spec_prGood.l0,if_neg (by omega)]
 | succ d ih =>
  intro i hi
  have h1:i < l.length:=by omega
  have hin:=hf.inn i h1;rw [outer]
  by_cases hc:rd l (i:Int) = -1
  ·
   rw [if_pos hc];refine Ev.step (fun k=>?_) (ih (i + 1) (by omega));rw [spec_prGood.l0,if_pos (by omega),if_pos (by omega),if_pos (by omega),if_pos hc,wrap_succ i (by omega)]
  ·
   rw [if_neg hc];obtain ⟨K,hK⟩:=Int.eq_ofNat_of_zero_le (show 0<=rd l (i:Int) by omega);refine Ev.step (f:=?f1) (fun k=>?h1) ?g1
   case h1=>rw [spec_prGood.l0,if_pos (by omega),if_pos (by omega),if_pos (by omega),if_neg hc,if_pos (by omega),Int.toNat_natCast]
   refine Ev.bind (l1Has_ev (l.take i) (rd l (i:Int)) (by rw [List.length_take];omega)) ?_
   by_cases hm:rd l (i:Int) ∈ l.take i
   ·
    rw [if_pos hm,decide_eq_true hm];exact Ev.pos rfl (Ev.now _)
   ·
    rw [if_neg hm,decide_eq_false hm,hK,Int.toNat_natCast];refine Ev.neg (by decide) (Ev.bindc (a:=(cost l.length i K:Int)) ?_ (spec_l1 hf i h1 K (outer l d (i + 1)) (ih (i + 1) (by omega)) (cost l.length i K) 0 (by omega)));unfold spec_prCost.f;rw [if_neg (by omega),cost_eq (by omega) h12 h1]
theorem impl_l0 {l:List Int} (hf:Fit l):∀ (d i:Nat),i + d = l.length->Ev (fun k=>impl_isTable.l0 k l (l.length:Int) (i:Int) l) (outer l d i):=by
 have h2:=hf.two;have h12:=hf.len;intro d
 induction d with
 | zero =>
  intro i hi;refine Ev.step (f:=fun _=>some true) (fun k=>?_) (Ev.now _);rw [impl_isTable.l0,if_neg (by omega)]
 | succ d ih =>
  intro i hi
  have h1:i < l.length:=by omega
  have hin:=hf.inn i h1;rw [outer]
  by_cases hc:rd l (i:Int) = -1
  ·
   rw [if_pos hc];refine Ev.step (fun k=>?_) (ih (i + 1) (by omega));rw [impl_isTable.l0,if_pos (by omega),if_pos (by omega),if_pos (by omega),if_pos (by omega),wrap_succ i (by omega)]
  ·
   rw [if_neg hc];obtain ⟨K,hK⟩:=Int.eq_ofNat_of_zero_le (show 0<=rd l (i:Int) by omega);refine Ev.step (f:=?f1) (fun k=>?h1) ?g1
   case h1=>rw [impl_isTable.l0,if_pos (by omega),if_pos (by omega),if_pos (by omega),if_neg (show ¬ rd l (i:Int) < 0 by omega),if_pos (by omega),Int.toNat_natCast]
   refine Ev.bind (contains_ev (l.take i) (rd l (i:Int)) (by rw [List.length_take];omega)) ?_
   by_cases hm:rd l (i:Int) ∈ l.take i
   ·
    rw [if_pos hm,decide_eq_true hm];exact Ev.pos rfl (Ev.now _)
   ·
    rw [if_neg hm,decide_eq_false hm,hK,Int.toNat_natCast];refine Ev.neg (by decide) (Ev.bindc (a:=(cost l.length i K:Int)) ?_ (impl_l1 hf i h1 K (by omega) (outer l d (i + 1)) (ih (i + 1) (by omega)) (cost l.length i K) 0 (by omega)));unfold impl_Table_cost.f;rw [if_pos (by omega),if_pos (by omega),if_neg (by omega),hK,cost_eq (by omega) h12 h1]
def table (l:List Int):Bool:=decide (2<=(l.length:Int)/\(l.length:Int)<=12) && (l.all fun x=>decide (-1<=x/\x<=999)) && decide ((-1:Int) ∈ l) && outer l l.length 0
theorem fit {l:List Int} (h1:2<=(l.length:Int)/\(l.length:Int)<=12) (h2:(l.all fun x=>decide (-1<=x/\x<=999)) = true):Fit l :=
 ⟨by omega,by omega,fun n hn=>by rw [rd_nat l n hn];exact of_decide_eq_true (List.all_eq_true.1 h2 _ (List.getElem_mem hn))⟩
theorem prGood_ev (l:List Int) (hs:l.length<=1099511627776):Ev (fun k=>spec_prGood.f k l) (table l):=by
 unfold spec_prGood.f table
 refine Ev.bindc (l1In_eq _ 2 12) ?_
 by_cases h1:2<=(l.length:Int)/\(l.length:Int)<=12
 ·
  rw [decide_eq_true h1,Bool.true_and];refine Ev.pos rfl (Ev.bind (l1All_ev l (-1) 999 hs) ?_)
  cases h2:l.all fun x=>decide (-1<=x/\x<=999) with
  | true =>
   rw [Bool.true_and];refine Ev.pos rfl (Ev.bind (l1Has_ev l (-1) hs) ?_)
   by_cases h3:(-1:Int) ∈ l
   ·
    rw [decide_eq_true h3,Bool.true_and];refine Ev.step (fun k=>?_) (spec_l0 (fit h1 h2) l.length 0 (by omega));rw [spec_prGood.j0,if_neg (by decide)];rfl
   ·
    rw [decide_eq_false h3,Bool.false_and];refine Ev.step (f:=fun _=>some false) (fun k=>?_) (Ev.now _);rw [spec_prGood.j0,if_pos (by decide)]
  | false =>
   rw [Bool.false_and,Bool.false_and];refine Ev.neg (by decide) (Ev.step (f:=fun _=>some false) (fun k=>?_) (Ev.now _));rw [spec_prGood.j0,if_pos rfl]
 ·
  rw [decide_eq_false h1,Bool.false_and,Bool.false_and,Bool.false_and];refine Ev.neg (by decide) (Ev.step (f:=fun _=>some false) (fun k=>?_) (Ev.now _));rw [spec_prGood.j0,if_pos rfl]
theorem areBetween_eq (l:List Int) (lo hi:Int):impl_areBetween.f l lo hi = some (l.all fun x=>decide (lo<=x/\x<=hi)):=rfl
theorem isTable_ev (l:List Int) (hs:l.length<=1099511627776):Ev (fun k=>impl_isTable.f k l) (table l):=by
 unfold impl_isTable.f table
 refine Ev.bindc (a:=decide (2<=(l.length:Int)/\(l.length:Int)<=12)) (by unfold impl_isSize.f;rw [between_eq];rfl) ?_
 by_cases h1:2<=(l.length:Int)/\(l.length:Int)<=12
 ·
  rw [decide_eq_true h1,Bool.true_and];refine Ev.pos rfl (Ev.bindc (areBetween_eq l (-1) 999) ?_)
  cases h2:l.all fun x=>decide (-1<=x/\x<=999) with
  | true =>
   rw [Bool.true_and];refine Ev.pos rfl (Ev.bind (contains_ev l (-1) hs) ?_)
   by_cases h3:(-1:Int) ∈ l
   ·
    rw [decide_eq_true h3,Bool.true_and];refine Ev.step (fun k=>?_) (impl_l0 (fit h1 h2) l.length 0 (by omega));rw [impl_isTable.j0,if_neg (by decide)];rfl
   ·
    rw [decide_eq_false h3,Bool.false_and];refine Ev.step (f:=fun _=>some false) (fun k=>?_) (Ev.now _);rw [impl_isTable.j0,if_pos (by decide)]
  | false =>
   rw [Bool.false_and,Bool.false_and];refine Ev.neg (by decide) (Ev.step (f:=fun _=>some false) (fun k=>?_) (Ev.now _));rw [impl_isTable.j0,if_pos rfl]
 ·
  rw [decide_eq_false h1,Bool.false_and,Bool.false_and,Bool.false_and];refine Ev.neg (by decide) (Ev.step (f:=fun _=>some false) (fun k=>?_) (Ev.now _));rw [impl_isTable.j0,if_pos rfl]
end Go.Proofs.YtjdlhefjgceabaaGreatDoor.Plain
namespace Go.Proofs.YtjdlhefjgceabaaGreatDoor.Plain
open Go.RowKit Go.Proofs.YtjdlhefjgceabaaGreatDoorW.PrintWords Go.Proofs.YtjdlhefjgceabaaGreatDoorW.PrintLast Go.Proofs.YtjdlhefjgceabaaGreatDoor.Hand
set_option linter.unusedVariables false
structure Tb (l:List Int):Prop where
 fit:Fit l
 free:∃ e:Nat,e < l.length/\rd l (e:Int) = -1
 one:∀ i j:Nat,i < j->j < l.length->rd l (i:Int) = rd l (j:Int)->rd l (i:Int) = -1
 path:∀ i:Nat,i < l.length->rd l (i:Int) ≠ -1->∀ m,m < cost l.length i (rd l (i:Int)).toNat->rd l ((((rd l (i:Int)).toNat + m) % l.length:Nat):Int) ≠ -1
theorem inner_iff (l:List Int) (K:Nat):∀ d m,inner l K d m = true ↔ ∀ j,m<=j->j < m + d->rd l (((K + j) % l.length:Nat):Int) ≠ -1:=by
 intro d
 induction d with
 | zero=>intro m;rw [inner];exact ⟨fun _ j h1 h2=>by omega,fun _=>rfl⟩
 | succ d ih =>
  intro m;rw [inner]
  by_cases hc:rd l (((K + m) % l.length:Nat):Int) = -1
  ·
   rw [if_pos hc];exact ⟨fun h=>(Bool.noConfusion h),fun h=>absurd hc (h m (Nat.le_refl _) (by omega))⟩
  ·
   rw [if_neg hc,ih]
   constructor
   ·
    intro h j h1 h2
    by_cases e:j = m
    · rw [e];exact hc
    · exact h j (by omega) (by omega)
   ·
    intro h j h1 h2;exact h j (by omega) (by omega)
theorem outer_iff (l:List Int):∀ d i,i + d = l.length->(outer l d i = true ↔ ∀ x:Nat,i<=x->x < l.length->rd l (x:Int) ≠ -1->rd l (x:Int) ∉ l.take x/\∀ m,m < cost l.length x (rd l (x:Int)).toNat->rd l ((((rd l (x:Int)).toNat + m) % l.length:Nat):Int) ≠ -1):=by
 intro d
 induction d with
 | zero=>intro i hi;rw [outer];exact ⟨fun _ x h1 h2=>by omega,fun _=>rfl⟩
 | succ d ih =>
  intro i hi;have h0:=ih (i + 1) (by omega);rw [outer]
  by_cases hc:rd l (i:Int) = -1
  ·
   rw [if_pos hc,h0]
   constructor
   ·
    intro h x h1 h2 h3
    by_cases e:x = i
    · rw [e] at h3;exact absurd hc h3
    · exact h x (by omega) h2 h3
   ·
    intro h x h1 h2 h3;exact h x (by omega) h2 h3
  ·
   rw [if_neg hc]
   by_cases hm:rd l (i:Int) ∈ l.take i
   ·
    rw [if_pos hm];exact ⟨fun h=>(Bool.noConfusion h),fun h=>absurd hm (h i (Nat.le_refl _) (by omega) hc).1⟩
   ·
    rw [if_neg hm]
    by_cases hn:inner l (rd l (i:Int)).toNat (cost l.length i (rd l (i:Int)).toNat) 0 = true
    ·
     rw [if_pos hn,h0];rw [inner_iff] at hn
     constructor
     ·
      intro h x h1 h2 h3
      by_cases e:x = i
      · subst e;exact ⟨hm,fun m h4=>hn m (by omega) (by omega)⟩
      · exact h x (by omega) h2 h3
     ·
      intro h x h1 h2 h3;exact h x (by omega) h2 h3
    ·
     rw [if_neg hn];refine ⟨fun h=>(Bool.noConfusion h),fun h=>absurd ?_ hn⟩;rw [inner_iff];intro j h1 h2;exact (h i (Nat.le_refl _) (by omega) hc).2 j (by omega)
theorem rd_mem {l:List Int} {n:Nat} (h:n < l.length):rd l (n:Int) ∈ l:=by rw [rd_nat l n h];exact List.getElem_mem h
theorem mem_rd {l:List Int} {x:Int} (h:x ∈ l):∃ n:Nat,n < l.length/\rd l (n:Int) = x:=by
 obtain ⟨n,hn,e⟩:=List.getElem_of_mem h;exact ⟨n,hn,by rw [rd_nat l n hn,e]⟩
theorem mem_take_rd {l:List Int} {x:Int} {i:Nat} (hi:i<=l.length):x ∈ l.take i ↔ ∃ n:Nat,n < i/\rd l (n:Int) = x:=by
 constructor
 ·
  intro h;obtain ⟨n,hn,e⟩:=List.getElem_of_mem h;rw [List.length_take] at hn;rw [List.getElem_take] at e;exact ⟨n,by omega,by rw [rd_nat l n (by omega),e]⟩
 ·
  rintro ⟨n,hn,e⟩;rw [rd_nat l n (by omega)] at e;rw [<- e,List.mem_take_iff_getElem];exact ⟨n,by omega,rfl⟩
theorem table_iff (l:List Int):table l = true ↔ Tb l:=by
 unfold table;simp only [Bool.and_eq_true,decide_eq_true_eq]
 constructor
 ·
  rintro ⟨⟨⟨h1,h2⟩,h3⟩,h4⟩;rw [outer_iff l l.length 0 (by omega)] at h4;refine ⟨fit h1 h2,mem_rd h3,fun i j hij hj e=>?_,fun i hi hn=>(h4 i (by omega) hi hn).2⟩
  refine Classical.byContradiction fun hne=>?_
  exact (h4 j (by omega) hj (e ▸ hne)).1 ((mem_take_rd (by omega)).2 ⟨i,hij,e⟩)
 ·
  rintro ⟨hf,⟨e,he,hee⟩,ho,hp⟩;refine ⟨⟨⟨⟨by have:=hf.two;omega,by have:=hf.len;omega⟩,?_⟩,hee ▸ rd_mem he⟩,?_⟩
  ·
   rw [List.all_eq_true];intro x hx;obtain ⟨n,hn,rfl⟩:=mem_rd hx;exact decide_eq_true (hf.inn n hn)
  ·
   rw [outer_iff l l.length 0 (by omega)];intro x _ hx hne;refine ⟨fun hm=>?_,hp x hx hne⟩;obtain ⟨n,hn,e⟩:=(mem_take_rd (by omega)).1 hm;exact hne (e ▸ ho n x hn hx e)
theorem mod_one {N K a b:Nat} (ha:a < N) (hb:b < N) (h:(K + a) % N = (K + b) % N):a = b:=by
 have hh:K % N < N:=Nat.mod_lt _ (by omega);rw [<- Nat.mod_add_mod K N a,<- Nat.mod_add_mod K N b] at h
 generalize K % N = q at h hh
 by_cases h1:q + a < N
 ·
  by_cases h2:q + b < N
  · rw [Nat.mod_eq_of_lt h1,Nat.mod_eq_of_lt h2] at h;omega
  · rw [Nat.mod_eq_of_lt h1,Nat.mod_eq_sub_mod (by omega),Nat.mod_eq_of_lt (by omega)] at h;omega
 ·
  by_cases h2:q + b < N
  · rw [Nat.mod_eq_of_lt h2,Nat.mod_eq_sub_mod (by omega),Nat.mod_eq_of_lt (by omega)] at h;omega
  · rw [Nat.mod_eq_sub_mod (by omega),Nat.mod_eq_of_lt (by omega),Nat.mod_eq_sub_mod (by omega),Nat.mod_eq_of_lt (by omega)] at h;omega
theorem mod_reach {N:Nat} (K:Nat) {x:Nat} (hx:x < N):∃ c,c < N/\(K + c) % N = x:=by
 have hh:K % N < N:=Nat.mod_lt _ (by omega)
 by_cases h:K % N<=x
 ·
  refine ⟨x - K % N,by omega,?_⟩;rw [<- Nat.mod_add_mod K N,show K % N + (x - K % N) = x by omega,Nat.mod_eq_of_lt hx]
 ·
  refine ⟨x + N - K % N,by omega,?_⟩;rw [<- Nat.mod_add_mod K N,show K % N + (x + N - K % N) = x + N by omega,Nat.add_mod_right,Nat.mod_eq_of_lt hx]
theorem cost_at {N K c:Nat} (hc:c < N):cost N ((K + c) % N) K = c:=by
 have hh:K % N < N:=Nat.mod_lt _ (by omega);unfold cost;rw [<- Nat.mod_add_mod K N c]
 generalize K % N = q at hh
 by_cases h1:q + c < N
 · rw [Nat.mod_eq_of_lt h1,show q + c + N - q = c + N by omega,Nat.add_mod_right,Nat.mod_eq_of_lt hc]
 ·
  have e:(q + c) % N = q + c - N:=by rw [Nat.mod_eq_sub_mod (by omega),Nat.mod_eq_of_lt (by omega)]
  rw [e,show q + c - N + N - q = c by omega,Nat.mod_eq_of_lt hc]
theorem at_cost {N K x:Nat} (hx:x < N):(K + cost N x K) % N = x:=by
 obtain ⟨c,hc,e⟩:=mod_reach K hx;have h:=cost_at (K:=K) hc;rw [e] at h;rw [h,e]
theorem mod_add (N a b:Nat):(a % N + b) % N = (a + b) % N:=Nat.mod_add_mod a N b
theorem rd_set_self {l:List Int} {p:Nat} (v:Int) (h:p < l.length):rd (l.set p v) (p:Int) = v:=by
 rw [rd_nat _ p (by simpa using h),List.getElem_set_self]
theorem rd_set_ne {l:List Int} {p i:Nat} (v:Int) (h:i ≠ p):rd (l.set p v) (i:Int) = rd l (i:Int):=by
 unfold rd;rw [Int.toNat_natCast,List.getD_eq_getElem?_getD,List.getD_eq_getElem?_getD,List.getElem?_set_ne (by omega)]
def insC (l:List Int) (K:Nat):Nat->Nat->Nat
 | 0,c=>c
 | d + 1,c=>if rd l (((K + c) % l.length:Nat):Int) = -1 then c else insC l K d (c + 1)
theorem insC_ok (l:List Int) (K:Nat):∀ d c,c + d = l.length->(∃ t,c<=t/\t < l.length/\rd l (((K + t) % l.length:Nat):Int) = -1) ->
  c<=insC l K d c/\insC l K d c < l.length/\rd l (((K + insC l K d c) % l.length:Nat):Int) = -1/\∀ m,c<=m->m < insC l K d c->rd l (((K + m) % l.length:Nat):Int) ≠ -1:=by
 intro d
 induction d with
 | zero=>rintro c hc ⟨t,h1,h2,_⟩;omega
 | succ d ih =>
  rintro c hc ⟨t,h1,h2,h3⟩;rw [insC]
  by_cases h:rd l (((K + c) % l.length:Nat):Int) = -1
  ·
   rw [if_pos h];exact ⟨Nat.le_refl _,by omega,h,fun m h4 h5=>by omega⟩
  ·
   rw [if_neg h];have hne:t ≠ c:=fun e=>h (e ▸ h3);obtain ⟨g1,g2,g3,g4⟩:=ih (c + 1) (by omega) ⟨t,by omega,h2,h3⟩;refine ⟨by omega,g2,g3,fun m h4 h5=>?_⟩
   by_cases e:m = c
   · rw [e];exact h
   · exact g4 m (by omega) h5
def insP (l:List Int) (K:Nat):Nat:=(K + insC l K l.length 0) % l.length
theorem insP_ok {l:List Int} (hT:Tb l) (K:Nat):insC l K l.length 0 < l.length/\insP l K < l.length/\rd l (insP l K:Int) = -1/\∀ m,m < insC l K l.length 0->rd l (((K + m) % l.length:Nat):Int) ≠ -1:=by
 have h2:=hT.fit.two;obtain ⟨e,he,hee⟩:=hT.free;obtain ⟨t,ht,hte⟩:=mod_reach K he;obtain ⟨g1,g2,g3,g4⟩:=insC_ok l K l.length 0 (by omega) ⟨t,by omega,ht,by rw [hte];exact hee⟩;exact ⟨g2,Nat.mod_lt _ (by omega),g3,fun m hm=>g4 m (by omega) hm⟩
theorem ins_table {l:List Int} (hT:Tb l) {K:Nat} (hK:K<=999) (hn:(K:Int) ∉ l) (hfree:∃ e:Nat,e < l.length/\e ≠ insP l K/\rd l (e:Int) = -1):Tb (l.set (insP l K) (K:Int)):=by
 have h2:=hT.fit.two;obtain ⟨g1,g2,g3,g4⟩:=insP_ok hT K
 have hlen:(l.set (insP l K) (K:Int)).length = l.length:=by simp
 refine ⟨⟨by omega,by have:=hT.fit.len;omega,fun n h=>?_⟩,?_,fun i j hij hj e=>?_,fun i hi hne m hm=>?_⟩
 ·
  by_cases e:n = insP l K
  · rw [e,rd_set_self _ g2];omega
  · rw [rd_set_ne _ e];exact hT.fit.inn n (by omega)
 ·
  obtain ⟨e,h1,h3,h4⟩:=hfree;exact ⟨e,by omega,by rw [rd_set_ne _ h3];exact h4⟩
 ·
  rw [hlen] at hj
  by_cases e1:i = insP l K
  ·
   have e2:j ≠ insP l K:=by omega
   rw [e1,rd_set_self _ g2,rd_set_ne _ e2] at e;exact absurd (e ▸ rd_mem hj) hn
  ·
   by_cases e2:j = insP l K
   ·
    rw [e2,rd_set_self _ g2,rd_set_ne _ e1] at e;exact absurd (e ▸ rd_mem (show i < l.length by omega)) hn
   ·
    rw [rd_set_ne _ e1,rd_set_ne _ e2] at e;rw [rd_set_ne _ e1];exact hT.one i j hij hj e
 ·
  rw [hlen] at hi hm ⊢
  have keep:∀ x:Nat,rd l (x:Int) ≠ -1->rd (l.set (insP l K) (K:Int)) (x:Int) ≠ -1:=by
   intro x hx
   by_cases e:x = insP l K
   · rw [e,rd_set_self _ g2];omega
   · rw [rd_set_ne _ e];exact hx
  by_cases e1:i = insP l K
  ·
   rw [e1,rd_set_self _ g2,Int.toNat_natCast] at hm ⊢;have e3:cost l.length (insP l K) K = insC l K l.length 0:=cost_at g1;rw [e3] at hm;exact keep _ (g4 m hm)
  ·
   rw [rd_set_ne _ e1] at hne hm ⊢;exact keep _ (hT.path i hi hne m hm)
structure Rm (l:List Int) (f k:Nat):Prop where
 fit:Fit l
 cell:f < l.length
 hole:rd l (f:Int) = -1
 one:∀ i j:Nat,i < j->j < l.length->rd l (i:Int) = rd l (j:Int)->rd l (i:Int) = -1
 path:∀ i:Nat,i < l.length->rd l (i:Int) ≠ -1->∀ m,m < cost l.length i (rd l (i:Int)).toNat->rd l ((((rd l (i:Int)).toNat + m) % l.length:Nat):Int) = -1->((rd l (i:Int)).toNat + m) % l.length = f
 far:1<=k
 behind:∀ j,1<=j->j < k->rd l (((f + j) % l.length:Nat):Int) ≠ -1/\cost l.length ((f + j) % l.length) (rd l (((f + j) % l.length:Nat):Int)).toNat < j
def remN:Nat->List Int->Nat->Nat->List Int
 | 0,l,_,_=>l
 | d + 1,l,f,k =>
  if rd l (((f + k) % l.length:Nat):Int) = -1 then l
  else if k<=cost l.length ((f + k) % l.length) (rd l (((f + k) % l.length:Nat):Int)).toNat then remN d ((l.set f (rd l (((f + k) % l.length:Nat):Int))).set ((f + k) % l.length) (-1)) ((f + k) % l.length) 1
  else remN d l f (k + 1)
theorem Rm.start {l:List Int} (hT:Tb l) {f:Nat} (hf:f < l.length):Rm (l.set f (-1)) f 1:=by
 have h2:=hT.fit.two
 have hlen:(l.set f (-1)).length = l.length:=by simp
 refine ⟨⟨by omega,by have:=hT.fit.len;omega,fun n h=>?_⟩,by omega,rd_set_self _ hf,fun i j hij hj e=>?_,fun i hi hne m hm h=>?_,Nat.le_refl _,fun j h1 h3=>by omega⟩
 ·
  by_cases e:n = f
  · rw [e,rd_set_self _ hf];omega
  · rw [rd_set_ne _ e];exact hT.fit.inn n (by omega)
 ·
  rw [hlen] at hj
  by_cases e1:i = f
  · rw [e1,rd_set_self _ hf]
  ·
   by_cases e2:j = f
   · rw [e2,rd_set_self _ hf] at e;exact e
   ·
    rw [rd_set_ne _ e1,rd_set_ne _ e2] at e;rw [rd_set_ne _ e1];exact hT.one i j hij hj e
 ·
  rw [hlen] at hi hm h ⊢;have e1:i ≠ f:=fun e=>hne (by rw [e,rd_set_self _ hf]);rw [rd_set_ne _ e1] at hne hm h ⊢
  refine Classical.byContradiction fun hx=>?_
  rw [rd_set_ne _ hx] at h;exact hT.path i hi hne m hm h
theorem Rm.stay {l:List Int} {f k:Nat} (h:Rm l f k) (h1:rd l (((f + k) % l.length:Nat):Int) ≠ -1) (h2:¬ k<=cost l.length ((f + k) % l.length) (rd l (((f + k) % l.length:Nat):Int)).toNat):Rm l f (k + 1):=by
 obtain ⟨a,b,c,d,e,g,i⟩:=h;refine ⟨a,b,c,d,e,by omega,fun j h3 h4=>?_⟩
 by_cases hj:j = k
 · subst hj;exact ⟨h1,by omega⟩
 · exact i j h3 (by omega)
theorem Rm.move {l:List Int} {f k:Nat} (h:Rm l f k) (hk:k < l.length) (h1:rd l (((f + k) % l.length:Nat):Int) ≠ -1) (h2:k<=cost l.length ((f + k) % l.length) (rd l (((f + k) % l.length:Nat):Int)).toNat) :
  Rm ((l.set f (rd l (((f + k) % l.length:Nat):Int))).set ((f + k) % l.length) (-1)) ((f + k) % l.length) 1:=by
 obtain ⟨hfit,hcell,hhole,hone,hpath,hfar,hbeh⟩:=h;have htwo:=hfit.two;have ha:(f + k) % l.length < l.length:=Nat.mod_lt _ (by omega)
 have hne:(f + k) % l.length ≠ f:=by
  intro e
  have e2:(f + k) % l.length = (f + 0) % l.length:=by rw [e,Nat.add_zero,Nat.mod_eq_of_lt hcell]
  have:=mod_one hk (by omega) e2;omega
 generalize hA:(f + k) % l.length = a at ha hne h1 h2 ⊢
 have hin:=hfit.inn a ha;obtain ⟨K,hK⟩:=Int.eq_ofNat_of_zero_le (show 0<=rd l (a:Int) by omega)
 have hlen:((l.set f (rd l (a:Int))).set a (-1)).length = l.length:=by simp
 have ga:rd ((l.set f (rd l (a:Int))).set a (-1)) (a:Int) = -1:=rd_set_self _ (by simpa using ha)
 have gf:rd ((l.set f (rd l (a:Int))).set a (-1)) (f:Int) = (K:Int):=by rw [rd_set_ne _ (Ne.symm hne),rd_set_self _ hcell,hK]
 have go:∀ x:Nat,x ≠ a->x ≠ f->rd ((l.set f (rd l (a:Int))).set a (-1)) (x:Int) = rd l (x:Int):=fun x e1 e2=>by rw [rd_set_ne _ e1,rd_set_ne _ e2]
 generalize hM:(l.set f (rd l (a:Int))).set a (-1) = l' at hlen ga gf go ⊢
 have hcK:=at_cost (K:=K) ha;rw [hK,Int.toNat_natCast] at h2;have hclt:cost l.length a K < l.length:=cost_lt (by omega)
 have hcf:cost l.length f K = cost l.length a K - k:=by
  have e:f = (K + (cost l.length a K - k)) % l.length:=by
   obtain ⟨c,hc,hce⟩:=mod_reach K hcell
   have e2:(K + (c + k)) % l.length = (K + cost l.length a K) % l.length:=by
    rw [hcK,<- Nat.add_assoc,<- mod_add l.length (K + c) k,hce,hA]
   by_cases h5:c + k < l.length
   ·
    have:=mod_one h5 hclt e2;rw [<- hce];congr 2;omega
   ·
    have e3:(K + (c + k - l.length)) % l.length = (K + cost l.length a K) % l.length:=by
     rw [<- e2,show K + (c + k) = K + (c + k - l.length) + l.length by omega,Nat.add_mod_right]
    have:=mod_one (by omega) hclt e3;omega
  have h6:=cost_at (N:=l.length) (K:=K) (c:=cost l.length a K - k) (by omega);rw [<- e] at h6;exact h6
 refine ⟨⟨by omega,by have:=hfit.len;omega,fun n h=>?_⟩,by omega,ga,fun i j hij hj e=>?_,fun i hi hni m hm h=>?_,Nat.le_refl _,fun j h3 h4=>by omega⟩
 ·
  by_cases e1:n = a
  · rw [e1,ga];omega
  ·
   by_cases e2:n = f
   · rw [e2,gf,<- hK];exact hin
   · rw [go n e1 e2];exact hfit.inn n (by omega)
 ·
  rw [hlen] at hj
  have hax:∀ x:Nat,x < l.length->x ≠ a->rd l (x:Int) = rd l (a:Int)->False:=by
   intro x hx hxa e3
   rcases Nat.lt_or_gt_of_ne hxa with h5 | h5
   · exact h1 (e3 ▸ hone x a h5 ha e3)
   · exact h1 (hone a x h5 hx e3.symm)
  by_cases i1:i = a
  · rw [i1];exact ga
  ·
   by_cases j1:j = a
   · rw [j1,ga] at e;exact e
   ·
    by_cases i2:i = f
    ·
     have j2:j ≠ f:=by omega
     rw [i2,gf,go j j1 j2,<- hK] at e;exact (hax j hj j1 e.symm).elim
    ·
     by_cases j2:j = f
     ·
      rw [j2,gf,go i i1 i2,<- hK] at e;exact (hax i (by omega) i1 e).elim
     ·
      rw [go i i1 i2,go j j1 j2] at e;rw [go i i1 i2];exact hone i j hij hj e
 ·
  rw [hlen] at hi hm h ⊢;have i1:i ≠ a:=fun e=>hni (by rw [e,ga])
  by_cases i2:i = f
  ·
   rw [i2,gf,Int.toNat_natCast] at hm h ⊢;rw [hcf] at hm
   refine Classical.byContradiction fun hx=>?_
   have hxf:(K + m) % l.length ≠ f:=by
    intro e
    have e4:(K + m) % l.length = (K + cost l.length f K) % l.length:=by rw [e,at_cost hcell]
    have:=mod_one (by omega) (by omega) e4;omega
   rw [go _ hx hxf] at h;have h7:=hpath a ha h1 m (by rw [hK,Int.toNat_natCast];omega) (by rw [hK,Int.toNat_natCast];exact h);rw [hK,Int.toNat_natCast] at h7;exact hxf h7
  ·
   rw [go i i1 i2] at hni hm h ⊢
   refine Classical.byContradiction fun hx=>?_
   by_cases hxf:((rd l (i:Int)).toNat + m) % l.length = f
   · rw [hxf,gf] at h;omega
   ·
    rw [go _ hx hxf] at h;exact hxf (hpath i hi hni m hm h)
theorem Rm.done {l:List Int} {f k:Nat} (h:Rm l f k) (hk:k < l.length) (h1:rd l (((f + k) % l.length:Nat):Int) = -1):Tb l:=by
 obtain ⟨hfit,hcell,hhole,hone,hpath,hfar,hbeh⟩:=h;have htwo:=hfit.two;refine ⟨hfit,⟨f,hcell,hhole⟩,hone,fun i hi hni m hm h=>?_⟩;have hin:=hfit.inn i hi;obtain ⟨K,hK⟩:=Int.eq_ofNat_of_zero_le (show 0<=rd l (i:Int) by omega);have hp:=fun m=>hpath i hi hni m;have hbe:=hbeh;rw [hK,Int.toNat_natCast] at hm h hp;have hf:=hp m hm h;have hc:=at_cost (K:=K) hi;have hclt:cost l.length i K < l.length:=cost_lt (by omega)
 have hx:(f + (cost l.length i K - m)) % l.length = i:=by rw [<- hf,mod_add,show K + m + (cost l.length i K - m) = K + cost l.length i K by omega,hc]
 rcases Nat.lt_trichotomy (cost l.length i K - m) k with h3 | h3 | h3
 ·
  have h4:=(hbeh (cost l.length i K - m) (by omega) h3).2;rw [hx,hK,Int.toNat_natCast] at h4;omega
 ·
  rw [<- h3,hx] at h1;exact hni h1
 ·
  have e5:(K + (m + k)) % l.length = (f + k) % l.length:=by rw [<- Nat.add_assoc,<- mod_add l.length (K + m) k,hf]
  have h6:=hp (m + k) (by omega) (by rw [e5];exact h1);rw [e5] at h6
  have e7:(f + k) % l.length = (f + 0) % l.length:=by rw [h6,Nat.add_zero,Nat.mod_eq_of_lt hcell]
  have:=mod_one hk (by omega) e7;omega
theorem remN_table:∀ (d:Nat) (l:List Int) (f k t:Nat),Rm l f k->k<=t->t < l.length->rd l (((f + t) % l.length:Nat):Int) = -1->t - k < d->Tb (remN d l f k)/\(remN d l f k).length = l.length:=by
 intro d
 induction d with
 | zero=>intro l f k t _ _ _ _ h;omega
 | succ d ih =>
  intro l f k t hR hk ht he hd;rw [remN]
  by_cases h1:rd l (((f + k) % l.length:Nat):Int) = -1
  ·
   rw [if_pos h1];exact ⟨hR.done (by omega) h1,rfl⟩
  ·
   rw [if_neg h1];have hne:k ≠ t:=fun e=>h1 (e ▸ he)
   by_cases h2:k<=cost l.length ((f + k) % l.length) (rd l (((f + k) % l.length:Nat):Int)).toNat
   ·
    rw [if_pos h2];have hm:=hR.move (by omega) h1 h2
    have hlen:((l.set f (rd l (((f + k) % l.length:Nat):Int))).set ((f + k) % l.length) (-1)).length = l.length:=by simp
    have e1:((f + k) % l.length + (t - k)) % l.length = (f + t) % l.length:=by rw [mod_add,show f + k + (t - k) = f + t by omega]
    have g:=ih _ _ 1 (t - k) hm (by omega) (by omega) (by
     rw [hlen,e1]
     by_cases e2:(f + t) % l.length = (f + k) % l.length
     · rw [e2];exact rd_set_self _ (by simpa using Nat.mod_lt _ (by omega))
     ·
      rw [rd_set_ne _ e2,rd_set_ne _ (fun e3=>?_),he]
      have e4:(f + t) % l.length = (f + 0) % l.length:=by rw [e3,Nat.add_zero,Nat.mod_eq_of_lt hR.cell]
      have:=mod_one ht (by omega) e4;have:=hR.far
      omega) (by omega)
    rw [hlen] at g;exact g
   ·
    rw [if_neg h2];exact ih l f (k + 1) t (hR.stay h1 h2) (by omega) ht he (by omega)
def remL (l:List Int) (f:Nat):List Int:=remN l.length (l.set f (-1)) f 1
theorem other_free {l:List Int} (hT:Tb l) {f:Nat} (hf:f < l.length) (hn:rd l (f:Int) ≠ -1):∃ t,1<=t/\t < l.length/\rd (l.set f (-1)) (((f + t) % l.length:Nat):Int) = -1:=by
 obtain ⟨e,he,hee⟩:=hT.free;obtain ⟨t,ht,hte⟩:=mod_reach f he
 have h0:t ≠ 0:=fun e0=>by
  rw [e0,Nat.add_zero,Nat.mod_eq_of_lt hf] at hte;exact hn (hte ▸ hee)
 refine ⟨t,by omega,ht,?_⟩;have hef:e ≠ f:=fun e1=>hn (by rw [<- e1];exact hee);rw [hte,rd_set_ne _ hef,hee]
theorem rem_table {l:List Int} (hT:Tb l) {f:Nat} (hf:f < l.length) (hn:rd l (f:Int) ≠ -1):Tb (remL l f)/\(remL l f).length = l.length:=by
 obtain ⟨t,h1,h2,h3⟩:=other_free hT hf hn;have h:=remN_table l.length (l.set f (-1)) f 1 t (Rm.start hT hf) h1 (by simpa using h2) (by simpa using h3) (by omega);rw [List.length_set] at h;exact h
def turned (l:List Int) (a by_:Int):List Int:=l.map fun x=>Int.tmod (x + by_) a
theorem turned_length (l:List Int) (a by_:Int):(turned l a by_).length = l.length:=by simp [turned]
theorem turn_one {a x b:Int} (hx:0<=x/\x < a) (hb:0<=b/\b < a):Int.tmod (x + b) a = if x + b < a then x + b else x + b - a:=by
 rw [Int.tmod_eq_emod_of_nonneg (by omega)]
 split
 · exact Int.emod_eq_of_lt (by omega) (by omega)
 ·
  rw [<- Int.sub_emod_right];exact Int.emod_eq_of_lt (by omega) (by omega)
theorem turned_in {l:List Int} {a b:Int} (hl:∀ x ∈ l,0<=x/\x < a) (hb:0<=b/\b < a):∀ y ∈ turned l a b,0<=y/\y < a:=by
 intro y hy;unfold turned at hy;rw [List.mem_map] at hy;obtain ⟨x,hx,rfl⟩:=hy;have:=hl x hx;rw [turn_one this hb]
 split <;> omega
def nfC (p:Int) (out:List Int):Nat->Int->Int
 | 0,x=>x
 | d + 1,x=>if x ∈ out then nfC p out d (Int.tmod (x + 1) p) else x
def cdrive (p:Int):List Int->List Int->List Int
 | out,[]=>out
 | out,x :: xs=>cdrive p (out ++ [nfC p out p.toNat x]) xs
theorem cdrive_length (p:Int):∀ (xs out:List Int),(cdrive p out xs).length = out.length + xs.length:=by
 intro xs
 induction xs with
 | nil=>intro out;rfl
 | cons x xs ih=>intro out;rw [cdrive,ih,List.length_append,List.length_singleton,List.length_cons];omega
def rot (p f x:Int):Int:=Int.tmod (x + (p - 1 - f)) p
theorem rot_eq {p f x:Int} (hf:0<=f/\f < p) (hx:0<=x/\x < p):rot p f x = if x<=f then x + (p - 1 - f) else x - f - 1:=by
 unfold rot;rw [turn_one hx (by omega)]
 split <;> split <;> omega
theorem nfC_path {p f:Int} (hf:0<=f/\f < p) (out:List Int) (ho:f ∉ out):∀ (d:Nat) (x:Int),0<=x/\x < p->p - 1 - rot p f x<=(d:Int) ->
  nfC p out d x ∉ out/\(0<=nfC p out d x/\nfC p out d x < p)/\rot p f x<=rot p f (nfC p out d x):=by
 intro d
 induction d with
 | zero =>
  intro x hx hd;rw [nfC];refine ⟨?_,hx,Int.le_refl _⟩;rw [rot_eq hf hx] at hd
  have e:x = f:=by split at hd <;> omega
  rw [e];exact ho
 | succ d ih =>
  intro x hx hd;rw [nfC]
  by_cases hm:x ∈ out
  ·
   rw [if_pos hm];have hne:x ≠ f:=fun e=>ho (e ▸ hm)
   have h1:Int.tmod (x + 1) p = if x + 1 < p then x + 1 else x + 1 - p:=turn_one hx (by omega)
   have hx':0<=Int.tmod (x + 1) p/\Int.tmod (x + 1) p < p:=by rw [h1];split <;> omega
   have h2:rot p f (Int.tmod (x + 1) p) = rot p f x + 1:=by
    rw [rot_eq hf hx',rot_eq hf hx,h1]
    split <;> split <;> split <;> omega
   obtain ⟨a,b,c⟩:=ih (Int.tmod (x + 1) p) hx' (by omega);exact ⟨a,b,by omega⟩
  ·
   rw [if_neg hm];exact ⟨hm,hx,Int.le_refl _⟩
def dst (s l:List Int) (n:Nat):List Int:=(List.range n).map fun i:Nat=>wrap64 (rd s (i:Int) - rd l (i:Int))
theorem dst_succ (s l:List Int) (n:Nat):dst s l (n + 1) = dst s l n ++ [wrap64 (rd s (n:Int) - rd l (n:Int))]:=by simp [dst,List.range_succ]
theorem dst_length (s l:List Int) (n:Nat):(dst s l n).length = n:=by simp [dst]
theorem sdrive_ge (p:Int):∀ (l out:List Int) (i:Nat) (h:i < l.length) (h2:out.length + i < (sdrive p out l).length),(sdrive p out l)[out.length + i] = -1 \/ l[i]<=(sdrive p out l)[out.length + i]:=by
 intro l
 induction l with
 | nil=>intro out i h;simp at h
 | cons x xs ih =>
  intro out i h h2
  cases i with
  | zero =>
   obtain ⟨t,ht⟩:=sdrive_pre p xs (out ++ [told p (nf p out (p - x).toNat x)])
   have e:(sdrive p out (x :: xs))[out.length + 0] = told p (nf p out (p - x).toNat x):=by
    have e2:sdrive p out (x :: xs) = out ++ (told p (nf p out (p - x).toNat x) :: t):=by rw [sdrive,ht,List.append_assoc];rfl
    simp only [e2];rw [List.getElem_append_right (by omega)];simp
   rw [e];have:=nf_ge p out (p - x).toNat x;unfold told
   split
   · exact .inl rfl
   · exact .inr this
  | succ i =>
   have h3:=ih (out ++ [told p (nf p out (p - x).toNat x)]) i (by simpa using h) (by rw [sdrive] at h2;simp;omega);simp only [List.length_append,List.length_singleton] at h3
   have e:out.length + 1 + i = out.length + (i + 1):=by omega
   simp only [e] at h3;simpa [sdrive] using h3
def dists (l:List Int):List Int:=dst (sdrive (l.length:Int) [] l) l l.length
theorem dists_nonneg {l:List Int} (h:parking l = true):∀ x ∈ dists l,0<=x:=by
 intro x hx;unfold dists dst at hx;rw [List.mem_map] at hx;obtain ⟨i,hi,rfl⟩:=hx;have hi:=List.mem_range.1 hi
 have hlen:(sdrive (l.length:Int) [] l).length = l.length:=by rw [sdrive_length];simp
 have h8:=parking_cars h;rw [rd_nat _ i (by omega),rd_nat l i hi];have hb:=parking_in h l[i] (List.getElem_mem hi);have hm:=List.getElem_mem (show i < (sdrive (l.length:Int) [] l).length by omega);have h1:=sdrive_ge (l.length:Int) l [] i hi (by simp;omega);simp only [List.length_nil,Nat.zero_add] at h1
 have hlt:(sdrive (l.length:Int) [] l)[i] < (l.length:Int):=by
  rcases sdrive_lt (l.length:Int) (by omega) l [] _ hm with h2 | h2
  · simp at h2
  · exact h2
 rcases h1 with h1 | h1
 · exact absurd (h1 ▸ hm) (parking_all h)
 ·
  rw [wrap64_in _ (by omega) (by omega)];omega
theorem iotaC_mem (n:Nat) (i:Int):i ∈ iota 0 n ↔ 0<=i/\i < (n:Int):=by
 unfold iota;rw [List.mem_map]
 constructor
 ·
  rintro ⟨a,ha,rfl⟩;have:=List.mem_range.1 ha;omega
 ·
  intro h;exact ⟨i.toNat,List.mem_range.2 (by omega),by omega⟩
theorem iotaC_nodup (n:Nat):(iota 0 n).Nodup:=by
 refine List.pairwise_iff_getElem.2 fun i j hi hj hij=>?_
 rw [iota_get,iota_get];omega
theorem free_ex (P:Nat) (out:List Int) (h:out.length < P):∃ f:Int,0<=f/\f < (P:Int)/\f ∉ out:=by
 refine Classical.byContradiction fun hn=>?_
 have h1:∀ x ∈ iota 0 P,x ∈ out:=fun x hx=>Classical.byContradiction fun hx2=>hn ⟨x,((iotaC_mem _ _).1 hx).1,((iotaC_mem _ _).1 hx).2,hx2⟩;have h2:=nodup_len (iota 0 P) out (iotaC_nodup P) h1;rw [iota_length] at h2;omega
def frC (out:List Int):Nat->Nat->Int
 | 0,i=>(i:Int)
 | d + 1,i=>if (i:Int) ∈ out then frC out d (i + 1) else (i:Int)
theorem frC_in (out:List Int):∀ d i:Nat,(i:Int)<=frC out d i/\frC out d i<=((i + d:Nat):Int):=by
 intro d
 induction d with
 | zero=>intro i;rw [frC];omega
 | succ d ih =>
  intro i;rw [frC];have:=ih (i + 1)
  split <;> omega
theorem frC_lt (out:List Int):∀ d i:Nat,(∃ f:Int,(i:Int)<=f/\f < ((i + d:Nat):Int)/\f ∉ out)->frC out d i < ((i + d:Nat):Int):=by
 intro d
 induction d with
 | zero=>rintro i ⟨f,h1,h2,_⟩;omega
 | succ d ih =>
  rintro i ⟨f,h1,h2,h3⟩;rw [frC]
  by_cases hm:(i:Int) ∈ out
  ·
   rw [if_pos hm];have hne:f ≠ (i:Int):=fun e=>h3 (e ▸ hm);have:=ih (i + 1) ⟨f,by omega,by omega,h3⟩;omega
  ·
   rw [if_neg hm];omega
def freeC (l:List Int):Int:=frC (cdrive ((l.length:Int) + 1) [] l) (l.length + 1) 0
theorem freeC_in (l:List Int):0<=freeC l/\freeC l<=(l.length:Int):=by
 have h:=frC_in (cdrive ((l.length:Int) + 1) [] l) (l.length + 1) 0;obtain ⟨f,h1,h2,h3⟩:=free_ex (l.length + 1) (cdrive ((l.length:Int) + 1) [] l) (by rw [cdrive_length];simp);have h4:=frC_lt (cdrive ((l.length:Int) + 1) [] l) (l.length + 1) 0 ⟨f,by omega,by omega,h3⟩;unfold freeC;omega
def circ (l:List Int):Bool:=decide (l.length<=8) && l.all fun x=>decide (0<=x/\x<=(l.length:Int))
theorem circ_in {l:List Int} (h:circ l = true):l.length<=8/\∀ x ∈ l,0<=x/\x < (l.length:Int) + 1:=by
 unfold circ at h;rw [Bool.and_eq_true,decide_eq_true_eq,List.all_eq_true] at h;refine ⟨h.1,fun x hx=>?_⟩;have:=of_decide_eq_true (h.2 x hx);omega
def clsL (l:List Int):List Int:=turned l ((l.length:Int) + 1) ((l.length:Int) - freeC l)
theorem clsL_in {l:List Int} (h:circ l = true):(clsL l).length<=8/\∀ x ∈ clsL l,0<=x/\x < (l.length:Int) + 1:=by
 have h1:=circ_in h;have h2:=freeC_in l;unfold clsL;rw [turned_length];exact ⟨h1.1,turned_in h1.2 (by omega)⟩
def rkY (p:List Int) (n:Nat):Nat->Nat->Int
 | 0,_=>0
 | d + 1,y=>pways (p ++ [(y:Int)]) n + rkY p n d (y + 1)
def rkL (l:List Int):Nat->Nat->Int
 | 0,_=>0
 | d + 1,i=>rkY (l.take i) l.length (rd l (i:Int)).toNat 0 + rkL l d (i + 1)
def rankL (l:List Int):Int:=rkL l l.length 0
theorem pways_in {n:Nat} (hn:n<=8) {p:List Int} (hp:p.length<=n) (hl:LowN p n):0<=pways p n/\pways p n<=43046721:=by
 have h1:=pways_eq n hn p (n - p.length) (by omega) hl;have h2:=enum_le n hn (n - p.length) p (by omega) hl;omega
theorem rkY_in {n:Nat} (hn:n<=8) {p:List Int} (hp:p.length < n) (hl:LowN p n):∀ d y,y + d<=n->0<=rkY p n d y/\rkY p n d y<=43046721 * (d:Int):=by
 intro d
 induction d with
 | zero=>intro y _;rw [rkY];omega
 | succ d ih =>
  intro y hy;have h1:=pways_in hn (p:=p ++ [(y:Int)]) (by simp;omega) (hl.snoc (by omega));have h2:=ih (y + 1) (by omega);rw [rkY];omega
theorem rkL_in {l:List Int} (h8:l.length<=8) (hl:LowN l l.length):∀ d i,i + d = l.length->0<=rkL l d i/\rkL l d i<=344373768 * (d:Int):=by
 intro d
 induction d with
 | zero=>intro i _;rw [rkL];omega
 | succ d ih =>
  intro i hi;have hx:=hl _ (List.getElem_mem (show i < l.length by omega));rw [<- rd_nat l i (by omega)] at hx;have h1:=rkY_in h8 (p:=l.take i) (by rw [List.length_take];omega) (fun x hx=>hl x (List.mem_of_mem_take hx)) (rd l (i:Int)).toNat 0 (by omega);have h2:=ih (i + 1) (by omega);rw [rkL];omega
theorem low_of {l:List Int} (h:parking l = true):LowN l l.length:=fun x hx=>parking_in h x hx
theorem rankL_in {l:List Int} (h:parking l = true):0<=rankL l/\rankL l<=2754990144:=by
 have h8:=parking_cars h;have:=rkL_in h8 (low_of h) l.length 0 (by omega);unfold rankL;omega
def atL (n r:Int):Option (List Int):=if (0<=n/\n<=8)/\0<=r then (enum n.toNat n.toNat [])[r.toNat]? else none
def countL (n:Int):Option Int:=if 0<=n/\n<=8 then some ((enum n.toNat n.toNat []).length:Int) else none
def backT:List Int:=[16,24,27,27,27,27,27,27,27]
def backL (n:Int):Option Int:=if 0<=n/\n<=8 then some (rd backT n) else none
def joinL (l m:List Int):Option (List Int):=if parking l = true/\parking m = true/\l.length + m.length<=8 then some (l ++ m.map fun x=>x + (l.length:Int)) else none
def emptyL (n:Int):Option (List Int):=if 2<=n/\n<=12 then some (List.replicate n.toNat (-1)) else none
def manyL (t:List Int):Int:=cnt (fun x=>decide (0<=x)) t
def insL (t:List Int) (n:Int):Option (List Int × Int):=if (0<=n/\n<=999)/\n ∉ t/\manyL t + 1 ≠ (t.length:Int) then some (t.set (insP t n.toNat) n,(insP t n.toNat:Int)) else none
def posL (t:List Int) (n:Int):Nat:=t.idxOf n
def remK (t:List Int) (n:Int):Option (List Int):=if (0<=n/\n<=999)/\n ∈ t then some (remL t (posL t n)) else none
def findL (t:List Int) (n:Int):Option (Int × Int):=if (0<=n/\n<=999)/\n ∈ t then some ((posL t n:Int),(cost t.length (posL t n) n.toNat:Int)) else none
def costR (t:List Int):Nat->Nat->Int
 | 0,_=>0
 | d + 1,i=>(if rd t (i:Int) = -1 then 0 else (cost t.length i (rd t (i:Int)).toNat:Int)) + costR t d (i + 1)
def costL (t:List Int):Int:=costR t t.length 0
theorem costR_in {t:List Int} (h:Tb t):∀ d i,0<=costR t d i/\costR t d i<=12 * (d:Int):=by
 intro d;have h2:=h.fit.two;have h12:=h.fit.len
 induction d with
 | zero=>intro i;rw [costR];omega
 | succ d ih =>
  intro i;have h1:=ih (i + 1);have h3:=cost_lt (i:=i) (K:=(rd t (i:Int)).toNat) (show 0 < t.length by omega);rw [costR]
  split <;> omega
theorem costL_in {t:List Int} (h:Tb t):0<=costL t/\costL t<=144:=by
 have:=costR_in h t.length 0;have:=h.fit.len;unfold costL;omega
theorem posL_ok {t:List Int} {n:Int} (h:n ∈ t):posL t n < t.length/\rd t (posL t n:Int) = n:=by
 have h1:t.idxOf n < t.length:=List.idxOf_lt_length_of_mem h;refine ⟨h1,?_⟩;unfold posL;rw [rd_nat t _ h1,List.getElem_idxOf]
theorem cntF_all (p:Int->Bool) (l:List Int) (h:∀ x ∈ l,p x = true):cnt p l = (l.length:Int):=by
 unfold cnt;rw [List.filter_eq_self.2 h]
theorem other_cell {t:List Int} (hT:Tb t) {p:Nat} (hp:p < t.length) (h0:rd t (p:Int) = -1) (hm:manyL t + 1 ≠ (t.length:Int)):∃ e:Nat,e < t.length/\e ≠ p/\rd t (e:Int) = -1:=by
 refine Classical.byContradiction fun hn=>hm ?_
 have hall:∀ e:Nat,e < t.length->e ≠ p->0<=rd t (e:Int):=by
  intro e he hne;have:=hT.fit.inn e he;refine Classical.byContradiction fun h=>hn ⟨e,he,hne,by omega⟩
 have e1:t = t.take p ++ (t[p] :: t.drop (p + 1)):=by rw [<- List.drop_eq_getElem_cons hp,List.take_append_drop]
 have a1:cnt (fun x=>decide (0<=x)) (t.take p) = ((t.take p).length:Int):=cntF_all _ _ fun x hx=>by
  obtain ⟨n,hn,rfl⟩:=(mem_take_rd (by omega)).1 hx;exact decide_eq_true (hall n (by omega) (by omega))
 have a2:cnt (fun x=>decide (0<=x)) (t.drop (p + 1)) = ((t.drop (p + 1)).length:Int):=cntF_all _ _ fun x hx=>by
  obtain ⟨n,hn,e⟩:=List.getElem_of_mem hx;rw [List.length_drop] at hn;rw [List.getElem_drop] at e;have h5:=hall (p + 1 + n) (by omega) (by omega);rw [rd_nat t _ (by omega),e] at h5;exact decide_eq_true h5
 rw [rd_nat t p hp] at h0;unfold manyL;have a3:cnt (fun x=>decide (0<=x)) t = cnt (fun x=>decide (0<=x)) (t.take p ++ (t[p] :: t.drop (p + 1))):=congrArg _ e1;rw [a3,cntK_append,cntD_cons,a1,a2,h0,if_neg (by decide),List.length_take,List.length_drop];omega
theorem ins_ok {t t':List Int} {n a:Int} (ht:table t = true) (h:insL t n = some (t',a)):table t' = true/\0<=a/\a<=999:=by
 rw [table_iff] at ht ⊢;unfold insL at h
 split at h
 ·
  rename_i hc
  obtain ⟨h0,h1,h2⟩:=hc;obtain ⟨g1,g2,g3,g4⟩:=insP_ok ht n.toNat;have h12:=ht.fit.len
  have e:((n.toNat:Nat):Int) = n:=by omega
  have hr:=ins_table ht (K:=n.toNat) (by omega) (by rw [e];exact h1) (other_cell ht g2 g3 h2);rw [e] at hr;cases h;exact ⟨hr,by omega,by omega⟩
 · cases h
theorem rem_ok {t t':List Int} {n:Int} (ht:table t = true) (h:remK t n = some t'):table t' = true:=by
 rw [table_iff] at ht ⊢;unfold remK at h
 split at h
 ·
  rename_i hc
  obtain ⟨h1,h2⟩:=posL_ok hc.2;cases h;exact (rem_table ht h1 (by omega)).1
 · cases h
theorem find_ok {t:List Int} {n a c:Int} (ht:table t = true) (h:findL t n = some (a,c)):0<=a/\a<=999/\0<=c/\c<=999:=by
 rw [table_iff] at ht;unfold findL at h
 split at h
 ·
  rename_i hc
  obtain ⟨h1,h2⟩:=posL_ok hc.2;have h12:=ht.fit.len;have h3:=cost_lt (i:=posL t n) (K:=n.toNat) (show 0 < t.length by omega);cases h;omega
 · cases h
theorem empty_fin:∀ n:Fin 11,table (List.replicate (n.1 + 2) (-1)) = true:=by decide +kernel
theorem empty_ok {n:Int} {t:List Int} (h:emptyL n = some t):table t = true:=by
 unfold emptyL at h
 split at h
 ·
  cases h;have:=empty_fin ⟨n.toNat - 2,by omega⟩
  rwa [show n.toNat - 2 + 2 = n.toNat by omega] at this
 · cases h
theorem at_ok {n r:Int} {l:List Int} (h:atL n r = some l):parking l = true:=by
 unfold atL at h
 split at h
 · exact enum_mem _ _ _ _ (List.mem_of_getElem? h)
 · cases h
theorem join_ok {l m s:List Int} (h:joinL l m = some s):parking s = true:=by
 unfold joinL at h
 split at h
 ·
  rename_i hc
  obtain ⟨hl,hm,h8⟩:=hc;cases h;have bl:=parking_in hl;have bm:=parking_in hm;have cl:=parks_conv l bl (parking_all hl);have cm:=parks_conv m bm (parking_all hm)
  have hlen:(l ++ m.map fun x=>x + (l.length:Int)).length = l.length + m.length:=by simp
  have hb:∀ x ∈ l ++ m.map fun x=>x + (l.length:Int),0<=x/\x < ((l ++ m.map fun x=>x + (l.length:Int)).length:Int):=by
   intro x hx;rw [hlen];rw [List.mem_append,List.mem_map] at hx
   rcases hx with hx | ⟨y,hy,rfl⟩
   · have:=bl x hx;omega
   · have:=bm y hy;omega
  have hp:=parks_all _ hb (fun f h0 h1=>by
   rw [hlen] at h1;rw [cntK_append]
   have em:cnt (fun x=>decide (x<=f)) (m.map fun x=>x + (l.length:Int)) = cnt (fun x=>decide (x<=f - (l.length:Int))) m:=by
    unfold cnt;rw [List.filter_map,List.length_map]
    congr 2
    refine List.filter_congr fun x _=>?_
    show decide (x + (l.length:Int)<=f) = decide (x<=f - (l.length:Int))
    by_cases h:x + (l.length:Int)<=f
    · rw [decide_eq_true h,decide_eq_true (by omega)]
    · rw [decide_eq_false h,decide_eq_false (by omega)]
   rw [em]
   by_cases hf:f < (l.length:Int)
   ·
    have h3:=cl f h0 hf;have h4:=cnt_nonneg (fun x=>decide (x<=f - (l.length:Int))) m;omega
   ·
    have h3:=cm (f - (l.length:Int)) (by omega) (by omega);have h4:=cntF_all (fun x=>decide (x<=f)) l (fun x hx=>by have:=bl x hx;exact decide_eq_true (by omega))
    omega)
  unfold parking;rw [decide_eq_true (by omega),Bool.true_and,Bool.and_eq_true,List.all_eq_true,Bool.not_eq_true',decide_eq_false_iff_not];exact ⟨fun x hx=>by have:=hb x hx;exact decide_eq_true (by omega),hp⟩
 · cases h
theorem cars_in {l:List Int} (h:parking l = true):∀ x ∈ sdrive (l.length:Int) [] l,0<=x/\x < (l.length:Int):=by
 intro x hx;obtain ⟨i,hi,rfl⟩:=List.getElem_of_mem hx
 have hlen:(sdrive (l.length:Int) [] l).length = l.length:=by rw [sdrive_length];simp
 have hb:=parking_in h l[i] (List.getElem_mem (by omega));have h1:=sdrive_ge (l.length:Int) l [] i (by omega) (by simp;omega);simp only [List.length_nil,Nat.zero_add] at h1
 have hlt:(sdrive (l.length:Int) [] l)[i] < (l.length:Int):=by
  rcases sdrive_lt (l.length:Int) (by omega) l [] _ hx with h2 | h2
  · simp at h2
  · exact h2
 rcases h1 with h1 | h1
 · exact absurd (h1 ▸ hx) (parking_all h)
 · omega
theorem dists_in {l:List Int} (h:parking l = true):∀ x ∈ dists l,0<=x/\x<=8:=by
 intro x hx;refine ⟨dists_nonneg h x hx,?_⟩;unfold dists dst at hx;rw [List.mem_map] at hx;obtain ⟨i,hi,rfl⟩:=hx;have hi:=List.mem_range.1 hi
 have hlen:(sdrive (l.length:Int) [] l).length = l.length:=by rw [sdrive_length];simp
 have h8:=parking_cars h;have h1:=cars_in h _ (List.getElem_mem (show i < (sdrive (l.length:Int) [] l).length by omega));have hb:=parking_in h l[i] (List.getElem_mem hi);rw [rd_nat _ i (by omega),rd_nat l i hi,wrap64_in _ (by omega) (by omega)];omega
theorem cuts_mem (l:List Int) (c:Int):∀ (d j:Nat) (out:List Int),c ∈ cutsR l d j out->c ∈ out \/ ((j:Int)<=c/\c < ((j + d:Nat):Int)):=by
 intro d
 induction d with
 | zero=>intro j out h;exact .inl h
 | succ d ih =>
  intro j out h;rw [cutsR] at h
  rcases ih _ _ h with h | h
  ·
   split at h
   ·
    rw [List.mem_append,List.mem_singleton] at h
    rcases h with h | h
    · exact .inl h
    · right;omega
   · exact .inl h
  · right;omega
theorem cuts_in (l:List Int):∀ c ∈ cutsL l,0<=c/\c<=(l.length:Int):=by
 intro c hc
 rcases cuts_mem l c _ _ _ hc with h | h
 · cases h
 · omega
theorem count_in {n m:Int} (h:countL n = some m):0<=m/\m<=43046721:=by
 unfold countL at h
 split at h
 ·
  cases h;have:=enum_le n.toNat (by omega) n.toNat [] (by simp) (fun x hx=>by cases hx);omega
 · cases h
theorem back_fin:∀ n:Fin 9,0<=rd backT (n.1:Int)/\rd backT (n.1:Int)<=27:=by decide +kernel
theorem back_in {n m:Int} (h:backL n = some m):0<=m/\m<=27:=by
 unfold backL at h
 split at h
 ·
  cases h;have:=back_fin ⟨n.toNat,by omega⟩;simp only [show ((n.toNat:Nat):Int) = n by omega] at this;exact this
 · cases h
def clsO (l:List Int):Option (List Int):=if circ l = true then some (clsL l) else none
theorem clsO_in {l m:List Int} (h:clsO l = some m):m.length<=8/\∀ x ∈ m,0<=x/\x<=9:=by
 unfold clsO at h
 split at h
 ·
  rename_i hc
  cases h;have h1:=clsL_in hc;have h2:=circ_in hc;exact ⟨h1.1,fun x hx=>by have:=h1.2 x hx;omega⟩
 · cases h
def dom:Fns where
 park:=parking
 tab:=table
 next l:=atL (l.length:Int) (rankL l + 1)
 at_:=atL
 cars l:=sdrive (l.length:Int) [] l
 far:=dists
 cuts:=cutsL
 rank:=rankL
 join:=joinL
 cls:=clsO
 count:=countL
 back:=backL
 empty:=emptyL
 ins:=insL
 rem:=remK
 find:=findL
 cost:=costL
theorem dom_good:Hand.Good dom where
 park l h:=⟨parking_cars h,fun x hx=>by have h1:=parking_in h x hx;have h2:=parking_cars h;omega⟩
 tab t h:=by
  rw [show dom.tab t = table t from rfl,table_iff] at h;exact ⟨h.fit.len,fun x hx=>by obtain ⟨n,hn,rfl⟩:=mem_rd hx;exact h.fit.inn n hn⟩
 next l l' _ h:=at_ok h
 at_ n r l' h:=at_ok h
 join l m l' h:=join_ok h
 empty n t h:=empty_ok h
 ins t n t' a ht h:=by have:=ins_ok ht h;exact ⟨this.1,by unfold I64;omega⟩
 rem t n t' ht h:=rem_ok ht h
 find t n a c ht h:=find_ok ht h
 cars l h:=⟨by have:=parking_cars h;show (sdrive (l.length:Int) [] l).length<=10000;rw [sdrive_length];simp;omega,fun x hx=>by have h1:=cars_in h x hx;have h2:=parking_cars h;unfold I64;omega⟩
 far l h:=⟨by have:=parking_cars h;show (dists l).length<=10000;unfold dists;rw [dst_length];omega,fun x hx=>by have h1:=dists_in h x hx;unfold I64;omega⟩
 cuts l h:=⟨by have:=parking_cars h;have:=cutsL_length l;show (cutsL l).length<=10000;omega,fun x hx=>by have h1:=cuts_in l x hx;have h2:=parking_cars h;unfold I64;omega⟩
 cls l m h:=by have:=clsO_in h;exact ⟨by omega,fun x hx=>by have:=this.2 x hx;unfold I64;omega⟩
 rank l h:=by have:=rankL_in h;show I64 (rankL l);unfold I64;omega
 count n m h:=by have:=count_in h;unfold I64;omega
 back n m h:=by have:=back_in h;unfold I64;omega
 cost t h:=by
  rw [show dom.tab t = table t from rfl,table_iff] at h;have:=costL_in h;show I64 (costL t);unfold I64;omega
theorem dom_pos:Hand.Pos dom where
 cars l h x hx:=(cars_in h x hx).1
 far l h x hx:=(dists_in h x hx).1
 cuts l h x hx:=(cuts_in l x hx).1
 cls l m h x hx:=((clsO_in h).2 x hx).1
 rank l h:=(rankL_in h).1
 count n m h:=(count_in h).1
 back n m h:=(back_in h).1
 cost t h:=by
  rw [show dom.tab t = table t from rfl,table_iff] at h;exact (costL_in h).1
 ins t n t' a ht h:=(ins_ok ht h).2.1
open Go.Proofs.YtjdlhefjgceabaaGreatDoor.PAll
theorem choose_fin:∀ n:Fin 9,∀ k:Fin 9,k.1<=n.1->impl_choose.f 60 (n.1:Int) (k.1:Int) = some (bin n.1 k.1:Int):=by decide +kernel
theorem choose_ev (n k:Nat) (hn:n<=8) (hk:k<=n):Ev (fun q=>impl_choose.f q (n:Int) (k:Int)) (bin n k:Int) :=
 Ev.of (k:=60) (fun q=>impl_choose.mono _ _ q) (choose_fin ⟨n,by omega⟩ ⟨k,by omega⟩ hk)
theorem cnChoose_fin:∀ n:Fin 9,∀ k:Fin 9,k.1<=n.1->spec_cnChoose.f 60 (n.1:Int) (k.1:Int) = some (bin n.1 k.1:Int):=by decide +kernel
theorem cnChoose_ev (n k:Nat) (hn:n<=8) (hk:k<=n):Ev (fun q=>spec_cnChoose.f q (n:Int) (k:Int)) (bin n k:Int) :=
 Ev.of (k:=60) (fun q=>spec_cnChoose.mono _ _ q) (cnChoose_fin ⟨n,by omega⟩ ⟨k,by omega⟩ hk)
theorem own_eq (l:List Int) (hs:l.length<=1099511627776):spec_l1Own.f l = some l:=by
 unfold spec_l1Own.f;simp only [Option.bind_some,List.nil_append];rw [if_pos (by simp;omega)]
theorem clone_eq (l:List Int) (hs:l.length<=1099511627776):slices_Clone_int_int.f l = some l:=by
 unfold slices_Clone_int_int.f;rw [if_pos (by omega)]
theorem completions_l2 (n:Nat) (l:List Int) (left:Nat) (hleft:left<=8) (own w:Int) (hf:0<=own/\own<=1000) (v:Nat) (kk:Nat) (hk:kk<=left) (wl:List Int) (r:Int):∀ (d m:Nat) (nxt:List Int),m + d = left - kk + 1->nxt.length = left + 1 ->
  Ev (fun k=>impl_completions.l1 k l (left:Int) own (inn left own ((v:Int) + 1) w kk d m nxt) (n:Int) (v:Int) wl (wl.length:Int) ((kk + 1:Nat):Int) (v:Int)) r ->
  Ev (fun k=>impl_completions.l2 k l (left:Int) own nxt (kk:Int) w (m:Int) (n:Int) (v:Int) wl (wl.length:Int) (kk:Int) (v:Int)) r:=by
 intro d
 induction d with
 | zero =>
  intro m nxt hm hn hg;refine Ev.step (fun k=>?_) hg;rw [impl_completions.l2,wrap64_in ((kk:Int) + (m:Int)) (by omega) (by omega),if_neg (by omega),wrap_succ kk (by omega)];rfl
 | succ d ih =>
  intro m nxt hm hn hg
  have e1:wrap64 ((kk:Int) + (m:Int)) = ((kk + m:Nat):Int):=by rw [wrap64_in _ (by omega) (by omega)];omega
  have e2:wrap64 ((wrap64 (own + (kk:Int))) + (m:Int)) = own + (kk:Int) + (m:Int):=by rw [wrap64_in (own + (kk:Int)) (by omega) (by omega),wrap64_in _ (by omega) (by omega)]
  have e3:wrap64 ((left:Int) - (kk:Int)) = ((left - kk:Nat):Int):=by rw [wrap64_in _ (by omega) (by omega)];omega
  rw [inn] at hg
  by_cases hc:own + (kk:Int) + (m:Int) >= (v:Int) + 1
  ·
   rw [if_pos hc] at hg;refine Ev.step (f:=?f1) (fun k=>?h1) ?g1
   case h1=>rw [impl_completions.l2,e1,e2,e3,if_pos (by omega),if_pos (by omega),if_pos (by omega),if_pos (by omega),Int.toNat_natCast,wrap_succ m (by omega)]
   exact Ev.bind (choose_ev (left - kk) m (by omega) (by omega)) (ih (m + 1) _ (by omega) (by simpa using hn) hg)
  ·
   rw [if_neg hc] at hg;refine Ev.step (fun k=>?_) (ih (m + 1) _ (by omega) hn hg);rw [impl_completions.l2,e1,e2,if_pos (by omega),if_neg (by omega),wrap_succ m (by omega)]
theorem completions_l1 (n:Nat) (l:List Int) (left:Nat) (hleft:left<=8) (own:Int) (hf:0<=own/\own<=1000) (v:Nat) (hv1:(v:Int) < 1000) (wl:List Int) (hw:wl.length = left + 1) (r:Int):∀ (d kk:Nat) (nxt:List Int),kk + d = left + 1->nxt.length = left + 1 ->
  Ev (fun k=>impl_completions.l0 k l (left:Int) (outr left own ((v:Int) + 1) wl d kk nxt) (n:Int) ((v + 1:Nat):Int)) r ->
  Ev (fun k=>impl_completions.l1 k l (left:Int) own nxt (n:Int) (v:Int) wl (wl.length:Int) (kk:Int) (v:Int)) r:=by
 intro d
 induction d with
 | zero =>
  intro kk nxt hm hn hg;refine Ev.step (fun k=>?_) hg;rw [impl_completions.l1,if_neg (by omega),wrap_succ v (by omega)];rfl
 | succ d ih =>
  intro kk nxt hm hn hg;rw [outr] at hg;refine Ev.step (f:=?f1) (fun k=>?h1) ?g1
  case h1=>rw [impl_completions.l1,if_pos (by omega),if_pos (by omega),if_pos (by omega)]
  exact completions_l2 n l left hleft own (rd wl (kk:Int)) hf v kk (by omega) wl r (left - kk + 1) 0 nxt (by omega) hn (ih (kk + 1) _ (by omega) (by rw [inn_length];exact hn) hg)
theorem completions_l0 (n:Nat) (hn:n<=8) (l:List Int) (left:Nat) (hleft:left<=8) (hl:l.length<=8):∀ (d v:Nat) (wl:List Int),v + d = n->wl.length = left + 1 ->
  Ev (fun k=>impl_completions.l0 k l (left:Int) wl (n:Int) (v:Int)) (rd (dp left (fun v=>upTo l (v:Int)) (fun v=>(v:Int) + 1) d v wl) (left:Int)):=by
 intro d
 induction d with
 | zero =>
  intro v wl hd hw;refine Ev.step (f:=fun _=>some (rd wl (left:Int))) (fun k=>?_) (Ev.now _);rw [impl_completions.l0,if_neg (by omega),if_pos (by omega),if_pos (by omega)]
 | succ d ih =>
  intro v wl hd hw;have hu:=upTo_in l (v:Int);have e2:wrap64 ((left:Int) + 1) = ((left + 1:Nat):Int):=wrap_succ left (by omega);rw [dp];refine Ev.step (f:=?f1) (fun k=>?h1) ?g1
  case h1=>rw [impl_completions.l0,if_pos (by omega),countIf_compl.f,Option.bind_some,e2,if_pos (by omega),if_pos (by omega),Int.toNat_natCast]
  exact completions_l1 n l left hleft (upTo l (v:Int)) (by omega) v (by omega) wl hw _ (left + 1) 0 (List.replicate (left + 1) 0) (by omega) (by simp) (ih (v + 1) _ (by omega) (by rw [outr_length];simp))
theorem completions_ev (l:List Int) (n:Nat) (hn:n<=8) (hl:l.length<=n):Ev (fun k=>impl_completions.f k l (n:Int)) (pways l n):=by
 obtain ⟨left,hleft⟩:∃ left:Nat,left = n - l.length:=⟨_,rfl⟩
 have e1:wrap64 ((n:Int) - (l.length:Int)) = (left:Int):=by rw [wrap64_in _ (by omega) (by omega)];omega
 have e2:wrap64 ((left:Int) + 1) = ((left + 1:Nat):Int):=wrap_succ left (by omega);unfold impl_completions.f;rw [e1,e2];refine Ev.pos (by omega) (Ev.pos (by omega) (Ev.bindc rfl (Ev.pos (by simp) ?_)));have h0:=completions_l0 n hn l left (by omega) (by omega) n 0 (1 :: List.replicate left 0) (by omega) (by simp);unfold pways;rw [<- hleft];exact h0
theorem cnWith_l3 (n:Nat) (l:List Int) (left:Nat) (hleft:left<=8) (own w:Int) (hf:0<=own/\own<=1000) (v:Nat) (kk:Nat) (hk:kk<=left) (wl:List Int) (r:Int):∀ (d m:Nat) (nxt:List Int),m + d = left - kk + 1->nxt.length = left + 1 ->
  Ev (fun k=>spec_cnWith.l2 k l (n:Int) (left:Int) own (v:Int) (inn left own ((v:Int) + 1) w kk d m nxt) wl (wl.length:Int) ((kk + 1:Nat):Int)) r ->
  Ev (fun k=>spec_cnWith.l3 k l (n:Int) (left:Int) own (v:Int) nxt (kk:Int) w (m:Int) wl (wl.length:Int) (kk:Int)) r:=by
 intro d
 induction d with
 | zero =>
  intro m nxt hm hn hg;refine Ev.step (fun k=>?_) hg;rw [spec_cnWith.l3,wrap64_in ((kk:Int) + (m:Int)) (by omega) (by omega),if_neg (by omega),wrap_succ kk (by omega)];rfl
 | succ d ih =>
  intro m nxt hm hn hg
  have e1:wrap64 ((kk:Int) + (m:Int)) = ((kk + m:Nat):Int):=by rw [wrap64_in _ (by omega) (by omega)];omega
  have e2:wrap64 ((wrap64 (own + (kk:Int))) + (m:Int)) = own + (kk:Int) + (m:Int):=by rw [wrap64_in (own + (kk:Int)) (by omega) (by omega),wrap64_in _ (by omega) (by omega)]
  have e3:wrap64 ((left:Int) - (kk:Int)) = ((left - kk:Nat):Int):=by rw [wrap64_in _ (by omega) (by omega)];omega
  rw [inn] at hg
  by_cases hc:own + (kk:Int) + (m:Int) >= (v:Int) + 1
  ·
   rw [if_pos hc] at hg;refine Ev.step (f:=?f1) (fun k=>?h1) ?g1
   case h1=>rw [spec_cnWith.l3,e1,e2,e3,if_pos (by omega),if_pos (by omega),if_pos (by omega),if_pos (by omega),Int.toNat_natCast,wrap_succ m (by omega)]
   exact Ev.bind (cnChoose_ev (left - kk) m (by omega) (by omega)) (ih (m + 1) _ (by omega) (by simpa using hn) hg)
  ·
   rw [if_neg hc] at hg;refine Ev.step (fun k=>?_) (ih (m + 1) _ (by omega) hn hg);rw [spec_cnWith.l3,e1,e2,if_pos (by omega),if_neg (by omega),wrap_succ m (by omega)]
theorem cnWith_l2 (n:Nat) (l:List Int) (left:Nat) (hleft:left<=8) (own:Int) (hf:0<=own/\own<=1000) (v:Nat) (hv1:(v:Int) < 1000) (wl:List Int) (hw:wl.length = left + 1) (r:Int):∀ (d kk:Nat) (nxt:List Int),kk + d = left + 1->nxt.length = left + 1 ->
  Ev (fun k=>spec_cnWith.l0 k l (n:Int) (left:Int) (outr left own ((v:Int) + 1) wl d kk nxt) own ((v + 1:Nat):Int)) r ->
  Ev (fun k=>spec_cnWith.l2 k l (n:Int) (left:Int) own (v:Int) nxt wl (wl.length:Int) (kk:Int)) r:=by
 intro d
 induction d with
 | zero =>
  intro kk nxt hm hn hg;refine Ev.step (fun k=>?_) hg;rw [spec_cnWith.l2,if_neg (by omega),wrap_succ v (by omega)];rfl
 | succ d ih =>
  intro kk nxt hm hn hg;rw [outr] at hg;refine Ev.step (f:=?f1) (fun k=>?h1) ?g1
  case h1=>rw [spec_cnWith.l2,if_pos (by omega),if_pos (by omega),if_pos (by omega)]
  exact cnWith_l3 n l left hleft own (rd wl (kk:Int)) hf v kk (by omega) wl r (left - kk + 1) 0 nxt (by omega) hn (ih (kk + 1) _ (by omega) (by rw [inn_length];exact hn) hg)
theorem cnWith_l1 (n:Nat) (l:List Int) (hl:l.length<=8) (left:Nat) (hleft:left<=8) (v:Nat) (wl:List Int) (r:Int)
  (hg:Ev (fun k=>spec_cnWith.l2 k l (n:Int) (left:Int) (upTo l (v:Int)) (v:Int) (List.replicate (left + 1) 0) wl (wl.length:Int) 0) r):∀ (d i:Nat) (b:Int),i + d = l.length->b + cnt (fun x=>decide (x = (v:Int))) (l.drop i) = upTo l (v:Int)->0<=b/\b<=(i:Int) + 100 ->
  Ev (fun k=>spec_cnWith.l1 k l (n:Int) (left:Int) wl b (v:Int) l (l.length:Int) (i:Int)) r:=by
 intro d
 induction d with
 | zero =>
  intro i b hi hb hb2;rw [List.drop_eq_nil_of_le (by omega),show cnt (fun x=>decide (x = (v:Int))) [] = 0 from rfl,Int.add_zero] at hb;refine Ev.step (fun k=>?_) hg;rw [spec_cnWith.l1,if_neg (by omega),wrap_succ left (by omega),if_pos (by omega),if_pos (by omega),Int.toNat_natCast,hb]
 | succ d ih =>
  intro i b hi hb hb2
  have h1:i < l.length:=by omega
  rw [List.drop_eq_getElem_cons h1,cntD_cons] at hb
  by_cases hx:l[i] = (v:Int)
  ·
   rw [if_pos (decide_eq_true hx)] at hb;refine Ev.step (fun k=>?_) (ih (i + 1) (b + 1) (by omega) (by omega) (by omega));rw [spec_cnWith.l1,if_pos (by omega),if_pos (by omega),if_pos (by omega),rd_nat l i h1,if_pos hx,wrap64_in (b + 1) (by omega) (by omega),wrap_succ i (by omega)]
  ·
   rw [if_neg (by rw [decide_eq_false hx];decide),Int.zero_add] at hb;refine Ev.step (fun k=>?_) (ih (i + 1) b (by omega) hb (by omega));rw [spec_cnWith.l1,if_pos (by omega),if_pos (by omega),if_pos (by omega),rd_nat l i h1,if_neg hx,wrap_succ i (by omega)]
theorem cnWith_l0 (n:Nat) (hn:n<=8) (l:List Int) (left:Nat) (hleft:left<=8) (hl:l.length<=8):∀ (d v:Nat) (wl:List Int),v + d = n->wl.length = left + 1 ->
  Ev (fun k=>spec_cnWith.l0 k l (n:Int) (left:Int) wl (upTo l ((v:Int) - 1)) (v:Int)) (rd (dp left (fun v=>upTo l (v:Int)) (fun v=>(v:Int) + 1) d v wl) (left:Int)):=by
 intro d
 induction d with
 | zero =>
  intro v wl hd hw;refine Ev.step (f:=fun _=>some (rd wl (left:Int))) (fun k=>?_) (Ev.now _);rw [spec_cnWith.l0,if_neg (by omega),if_pos (by omega),if_pos (by omega)]
 | succ d ih =>
  intro v wl hd hw;have hu:=upTo_in l (v:Int);have hu1:=upTo_in l ((v:Int) - 1);rw [dp];have h0:=ih (v + 1) (outr left (upTo l (v:Int)) ((v:Int) + 1) wl (left + 1) 0 (List.replicate (left + 1) 0)) (by omega) (by rw [outr_length];simp);rw [show (((v + 1:Nat):Int) - 1) = (v:Int) by omega] at h0;have h2:=cnWith_l2 n l left hleft (upTo l (v:Int)) (by omega) v (by omega) wl hw _ (left + 1) 0 (List.replicate (left + 1) 0) (by omega) (by simp) h0;have h1:=cnWith_l1 n l hl left hleft v wl _ h2 l.length 0 (upTo l ((v:Int) - 1)) (by omega) (by rw [List.drop_zero];exact upTo_step l (v:Int)) (by omega);refine Ev.step (fun k=>?_) h1;rw [spec_cnWith.l0,if_pos (by omega)];rfl
theorem cnWith_ev (l:List Int) (n:Nat) (hn:n<=8) (hl:l.length<=n) (hx:∀ x ∈ l,0<=x):Ev (fun k=>spec_cnWith.f k l (n:Int)) (pways l n):=by
 obtain ⟨left,hleft⟩:∃ left:Nat,left = n - l.length:=⟨_,rfl⟩
 have e1:wrap64 ((n:Int) - (l.length:Int)) = (left:Int):=by rw [wrap64_in _ (by omega) (by omega)];omega
 have e2:wrap64 ((left:Int) + 1) = ((left + 1:Nat):Int):=wrap_succ left (by omega);unfold spec_cnWith.f;rw [e1,e2];refine Ev.pos (by omega) (Ev.pos (by omega) (Ev.bindc rfl (Ev.pos (by simp) ?_)));have h0:=cnWith_l0 n hn l left (by omega) (by omega) n 0 (1 :: List.replicate left 0) (by omega) (by simp);have e3:upTo l (((0:Nat):Int) - 1) = 0:=upTo_low l hx;rw [e3] at h0;unfold pways;rw [<- hleft];exact h0
theorem rank_in {l:List Int} (h8:l.length<=8) {i:Nat} (hi:i < l.length) (hl:LowN l l.length) (y:Nat) (hy:y < l.length):(l.take i ++ [(y:Int)]).length<=l.length/\LowN (l.take i ++ [(y:Int)]) l.length:=by
 refine ⟨by rw [List.length_append,List.length_take,List.length_singleton];omega,?_⟩;have h:LowN (l.take i) l.length:=fun x hx=>hl x (List.mem_of_mem_take hx);exact h.snoc hy
theorem specRank_l1 {l:List Int} (h8:l.length<=8) (hl:LowN l l.length) {i:Nat} (hi:i < l.length) (r:Int × Bool):∀ (d y:Nat) (a:Int),rd l (i:Int) = ((y + d:Nat):Int)->0<=a/\a<=43046721 * (8 * (i:Int) + (y:Int)) ->
  Ev (fun k=>spec_RankParking.l0 k l (a + rkY (l.take i) l.length d y) l (l.length:Int) ((i + 1:Nat):Int)) r ->
  Ev (fun k=>spec_RankParking.l1 k l a (i:Int) (rd l (i:Int)) (y:Int) l (l.length:Int) (i:Int)) r:=by
 have hx:=hl _ (List.getElem_mem hi);rw [<- rd_nat l i hi] at hx;intro d
 induction d with
 | zero =>
  intro y a hd ha hg;rw [rkY,Int.add_zero] at hg;refine Ev.step (fun k=>?_) hg;rw [spec_RankParking.l1,if_neg (by omega),wrap_succ i (by omega)]
 | succ d ih =>
  intro y a hd ha hg;obtain ⟨g1,g2⟩:=rank_in h8 hi hl y (by omega);have hw:=pways_in h8 g1 g2;rw [rkY,<- Int.add_assoc] at hg;refine Ev.step (f:=?f1) (fun k=>?h1) ?g1
  case h1=>rw [spec_RankParking.l1,if_pos (by omega),if_pos (by omega),if_pos (by omega),Int.toNat_natCast,own_eq _ (by rw [List.length_take];omega),Option.bind_some,if_pos (by rw [List.length_take];omega),wrap_succ y (by omega)]
  refine Ev.bind (cnWith_ev _ l.length h8 g1 (fun x hx=>(g2 x hx).1)) ?_
  rw [wrap64_in _ (by omega) (by omega)];exact ih (y + 1) _ (by omega) (by omega) hg
theorem specRank_l0 {l:List Int} (h8:l.length<=8) (hl:LowN l l.length):∀ (d i:Nat) (a:Int),i + d = l.length->0<=a/\a<=43046721 * (8 * (i:Int)) ->
  Ev (fun k=>spec_RankParking.l0 k l a l (l.length:Int) (i:Int)) (a + rkL l d i,true):=by
 intro d
 induction d with
 | zero =>
  intro i a hi ha;rw [rkL,Int.add_zero];refine Ev.step (f:=fun _=>some (a,true)) (fun k=>?_) (Ev.now _);rw [spec_RankParking.l0,if_neg (by omega)]
 | succ d ih =>
  intro i a hi ha
  have h1:i < l.length:=by omega
  have hx:=hl _ (List.getElem_mem h1);rw [<- rd_nat l i h1] at hx;have h2:=rkY_in h8 (p:=l.take i) (by rw [List.length_take];omega) (fun x hx=>hl x (List.mem_of_mem_take hx)) (rd l (i:Int)).toNat 0 (by omega);have h3:=ih (i + 1) (a + rkY (l.take i) l.length (rd l (i:Int)).toNat 0) (by omega) (by omega);rw [rkL,<- Int.add_assoc];have h4:=specRank_l1 h8 hl h1 _ (rd l (i:Int)).toNat 0 a (by omega) (by omega) h3;refine Ev.step (fun k=>?_) h4;rw [spec_RankParking.l0,if_pos (by omega),if_pos (by omega),if_pos (by omega)];rfl
theorem specRank_ev {l:List Int} (h:parking l = true):Ev (fun k=>spec_RankParking.f k l) (rankL l,true):=by
 have h2:=paParking_ev l;rw [h] at h2;unfold spec_RankParking.f;refine Ev.bind h2 (Ev.pos rfl ?_);have h3:=specRank_l0 (parking_cars h) (low_of h) l.length 0 0 (by omega) (by omega);rw [Int.zero_add] at h3;exact h3
theorem implRank_l1 {l:List Int} (h8:l.length<=8) (hl:LowN l l.length) {i:Nat} (hi:i < l.length) (r:Int):∀ (d y:Nat) (a:Int),rd l (i:Int) = ((y + d:Nat):Int)->0<=a/\a<=43046721 * (8 * (i:Int) + (y:Int)) ->
  Ev (fun k=>impl_rank.l0 k l (a + rkY (l.take i) l.length d y) l (l.length:Int) ((i + 1:Nat):Int)) r ->
  Ev (fun k=>impl_rank.l1 k l a (i:Int) l (l.length:Int) (i:Int) (rd l (i:Int)) (y:Int)) r:=by
 have hx:=hl _ (List.getElem_mem hi);rw [<- rd_nat l i hi] at hx;intro d
 induction d with
 | zero =>
  intro y a hd ha hg;rw [rkY,Int.add_zero] at hg;refine Ev.step (fun k=>?_) hg;rw [impl_rank.l1,if_neg (by omega),wrap_succ i (by omega)]
 | succ d ih =>
  intro y a hd ha hg;obtain ⟨g1,g2⟩:=rank_in h8 hi hl y (by omega);have hw:=pways_in h8 g1 g2;rw [rkY,<- Int.add_assoc] at hg;refine Ev.step (f:=?f1) (fun k=>?h1) ?g1
  case h1=>rw [impl_rank.l1,if_pos (by omega),if_pos (by omega),if_pos (by omega),Int.toNat_natCast,clone_eq _ (by rw [List.length_take];omega),Option.bind_some,if_pos (by rw [List.length_take];omega),wrap_succ y (by omega)]
  refine Ev.bind (completions_ev _ l.length h8 g1) ?_
  rw [wrap64_in _ (by omega) (by omega)];exact ih (y + 1) _ (by omega) (by omega) hg
theorem implRank_l0 {l:List Int} (h8:l.length<=8) (hl:LowN l l.length):∀ (d i:Nat) (a:Int),i + d = l.length->0<=a/\a<=43046721 * (8 * (i:Int)) ->
  Ev (fun k=>impl_rank.l0 k l a l (l.length:Int) (i:Int)) (a + rkL l d i):=by
 intro d
 induction d with
 | zero =>
  intro i a hi ha;rw [rkL,Int.add_zero];refine Ev.step (f:=fun _=>some a) (fun k=>?_) (Ev.now _);rw [impl_rank.l0,if_neg (by omega)]
 | succ d ih =>
  intro i a hi ha
  have h1:i < l.length:=by omega
  have hx:=hl _ (List.getElem_mem h1);rw [<- rd_nat l i h1] at hx;have h2:=rkY_in h8 (p:=l.take i) (by rw [List.length_take];omega) (fun x hx=>hl x (List.mem_of_mem_take hx)) (rd l (i:Int)).toNat 0 (by omega);have h3:=ih (i + 1) (a + rkY (l.take i) l.length (rd l (i:Int)).toNat 0) (by omega) (by omega);rw [rkL,<- Int.add_assoc];have h4:=implRank_l1 h8 hl h1 _ (rd l (i:Int)).toNat 0 a (by omega) (by omega) h3;refine Ev.step (fun k=>?_) h4;rw [impl_rank.l0,if_pos (by omega),if_pos (by omega),if_pos (by omega)];rfl
theorem implRank_ev {l:List Int} (h:parking l = true):Ev (fun k=>impl_rank.f k l) (rankL l):=by
 unfold impl_rank.f;have h3:=implRank_l0 (parking_cars h) (low_of h) l.length 0 0 (by omega) (by omega);rw [Int.zero_add] at h3;exact h3
theorem implRankParking_ev {l:List Int} (h:parking l = true):Ev (fun k=>impl_RankParking.f k l) (rankL l,true):=by
 have h2:=isParking_ev l;rw [h] at h2;unfold impl_RankParking.f;exact Ev.bind h2 (Ev.pos rfl (Ev.bind (implRank_ev h) (Ev.now _)))
theorem at_next {n:Nat} (hn:n<=8) {d:Nat} (p:List Int) (hp:p.length + (d + 1) = n) (hl:LowN p n) (s:List Int)
  (go:∀ (x r:Nat),x < n->r<=1000000000->(enum n d (p ++ [(x:Int)]))[r]? = some s->Ev (fun k=>impl_parkingAt.l0 k (n:Int) (r:Int) (p ++ [(x:Int)])) s) :
  ∀ (e x r:Nat),x + e = n->r<=1000000000->(catF (fun x=>enum n d (p ++ [(x:Int)])) x e)[r]? = some s->Ev (fun k=>impl_parkingAt.l1 k (n:Int) (r:Int) p (x:Int)) s:=by
 intro e
 induction e with
 | zero=>intro x r hx hr h;simp [catF] at h
 | succ e ih =>
  intro x r hx hr h;have hc:=completions_ev (p ++ [(x:Int)]) n (by omega) (by simp;omega);have hw:=pways_eq n hn (p ++ [(x:Int)]) d (by simp;omega) (hl.snoc (by omega));rw [catF] at h;refine Ev.step (f:=?f1) (fun k=>?h1) ?g1
  case h1=>rw [impl_parkingAt.l1,clone_eq p (by omega),Option.bind_some,if_pos (by omega)]
  refine Ev.bind hc ?_
  by_cases hlt:r < (enum n d (p ++ [(x:Int)])).length
  ·
   rw [List.getElem?_append_left hlt] at h;exact Ev.pos (by omega) (Ev.pos (by omega) (go x r (by omega) hr h))
  ·
   rw [List.getElem?_append_right (by omega)] at h
   refine Ev.neg (by omega) ?_
   rw [wrap_succ x (by omega),wrap64_in _ (by omega) (by omega),hw,show (r:Int) - ((enum n d (p ++ [(x:Int)])).length:Int) = ((r - (enum n d (p ++ [(x:Int)])).length:Nat):Int) by omega];exact ih (x + 1) _ (by omega) (by omega) h
theorem at_ev {n:Nat} (hn:n<=8) (s:List Int):∀ (d:Nat) (p:List Int) (r:Nat),p.length + d = n->LowN p n->r<=1000000000->(enum n d p)[r]? = some s->Ev (fun k=>impl_parkingAt.l0 k (n:Int) (r:Int) p) s:=by
 intro d
 induction d with
 | zero =>
  intro p r hp hl hr h;rw [enum] at h
  split at h
  ·
   have e:s = p:=by
    cases r with
    | zero=>simpa using h.symm
    | succ r=>simp at h
   subst e;refine Ev.step (f:=fun _=>some s) (fun k=>?_) (Ev.now _);rw [impl_parkingAt.l0,if_neg (by omega)]
  · simp at h
 | succ d ih =>
  intro p r hp hl hr h;rw [enum] at h;have h2:=at_next hn p hp hl s (fun x r hx hr=>ih (p ++ [(x:Int)]) r (by simp;omega) (hl.snoc hx) hr) n 0 r (by omega) hr h;refine Ev.step (fun k=>?_) h2;rw [impl_parkingAt.l0,if_pos (by omega)];rfl
theorem cnAt_next {n:Nat} (hn:n<=8) {d:Nat} (p:List Int) (hp:p.length + (d + 1) = n) (hl:LowN p n) (s:List Int)
  (go:∀ (x r:Nat),x < n->r<=1000000000->(enum n d (p ++ [(x:Int)]))[r]? = some s->Ev (fun k=>spec_cnAt.l0 k (n:Int) (r:Int) (p ++ [(x:Int)])) s) :
  ∀ (e x r:Nat),x + (e + 1) = n->r<=1000000000->(catF (fun x=>enum n d (p ++ [(x:Int)])) x (e + 1))[r]? = some s->Ev (fun k=>spec_cnAt.l1 k (n:Int) (r:Int) p (x:Int) (pways (p ++ [(x:Int)]) n)) s:=by
 intro e
 induction e with
 | zero =>
  intro x r hx hr h;have hw:=pways_eq n hn (p ++ [(x:Int)]) d (by simp;omega) (hl.snoc (by omega));rw [catF,catF,List.append_nil] at h;have hlt:r < (enum n d (p ++ [(x:Int)])).length:=(List.getElem?_eq_some_iff.1 h).1;refine Ev.step (fun k=>?_) (go x r (by omega) hr h);rw [spec_cnAt.l1,if_neg (by omega),if_pos (by omega)]
 | succ e ih =>
  intro x r hx hr h;have hc:=cnWith_ev (p ++ [((x + 1:Nat):Int)]) n (by omega) (by simp;omega) (fun y hy=>((hl.snoc (show x + 1 < n by omega)) y hy).1);have hw:=pways_eq n hn (p ++ [(x:Int)]) d (by simp;omega) (hl.snoc (by omega));rw [catF] at h
  by_cases hlt:r < (enum n d (p ++ [(x:Int)])).length
  ·
   rw [List.getElem?_append_left hlt] at h;refine Ev.step (fun k=>?_) (go x r (by omega) hr h);rw [spec_cnAt.l1,if_neg (by omega),if_pos (by omega)]
  ·
   rw [List.getElem?_append_right (by omega)] at h;refine Ev.step (f:=?f1) (fun k=>?h1) ?g1
   case h1=>rw [spec_cnAt.l1,if_pos (by omega),own_eq p (by omega),Option.bind_some,if_pos (by omega),wrap_succ x (by omega)]
   refine Ev.bind hc ?_
   rw [wrap64_in _ (by omega) (by omega),hw,show (r:Int) - ((enum n d (p ++ [(x:Int)])).length:Int) = ((r - (enum n d (p ++ [(x:Int)])).length:Nat):Int) by omega];exact ih (x + 1) _ (by omega) (by omega) h
theorem cnAt_ev {n:Nat} (hn:n<=8) (s:List Int):∀ (d:Nat) (p:List Int) (r:Nat),p.length + d = n->LowN p n->r<=1000000000->(enum n d p)[r]? = some s->Ev (fun k=>spec_cnAt.l0 k (n:Int) (r:Int) p) s:=by
 intro d
 induction d with
 | zero =>
  intro p r hp hl hr h;rw [enum] at h
  split at h
  ·
   have e:s = p:=by
    cases r with
    | zero=>simpa using h.symm
    | succ r=>simp at h
   subst e;refine Ev.step (f:=fun _=>some s) (fun k=>?_) (Ev.now _);rw [spec_cnAt.l0,if_neg (by omega)]
  · simp at h
 | succ d ih =>
  intro p r hp hl hr h;rw [enum,show catF (fun x=>enum n d (p ++ [(x:Int)])) 0 n = catF (fun x=>enum n d (p ++ [(x:Int)])) 0 (n - 1 + 1) by rw [show n - 1 + 1 = n by omega]] at h;have h2:=cnAt_next hn p hp hl s (fun x r hx hr=>ih (p ++ [(x:Int)]) r (by simp;omega) (hl.snoc hx) hr) (n - 1) 0 r (by omega) hr h;have hc:=cnWith_ev (p ++ [((0:Nat):Int)]) n (by omega) (by simp;omega) (fun y hy=>((hl.snoc (show 0 < n by omega)) y hy).1);refine Ev.step (f:=?f1) (fun k=>?h1) ?g1
  case h1=>rw [spec_cnAt.l0,if_pos (by omega),own_eq p (by omega),Option.bind_some,if_pos (by omega)]
  exact Ev.bind hc h2
theorem count_fin:∀ n:Fin 9,impl_countParking.f 60 (n.1:Int) = some (DD (ownN []) needN n.1 n.1 n.1:Int)/\spec_cnCount.f 60 (n.1:Int) = some (DD (ownN []) needN n.1 n.1 n.1:Int):=by decide +kernel
theorem count_ev (n:Nat) (hn:n<=8):Ev (fun k=>impl_countParking.f k (n:Int)) ((enum n n []).length:Int):=by
 rw [enum_length n (by omega) n [] (by simp) (fun x hx=>by cases hx)];exact Ev.of (k:=60) (fun k=>impl_countParking.mono _ k) (count_fin ⟨n,by omega⟩).1
theorem cnCount_ev (n:Nat) (hn:n<=8):Ev (fun k=>spec_cnCount.f k (n:Int)) ((enum n n []).length:Int):=by
 rw [enum_length n (by omega) n [] (by simp) (fun x hx=>by cases hx)];exact Ev.of (k:=60) (fun k=>spec_cnCount.mono _ k) (count_fin ⟨n,by omega⟩).2
theorem isCars_eq (n:Int):impl_isCars.f n = some (decide (0<=n/\n<=8)):=by
 unfold impl_isCars.f;rw [between_eq];rfl
theorem cnCars_eq (n:Int):spec_cnCars.f n = some (decide (0<=n/\n<=8)):=by
 unfold spec_cnCars.f;rw [l1In_eq];rfl
def rowO (o:Option (List Int)):List Int × Bool:=(o.getD [],o.isSome)
def numO (o:Option Int):Int × Bool:=(o.getD 0,o.isSome)
theorem implCount_ev (n:Int):Ev (fun k=>impl_CountParking.f k n) (numO (countL n)):=by
 unfold impl_CountParking.f countL numO
 refine Ev.bindc (isCars_eq n) ?_
 by_cases h:0<=n/\n<=8
 ·
  rw [decide_eq_true h,if_pos h];have h2:=count_ev n.toNat (by omega);rw [show ((n.toNat:Nat):Int) = n by omega] at h2;exact Ev.pos rfl (Ev.bind h2 (Ev.now _))
 ·
  rw [decide_eq_false h,if_neg h];exact Ev.neg (by decide) (Ev.now _)
theorem specCount_ev (n:Int):Ev (fun k=>spec_CountParking.f k n) (numO (countL n)):=by
 unfold spec_CountParking.f countL numO
 refine Ev.bindc (cnCars_eq n) ?_
 by_cases h:0<=n/\n<=8
 ·
  rw [decide_eq_true h,if_pos h];have h2:=cnCount_ev n.toNat (by omega);rw [show ((n.toNat:Nat):Int) = n by omega] at h2;exact Ev.pos rfl (Ev.bind h2 (Ev.now _))
 ·
  rw [decide_eq_false h,if_neg h];exact Ev.neg (by decide) (Ev.now _)
theorem atL_some {n r:Int} (hn:0<=n/\n<=8) (hr:0<=r/\r<=((enum n.toNat n.toNat []).length:Int) - 1):∃ s,atL n r = some s/\(enum n.toNat n.toNat [])[r.toNat]? = some s:=by
 have h:r.toNat < (enum n.toNat n.toNat []).length:=by omega
 exact ⟨_,by unfold atL;rw [if_pos ⟨hn,hr.1⟩,List.getElem?_eq_getElem h],List.getElem?_eq_getElem h⟩
theorem atL_none {n r:Int} (h:¬ (0<=r/\r<=((enum n.toNat n.toNat []).length:Int) - 1)):atL n r = none:=by
 unfold atL
 by_cases hr:0<=r
 ·
  have:(enum n.toNat n.toNat [])[r.toNat]? = none:=List.getElem?_eq_none (by omega);rw [this]
  split <;> rfl
 · rw [if_neg (fun h2=>hr h2.2)]
theorem implAt_ev (n r:Int):Ev (fun k=>impl_ParkingAt.f k n r) (rowO (atL n r)):=by
 unfold impl_ParkingAt.f
 refine Ev.bindc (isCars_eq n) ?_
 by_cases h:0<=n/\n<=8
 ·
  rw [decide_eq_true h]
  have hN:((n.toNat:Nat):Int) = n:=by omega
  have h2:=count_ev n.toNat (by omega);rw [hN] at h2;have hle:=enum_le n.toNat (by omega) n.toNat [] (by simp) (fun x hx=>by cases hx);refine Ev.pos rfl (Ev.bind h2 (Ev.bindc (between_eq _ _ _) ?_));rw [wrap64_in _ (by omega) (by omega)]
  by_cases hr:0<=r/\r<=((enum n.toNat n.toNat []).length:Int) - 1
  ·
   rw [decide_eq_true hr];obtain ⟨s,h3,h4⟩:=atL_some h hr;rw [h3];have h5:=at_ev (show n.toNat<=8 by omega) s n.toNat [] r.toNat (by simp) (fun x hx=>by cases hx) (by omega) h4;rw [hN,show ((r.toNat:Nat):Int) = r by omega] at h5;refine Ev.pos rfl (Ev.bind (a:=s) ?_ (Ev.now _));unfold impl_parkingAt.f;exact h5
  ·
   rw [decide_eq_false hr,atL_none hr];exact Ev.neg (by decide) (Ev.now _)
 ·
  rw [decide_eq_false h];unfold atL;rw [if_neg (fun h2=>h h2.1)];exact Ev.neg (by decide) (Ev.now _)
theorem specAt_ev (n r:Int):Ev (fun k=>spec_ParkingAt.f k n r) (rowO (atL n r)):=by
 unfold spec_ParkingAt.f
 refine Ev.bindc (cnCars_eq n) ?_
 by_cases h:0<=n/\n<=8
 ·
  rw [decide_eq_true h]
  have hN:((n.toNat:Nat):Int) = n:=by omega
  have h2:=cnCount_ev n.toNat (by omega);rw [hN] at h2;have hle:=enum_le n.toNat (by omega) n.toNat [] (by simp) (fun x hx=>by cases hx);refine Ev.pos rfl (Ev.bind h2 (Ev.bindc (l1In_eq _ _ _) ?_));rw [wrap64_in _ (by omega) (by omega)]
  by_cases hr:0<=r/\r<=((enum n.toNat n.toNat []).length:Int) - 1
  ·
   rw [decide_eq_true hr];obtain ⟨s,h3,h4⟩:=atL_some h hr;rw [h3];have h5:=cnAt_ev (show n.toNat<=8 by omega) s n.toNat [] r.toNat (by simp) (fun x hx=>by cases hx) (by omega) h4;rw [hN,show ((r.toNat:Nat):Int) = r by omega] at h5;refine Ev.pos rfl (Ev.bind (a:=s) ?_ (Ev.now _));unfold spec_cnAt.f;exact h5
  ·
   rw [decide_eq_false hr,atL_none hr];exact Ev.neg (by decide) (Ev.now _)
 ·
  rw [decide_eq_false h];unfold atL;rw [if_neg (fun h2=>h h2.1)];exact Ev.neg (by decide) (Ev.now _)
theorem implNext_ev {l:List Int} (h:parking l = true):Ev (fun k=>impl_NextParking.f k l) (rowO (atL (l.length:Int) (rankL l + 1))):=by
 have h2:=isParking_ev l;rw [h] at h2;have h3:=rankL_in h;have h4:=implAt_ev (l.length:Int) (rankL l + 1);unfold impl_NextParking.f;refine Ev.bind h2 (Ev.pos rfl (Ev.bind (implRank_ev h) ?_));rw [wrap64_in _ (by omega) (by omega)];exact Ev.bind h4 (Ev.now _)
theorem specNext_ev {l:List Int} (h:parking l = true):Ev (fun k=>spec_NextParking.f k l) (rowO (atL (l.length:Int) (rankL l + 1))):=by
 have h3:=rankL_in h;have h4:=specAt_ev (l.length:Int) (rankL l + 1);unfold spec_NextParking.f;refine Ev.bind (specRank_ev h) (Ev.pos rfl ?_);rw [wrap64_in _ (by omega) (by omega)];exact Ev.bind h4 (Ev.now _)
end Go.Proofs.YtjdlhefjgceabaaGreatDoor.Plain
