/- SandwichSteps holds: whatever the input, the call returns true, and what came in reads as it did. No condition. -/
import Derived.Test.YtdlnalepibeibaaGreatDoorRows
import Derived.Test.YtdlnalepibeibaaGreatDoorTie
import Derived.Test.YtdlnalepibeibaaGreatDoorCards
import Derived.WalkKit
import Derived.ShutString
import Derived.ChangeOld
import Derived.Test.YtdlnalepibeibaaGreatDoorStf
section
namespace Go.Proofs.YtdlnalepibeibaaGreatDoor
open Go Go.RowKit Kx Go.IntKind
set_option maxRecDepth 100000
section
theorem Cu2{c:A2}{v:List A1}{f:Nat}:∀(k:Nat) (i:Int) (a:Bool) (b:List Int) (x:Bool) (y:List Int),At0 f c v k i a b x y=Z0 f c v k i a b x y
 |0,_,_,_,_,_=>rfl
 |k+1,i,a,b,x,y=>by
  unfold At0 Z0;simp only[Cu2 k]
theorem Cb1{c:A2}{v:List A1}{f:Nat}:Em6 f c v=Ev7 f c v:=by
 unfold Em6 Ev7;simp only[Cu2]
def bet(mo:Bool)(x y:Rat):Rat:=if decide (x<y)=mo then y else x
theorem Bc2{sv:B3}{x y:Rat}(hx:rs x)(hy:rs y):Ev fun f=>De7 f sv (R x) (R y)=some (R (bet sv.most x y)):=(Gz5 hx hy).mono fun f h=>by
 unfold De7 bet;refine sbe h ?_;rw[Cq3];cases sv.most<;>by_cases h:x<y<;>simp[h]
def bsA(mo:Bool):List Rat->Option Rat->Option Rat
 |[],o=>o
 |x::l,none=>bsA mo l (some x)
 |x::l,some y=>bsA mo l (some (bet mo y x))
def nO:Option Rat->A1
 |none=>⟨⟨false,[]⟩,⟨false,[]⟩⟩
 |some x=>R x
theorem Fx4{P:Rat->Prop}{mo:Bool}{x y:Rat}(hx:P x)(hy:P y):P (bet mo x y):=by unfold bet;split<;>assumption
theorem Da1{P:Rat->Prop}{mo:Bool}:∀(l:List Rat) (o:Option Rat),(∀x∈l,P x)->(∀x,o=some x->P x)->∀x,bsA mo l o=some x->P x
 |[],o,_,ho,x,h=>ho x h
 |y::l,none,hl,_,x,h=>Da1 l _ (fun z hz=>hl z (List.mem_cons_of_mem _ hz)) (fun z e=>by cases e;exact hl _ List.mem_cons_self) x h
 |y::l,some w,hl,ho,x,h=>Da1 l _ (fun z hz=>hl z (List.mem_cons_of_mem _ hz)) (fun z e=>by cases e;exact Fx4 (ho w rfl) (hl _ List.mem_cons_self)) x h
theorem An9{mo:Bool}:∀(l:List Rat) (o:Option Rat),l≠[]\/o.isSome=true->(bsA mo l o).isSome=true
 |[],o,h=>by rcases h with h|h;exact absurd rfl h;exact h
 |x::l,none,_=>An9 l _ (.inr rfl)
 |x::l,some y,_=>An9 l _ (.inr rfl)
def sV(m:Mdl)(tg:Nat)(mo:Bool)(z:Nat)(bs:List Nat):B3:=⟨eM m,(tg:Int),mo,(z:Int),bs.map fun(b:Nat)=>(b:Int)⟩
section
variable {sv:B3} {v:List Rat} {l1:List Cho} {g D B b:Nat}
theorem Ch6(hb:b<18446744073709551616)(hl:l1.length<=4)(hc:∀c∈l1,okT c/\okN g v.length c)(hv:∀x∈v,fr D B x)(hs:szs g D B):
 ∀(l:List Cho) (i:Nat) (o:Option Rat),l1.drop i=l->(∀x,o=some x->fr (g*D) (B*12) x)->
  Ev fun f=>∀k,l.length<k->K3 f sv (v.map R) (b:Int) (l1.map eC) k o.isSome (i:Int) (nO o).n_.neg (nO o).n_.mag (nO o).d.neg (nO o).d.mag=some (nO (bsA sv.most ((l.filter fun c=> !inB b c).map (mix v)) o),(bsA sv.most ((l.filter fun c=> !inB b c).map (mix v)) o).isSome)
 |[],i,o,hd,ho=>Ev.of fun f k hk=>by
  obtain⟨k,rfl⟩:∃j,k=j+1:=⟨k-1,by simp at hk;omega⟩
  have:=drop_nil hd;unfold K3;rw[decide_eq_false (by simp;omega)];rfl
 |c::l,i,o,hd,ho=>by
  obtain⟨hi,hb',hd'⟩:=Q4 hd;obtain⟨ct,cn⟩:=hc c (by rw[<-hb'];exact List.getElem_mem hi);have hm:=Be9 cn rfl hv hs.1 hs.2.1;have hz:=(@Af9 _ _ _ hs (mix v c)).2.2 12 (by omega) hm;have hz':∀x,o=some x->rs x:=fun x e=>(@Af9 _ _ _ hs x).2.2 12 (by omega) (ho x e)
  have hbe:Ev fun f=>∀x,o=some x->De7 f sv (R x) (R (mix v c))=some (R (bet sv.most x (mix v c))):=by
   cases o with
   |none=>exact Ev.of fun f x e=>by cases e
   |some y=>exact(Bc2 (hz' y rfl) hz).mono fun f h x e=>by cases e;exact h
  have h4:Ev fun f=>∀k,l.length<k->K3 f sv (v.map R) (b:Int) (l1.map eC) k true ((i+1:Nat):Int) (nO (bsA sv.most [mix v c] o)).n_.neg (nO (bsA sv.most [mix v c] o)).n_.mag (nO (bsA sv.most [mix v c] o)).d.neg (nO (bsA sv.most [mix v c] o)).d.mag=some (nO (bsA sv.most ((l.filter fun c=> !inB b c).map (mix v)) (bsA sv.most [mix v c] o)),(bsA sv.most ((l.filter fun c=> !inB b c).map (mix v)) (bsA sv.most [mix v c] o)).isSome):=by
   have hs1:(bsA sv.most [mix v c] o).isSome=true:=An9 _ _ (.inl (by simp));have:=Ch6 hb hl hc hv hs l (i+1) (bsA sv.most [mix v c] o) hd' (fun x e=>Da1 (P:=fr (g*D) (B*12)) _ _ (fun x hx=>by rw[List.mem_singleton]at hx;rw[hx];exact hm) ho x e)
   rwa [hs1]at this
  refine(((((Az1 cn rfl hv hs).and hbe).and h4).and (Ch6 hb hl hc hv hs l (i+1) o hd' ho)).and (Ev.ge 13)).mono fun f h k hk=> ?_
  obtain⟨⟨⟨⟨h1,h2⟩,h3⟩,h5⟩,hf⟩:=h;obtain⟨k,rfl⟩:∃j,k=j+1:=⟨k-1,by simp at hk;omega⟩
  have hk:l.length<k:=by simp at hk;omega
  unfold K3;rw[decide_eq_true (by simp;omega)];simp only[cond_true];refine sbe (x:=eC c) (by rw[D6 hi,hb']) ?_;have go:(Option.bind (Em6 f (eC c) (v.map R)) fun y22=>
   bif o.isSome then
    (Option.bind (De7 f sv (⟨(⟨(nO o).n_.neg,(nO o).n_.mag⟩:A3),(⟨(nO o).d.neg,(nO o).d.mag⟩:A3)⟩:A1) y22) fun y23=>
    P2 (i:Int) (K3 f sv (v.map R) (b:Int) (l1.map eC) k) true y23.n_.neg y23.n_.mag y23.d.neg y23.d.mag)
   else
    (P2 (i:Int) (K3 f sv (v.map R) (b:Int) (l1.map eC) k) true y22.n_.neg y22.n_.mag y22.d.neg y22.d.mag))=some (nO (bsA sv.most ((l.filter fun c=> !inB b c).map (mix v)) (bsA sv.most [mix v c] o)),(bsA sv.most ((l.filter fun c=> !inB b c).map (mix v)) (bsA sv.most [mix v c] o)).isSome):=by
   refine sbe (by rw[Cb1];exact h1) ?_;cases o with
   |none=>
    simp only[Option.isSome_none,cond_false];unfold P2;rw[wi i (by omega)];exact h3 k hk
   |some y=>
    simp only[Option.isSome_some,cond_true];refine sbe (x:=R (bet sv.most y (mix v c))) (h2 y rfl) ?_;unfold P2;rw[wi i (by omega)];exact h3 k hk
  unfold Gg6;rw[Bt8 hb ct hf,sb,sb];cases hin:inB b c with
  |true=>
   simp only[Bool.not_true,Bool.not_false,cond_true];rw[List.filter_cons_of_neg (by simp[hin])];unfold P2;rw[wi i (by omega)];exact h5 k hk
  |false=>
   simp only[Bool.not_false,Bool.not_true,cond_false];rw[List.filter_cons_of_pos (by simp[hin]),List.map_cons,show bsA sv.most (mix v c::List.map (mix v) (List.filter (fun c=> !inB b c) l)) o=bsA sv.most (List.map (mix v) (List.filter (fun c=> !inB b c) l)) (bsA sv.most [mix v c] o) by cases o<;>rfl];exact go
theorem Dl5(hl:l1.length<=4)(hc:∀c∈l1,okT c/\okN g v.length c)(hv:∀x∈v,fr D B x)(hs:szs g D B):
 ∀(l:List Cho) (i:Nat) (o:Option Rat),l1.drop i=l->(∀x,o=some x->fr (g*D) (B*12) x)->
  Ev fun f=>∀k,l.length<k->O3 f sv (v.map R) (l1.map eC) k o.isSome (i:Int) (nO o).n_.neg (nO o).n_.mag (nO o).d.neg (nO o).d.mag=some (nO (bsA sv.most (l.map (mix v)) o),(bsA sv.most (l.map (mix v)) o).isSome)
 |[],i,o,hd,ho=>Ev.of fun f k hk=>by
  obtain⟨k,rfl⟩:∃j,k=j+1:=⟨k-1,by simp at hk;omega⟩
  have:=drop_nil hd;unfold O3;rw[decide_eq_false (by simp;omega)];rfl
 |c::l,i,o,hd,ho=>by
  obtain⟨hi,hb',hd'⟩:=Q4 hd;obtain⟨ct,cn⟩:=hc c (by rw[<-hb'];exact List.getElem_mem hi);have hm:=Be9 cn rfl hv hs.1 hs.2.1;have hz:=(@Af9 _ _ _ hs (mix v c)).2.2 12 (by omega) hm;have hz':∀x,o=some x->rs x:=fun x e=>(@Af9 _ _ _ hs x).2.2 12 (by omega) (ho x e)
  have hbe:Ev fun f=>∀x,o=some x->De7 f sv (R x) (R (mix v c))=some (R (bet sv.most x (mix v c))):=by
   cases o with
   |none=>exact Ev.of fun f x e=>by cases e
   |some y=>exact(Bc2 (hz' y rfl) hz).mono fun f h x e=>by cases e;exact h
  have h4:Ev fun f=>∀k,l.length<k->O3 f sv (v.map R) (l1.map eC) k true ((i+1:Nat):Int) (nO (bsA sv.most [mix v c] o)).n_.neg (nO (bsA sv.most [mix v c] o)).n_.mag (nO (bsA sv.most [mix v c] o)).d.neg (nO (bsA sv.most [mix v c] o)).d.mag=some (nO (bsA sv.most (l.map (mix v)) (bsA sv.most [mix v c] o)),(bsA sv.most (l.map (mix v)) (bsA sv.most [mix v c] o)).isSome):=by
   have hs1:(bsA sv.most [mix v c] o).isSome=true:=An9 _ _ (.inl (by simp));have:=Dl5 hl hc hv hs l (i+1) (bsA sv.most [mix v c] o) hd' (fun x e=>Da1 (P:=fr (g*D) (B*12)) _ _ (fun x hx=>by rw[List.mem_singleton]at hx;rw[hx];exact hm) ho x e)
   rwa [hs1]at this
  refine((((Az1 cn rfl hv hs).and hbe).and h4).and (Ev.ge 13)).mono fun f h k hk=> ?_
  obtain⟨⟨⟨h1,h2⟩,h3⟩,_⟩:=h;obtain⟨k,rfl⟩:∃j,k=j+1:=⟨k-1,by simp at hk;omega⟩
  have hk:l.length<k:=by simp at hk;omega
  unfold O3;rw[decide_eq_true (by simp;omega)];simp only[cond_true];refine sbe (x:=eC c) (by rw[D6 hi,hb']) ?_;have go:(Option.bind (Em6 f (eC c) (v.map R)) fun y22=>
   bif o.isSome then
    (Option.bind (De7 f sv (⟨(⟨(nO o).n_.neg,(nO o).n_.mag⟩:A3),(⟨(nO o).d.neg,(nO o).d.mag⟩:A3)⟩:A1) y22) fun y23=>
    Z4 (i:Int) (O3 f sv (v.map R) (l1.map eC) k) true y23.n_.neg y23.n_.mag y23.d.neg y23.d.mag)
   else
    (Z4 (i:Int) (O3 f sv (v.map R) (l1.map eC) k) true y22.n_.neg y22.n_.mag y22.d.neg y22.d.mag))=some (nO (bsA sv.most (l.map (mix v)) (bsA sv.most [mix v c] o)),(bsA sv.most (l.map (mix v)) (bsA sv.most [mix v c] o)).isSome):=by
   refine sbe (by rw[Cb1];exact h1) ?_;cases o with
   |none=>
    simp only[Option.isSome_none,cond_false];unfold Z4;rw[wi i (by omega)];exact h3 k hk
   |some y=>
    simp only[Option.isSome_some,cond_true];refine sbe (x:=R (bet sv.most y (mix v c))) (h2 y rfl) ?_;unfold Z4;rw[wi i (by omega)];exact h3 k hk
  unfold Gg1;rw[sb];simp only[Bool.not_true,cond_false];rw[List.map_cons,show bsA sv.most (mix v c::List.map (mix v) l) o=bsA sv.most (List.map (mix v) l) (bsA sv.most [mix v c] o) by cases o<;>rfl];exact go
end
def bsL(m:Mdl)(mo:Bool)(v:List Rat)(s:Nat):Option Rat:=bsA mo ((m.ch.getD s []).map (mix v)) none
def bsO(m:Mdl)(mo:Bool)(b:Nat)(v:List Rat)(s:Nat):Option Rat:=bsA mo (((m.ch.getD s []).filter fun c=> !inB b c).map (mix v)) none
section
variable {m:Mdl} {tg z D B:Nat} {mo:Bool} {bs:List Nat} {v:List Rat} {s:Nat}
theorem Ee6(h:okM m)(hs:s<m.own.length)(hn:v.length=m.own.length)(hv:∀x∈v,fr D B x)(hz:szs (gP m) D B):Ev fun f=>Fr4 f (sV m tg mo z bs) (s:Int) (v.map R)=some (nO (bsL m mo v s),(bsL m mo v s).isSome):=by
 obtain⟨hl,e,_,h4,hc⟩:=U3 h hs;refine((Dl5 (sv:=sV m tg mo z bs) h4 (fun c hc'=>⟨(hc c hc').1,by rw[hn];exact(hc c hc').2.1⟩) hv hz m.ch[s] 0 none rfl (fun x e=>by cases e)).and (Ev.ge 13)).mono fun f h=> ?_
 obtain⟨h1,h2⟩:=h;unfold Fr4;refine sbe (x:=m.ch[s].map eC) (by rw[show(sV m tg mo z bs).Model.Choices=m.ch.map eL from rfl,D6 hl];rfl) ?_;unfold bsL;rw[e];exact h1 f (by omega)
theorem Ee7(h:okM m)(hs:s<m.own.length)(hn:v.length=m.own.length)(hv:∀x∈v,fr D B x)(hz:szs (gP m) D B){b:Nat}(hb:b<18446744073709551616):Ev fun f=>Dg6 f (sV m tg mo z bs) (s:Int) (v.map R) (b:Int)=some (nO (bsO m mo b v s),(bsO m mo b v s).isSome):=by
 obtain⟨hl,e,_,h4,hc⟩:=U3 h hs;refine((Ch6 (sv:=sV m tg mo z bs) hb h4 (fun c hc'=>⟨(hc c hc').1,by rw[hn];exact(hc c hc').2.1⟩) hv hz m.ch[s] 0 none rfl (fun x e=>by cases e)).and (Ev.ge 13)).mono fun f h=> ?_
 obtain⟨h1,h2⟩:=h;unfold Dg6;refine sbe (x:=m.ch[s].map eC) (by rw[show(sV m tg mo z bs).Model.Choices=m.ch.map eL from rfl,D6 hl];rfl) ?_;unfold bsO;rw[e];exact h1 f (by omega)
theorem Ep2(h:okM m)(hs:s<m.own.length)(hn:v.length=m.own.length)(hv:∀x∈v,fr D B x)(hz:szs (gP m) D B){b:Nat}{x:Rat}(hx:bsO m mo b v s=some x):fr (gP m*D) (B*12) x:=by
 obtain⟨hl,e,_,h4,hc⟩:=U3 h hs;refine Da1 (P:=fr (gP m*D) (B*12)) _ _ (fun y hy=> ?_) (fun y e=>by cases e) x hx;obtain⟨c,hc',rfl⟩:=List.mem_map.1 hy;rw[e]at hc';exact Be9 (hc c ((List.mem_filter.1 hc').1)).2.1 hn.symm hv hz.1 hz.2.1
theorem Fx8(h:okM m)(hs:s<m.own.length)(hn:v.length=m.own.length)(hv:∀x∈v,fr D B x)(hz:szs (gP m) D B){x:Rat}(hx:bsL m mo v s=some x):fr (gP m*D) (B*12) x:=by
 obtain⟨hl,e,_,h4,hc⟩:=U3 h hs;refine Da1 (P:=fr (gP m*D) (B*12)) _ _ (fun y hy=> ?_) (fun y e=>by cases e) x hx;obtain⟨c,hc',rfl⟩:=List.mem_map.1 hy;rw[e]at hc';exact Be9 (hc c hc').2.1 hn.symm hv hz.1 hz.2.1
theorem Cp9(h:okM m)(hs:s<m.own.length):(bsL m mo v s).isSome=true:=by
 obtain⟨hl,e,h0,_⟩:=U3 h hs;exact An9 _ _ (.inl (by rw[e];simpa using h0))
end
def Eu1(b:Nat)(q:Rat):Nat->Nat->List Rat->List Rat
 |0,_,l=>l
 |r+1,i,l=>Eu1 b q r (i+1) (if b.testBit i then l.set i q else l)
theorem Bt4{b:Nat}{q:Rat}:∀(r i:Nat) (l:List Rat),(Eu1 b q r i l).length=l.length
 |0,_,_=>rfl
 |r+1,i,l=>by rw[Eu1,Bt4 r];split<;>simp
theorem Eu2{P:Rat->Prop}{b:Nat}{q:Rat}(hq:P q):∀(r i:Nat) (l:List Rat),(∀x∈l,P x)->∀x∈Eu1 b q r i l,P x
 |0,_,_,h=>h
 |r+1,i,l,h=>Eu2 hq r (i+1) _ (by
  split
  ·intro x hx;rcases List.mem_or_eq_of_mem_set hx with h'|h'
   ·exact h x h'
   ·rw[h'];exact hq
  ·exact h)
def bv(m:Mdl)(mo:Bool)(b:Nat)(v:List Rat):Nat->Nat->Rat->Rat
 |0,_,q=>q
 |r+1,i,q=>bv m mo b v r (i+1) (if b.testBit i then(match bsO m mo b v i with|some x=>bet mo q x|none=>q) else q)
def Fx6(m:Mdl)(mo:Bool)(b:Nat)(v:List Rat):Rat:=bv m mo b v m.own.length 0 0
def lev(m:Mdl)(mo:Bool)(v:List Rat):List Nat->List Rat->List Rat
 |[],l=>l
 |b::bs,l=>lev m mo v bs (Eu1 b (Fx6 m mo b v) m.own.length 0 l)
section
variable {m:Mdl} {tg z D B:Nat} {mo:Bool} {bs:List Nat} {v:List Rat}
theorem Dr2{b:Nat}(hb:b<18446744073709551616)(h12:v.length<=12){q:Rat}{j:Int}{cL:Int->List A1->Option (List A1)}:∀(r i k:Nat) (l:List Rat),i+r=v.length->r<k->l.length=v.length->W6 (v.map R) (R q).n_.mag (R q).d.mag (R q).n_.neg (R q).d.neg j (b:Int) cL k (i:Int) (l.map R)=cL (i64.wrap (j+1)) ((Eu1 b q r i l).map R)
 |_,_,0,_,_,h,_=>absurd h (by omega)
 |0,i,k+1,l,hi,_,hl=>by
  unfold W6;rw[decide_eq_false (by simp;omega)];rfl
 |r+1,i,k+1,l,hi,hk,hl=>by
  unfold W6;rw[decide_eq_true (by simp;omega)];simp only[cond_true];rw[E1 (decide_eq_true (by omega)),Q2 hb (by omega),Eu1];cases b.testBit i with
  |true=>
   simp only[if_true,show((1:Int)==1)=true from rfl,cond_true];refine sbe (D6 (show i<l.length by omega)) (sbe (x:=(l.set i q).map R) (by rw[tn,List.map_set]) ?_);unfold As6;rw[wi i (by omega)];exact Dr2 hb h12 r (i+1) k _ (by omega) (by omega) (by simp[hl])
  |false=>
   simp only[Bool.false_eq_true,if_false,show((0:Int)==1)=false from rfl,cond_false];unfold As6;rw[wi i (by omega)];exact Dr2 hb h12 r (i+1) k _ (by omega) (by omega) hl
theorem Dr1(h:okM m)(hn:v.length=m.own.length)(hv:∀x∈v,fr D B x)(hz:szs (gP m) D B){b:Nat}(hb:b<18446744073709551616){l44:List A1}{j:Int}:
 ∀(r i:Nat) (q:Rat),i+r=v.length->fr (gP m*D) (B*12) q->(fr (gP m*D) (B*12) (bv m mo b v r i q))/\Ev fun f=>∀(cL:Int->List A1->Option (List A1)) k,r<k->W5 f (sV m tg mo z bs) (v.map R) l44 j (b:Int) cL k (i:Int) (R q).n_.neg (R q).n_.mag (R q).d.neg (R q).d.mag=W6 (v.map R) (R (bv m mo b v r i q)).n_.mag (R (bv m mo b v r i q)).d.mag (R (bv m mo b v r i q)).n_.neg (R (bv m mo b v r i q)).d.neg j (b:Int) cL f 0 l44
 |0,i,q,hi,hq=>⟨hq,Ev.of fun f cL k hk=>by
  obtain⟨k,rfl⟩:∃j,k=j+1:=⟨k-1,by omega⟩
  unfold W5;rw[decide_eq_false (by simp;omega)];rfl⟩
 |r+1,i,q,hi,hq=>by
  have h12:=h.n12;rw[bv];have hq':fr (gP m*D) (B*12) (if b.testBit i then(match bsO m mo b v i with|some x=>bet mo q x|none=>q) else q):=by
   split
   ·split
    ·rename_i x hx;exact Fx4 hq (Ep2 h (by omega) hn hv hz hx)
    ·exact hq
   ·exact hq
  obtain⟨ih1,ih2⟩:=Dr1 h hn hv hz hb (l44:=l44) (j:=j) r (i+1) _ (by omega) hq';refine⟨ih1,?_⟩;have hbe:Ev fun f=>∀x,bsO m mo b v i=some x->De7 f (sV m tg mo z bs) (R q) (R x)=some (R (bet mo q x)):=by
   cases hx:bsO m mo b v i with
   |none=>exact Ev.of fun f x e=>by cases e
   |some y=>exact(Bc2 (sv:=sV m tg mo z bs) ((@Af9 _ _ _ hz _).2.2 12 (by omega) hq) ((@Af9 _ _ _ hz _).2.2 12 (by omega) (Ep2 h (by omega) hn hv hz hx))).mono fun f h x e=>by cases e;exact h
  refine(((Ee7 (tg:=tg) (z:=z) (bs:=bs) (mo:=mo) h (show i<m.own.length by omega) hn hv hz hb).and hbe).and ih2).mono fun f hh cL k hk=> ?_
  obtain⟨⟨e1,e2⟩,e3⟩:=hh;obtain⟨k,rfl⟩:∃j,k=j+1:=⟨k-1,by omega⟩
  unfold W5;rw[decide_eq_true (by simp;omega)];simp only[cond_true];rw[E1 (decide_eq_true (by omega)),Q2 hb (by omega)];cases hbit:b.testBit i with
  |false=>
   simp only[hbit,Bool.false_eq_true,if_false]at e3⊢;simp only[show((0:Int)==0)=true from rfl,cond_true];unfold Ad0;rw[wi i (by omega)];exact e3 cL k (by omega)
  |true=>
   simp only[hbit,if_true]at e3⊢;simp only[show((1:Int)==0)=false from rfl,cond_false];refine sbe e1 ?_;cases hx:bsO m mo b v i with
   |none=>
    simp only[hx,Option.isSome_none,cond_false]at e3⊢;unfold Ad0;rw[wi i (by omega)];exact e3 cL k (by omega)
   |some x=>
    simp only[hx,Option.isSome_some,cond_true]at e3⊢;refine sbe (e2 x hx) ?_;unfold Ad0;rw[wi i (by omega)];exact e3 cL k (by omega)
theorem Fd4(h:okM m)(hn:v.length=m.own.length)(hv:∀x∈v,fr D B x)(hz:szs (gP m) D B){b:Nat}(hb:b<18446744073709551616):fr (gP m*D) (B*12) (Fx6 m mo b v):=by
 have:=(Dr1 (mo:=mo) (tg:=0) (z:=0) (bs:=[]) h hn hv hz hb (l44:=[]) (j:=0) v.length 0 0 (by omega) (Ab2 (Ae4 (Nat.mul_pos hz.1 hz.2.1)) (Nat.zero_le _))).1;rw[hn]at this;exact this
theorem Es5(h:okM m)(hn:v.length=m.own.length)(hv:∀x∈v,fr D B x)(hz:szs (gP m) D B):∀(bs:List Nat) (l:List Rat),(∀b∈bs,b<18446744073709551616)->(∀x∈l,fr (gP m*D) (B*12) x)->∀x∈lev m mo v bs l,fr (gP m*D) (B*12) x
 |[],_,_,hl=>hl
 |b::bs,l,hb,hl=>Es5 h hn hv hz bs _ (fun x hx=>hb x (List.mem_cons_of_mem _ hx)) (Eu2 (Fd4 h hn hv hz (hb b List.mem_cons_self)) _ _ _ hl)
theorem Dr4:∀(bs:List Nat) (l:List Rat),(lev m mo v bs l).length=l.length
 |[],_=>rfl
 |b::bs,l=>by rw[lev,Dr4 bs,Bt4]
theorem Dr3(h:okM m)(hn:v.length=m.own.length)(hv:∀x∈v,fr D B x)(hz:szs (gP m) D B)(hbs:∀b∈bs,b<18446744073709551616)(hbl:bs.length<=1000000):
 ∀(rest:List Nat) (i:Nat) (l:List Rat),bs.drop i=rest->l.length=v.length->Ev fun f=>∀k,rest.length<k->O4 f (sV m tg mo z bs) (v.map R) k (i:Int) (l.map R)=some ((lev m mo v rest l).map R)
 |[],i,l,hd,hl=>Ev.of fun f k hk=>by
  obtain⟨k,rfl⟩:∃j,k=j+1:=⟨k-1,by simp at hk;omega⟩
  have:=drop_nil hd;unfold O4;rw[decide_eq_false (by simp[sV];omega)];rfl
 |b::rest,i,l,hd,hl=>by
  have h12:=h.n12;obtain⟨hi,hb',hd'⟩:=Q4 hd;have hb:=hbs b (by rw[<-hb'];exact List.getElem_mem hi);have h2:=(Dr1 (mo:=mo) (tg:=tg) (z:=z) (bs:=bs) h hn hv hz hb (l44:=l.map R) (j:=(i:Int)) v.length 0 0 (by omega) (Ab2 (Ae4 (Nat.mul_pos hz.1 hz.2.1)) (Nat.zero_le _))).2;have ih:=Dr3 h hn hv hz hbs hbl rest (i+1) (Eu1 b (Fx6 m mo b v) m.own.length 0 l) hd' (by rw[Bt4];exact hl);refine(((Fy5.and h2).and ih).and (Ev.ge 13)).mono fun f hh k hk=> ?_
  obtain⟨⟨⟨e0,e1⟩,e2⟩,e3⟩:=hh;obtain⟨k,rfl⟩:∃j,k=j+1:=⟨k-1,by simp at hk;omega⟩
  unfold O4;rw[decide_eq_true (by simp[sV];omega)];simp only[cond_true];refine sbe (x:=(b:Int)) (by rw[show(sV m tg mo z bs).blocks=bs.map fun(b:Nat)=>(b:Int) from rfl,D6 hi,hb']) (sbe e0 ?_);have:=e1 (O4 f (sV m tg mo z bs) (v.map R) k) f (by omega);refine Eq.trans this ?_;have e4:=Dr2 (v:=v) hb (by omega) (q:=bv m mo b v v.length 0 0) (j:=(i:Int)) (cL:=O4 f (sV m tg mo z bs) (v.map R) k) v.length 0 f l (by omega) (by omega) hl;refine Eq.trans e4 ?_;rw[wi i (by omega)];have:=e2 k (by simp at hk;omega);unfold Fx6 at this;rw[<-hn]at this;refine Eq.trans this ?_;rw[lev];unfold Fx6;rw[<-hn]
theorem Ei8(h:okM m)(hn:v.length=m.own.length)(hv:∀x∈v,fr D B x)(hz:szs (gP m) D B)(hbs:∀b∈bs,b<18446744073709551616)(hbl:bs.length<=1000000){l:List Rat}(hl:l.length=v.length):Ev fun f=>Fr5 f (sV m tg mo z bs) (v.map R) (l.map R)=some ((lev m mo v bs l).map R):=by
 refine((Dr3 (tg:=tg) (z:=z) (mo:=mo) h hn hv hz hbs hbl bs 0 l rfl hl).and (Ev.ge 1000001)).mono fun f hh=> ?_
 unfold Fr5;exact hh.1 f (by omega)
def nx1(m:Mdl)(tg:Nat)(mo:Bool)(z:Nat)(up:Bool)(v:List Rat)(s:Nat):Rat:=if tg.testBit s then 1 else if up&&z.testBit s then 0 else(bsL m mo v s).getD 0
def nx0(m:Mdl)(tg:Nat)(mo:Bool)(z:Nat)(up:Bool)(v:List Rat):List Rat:=(List.range m.own.length).map (nx1 m tg mo z up v)
def nx(m:Mdl)(tg:Nat)(mo:Bool)(z:Nat)(bs:List Nat)(up:Bool)(v:List Rat):List Rat:=bif up then lev m mo v bs (nx0 m tg mo z up v) else nx0 m tg mo z up v
theorem Cl0{up:Bool}:(nx0 m tg mo z up v).length=m.own.length:=by simp[nx0]
theorem Gc9{up:Bool}:(nx m tg mo z bs up v).length=m.own.length:=by
 unfold nx;cases up with
 |true=>simp only[cond_true];rw[Dr4,Cl0]
 |false=>simp only[cond_false];exact Cl0
theorem Et2(h:okM m)(hn:v.length=m.own.length)(hv:∀x∈v,fr D B x)(hz:szs (gP m) D B)(hB:0<B){up:Bool}:∀x∈nx0 m tg mo z up v,fr (gP m*D) (B*12) x:=by
 intro x hx;obtain⟨s,hs,rfl⟩:=List.mem_map.1 hx;have hs:=List.mem_range.1 hs;have hp:=Nat.mul_pos hz.1 hz.2.1;unfold nx1;split
 ·exact Ab2 (Bz0 hp) (by omega)
 ·split
  ·exact Ab2 (Ae4 hp) (by omega)
  ·have:=Cp9 (mo:=mo) (v:=v) h hs;cases hb:bsL m mo v s with
   |none=>rw[hb]at this;cases this
   |some y=>exact Fx8 h hs hn hv hz hb
theorem Gt9(h:okM m)(hn:v.length=m.own.length)(hv:∀x∈v,fr D B x)(hz:szs (gP m) D B)(hB:0<B)(hbs:∀b∈bs,b<18446744073709551616){up:Bool}:∀x∈nx m tg mo z bs up v,fr (gP m*D) (B*12) x:=by
 unfold nx;cases up with
 |true=>exact Es5 h hn hv hz bs _ hbs (Et2 h hn hv hz hB)
 |false=>exact Et2 h hn hv hz hB
theorem Es9(h:okM m)(hn:v.length=m.own.length)(hv:∀x∈v,fr D B x)(hz:szs (gP m) D B)(hbs:∀b∈bs,b<18446744073709551616)(hbl:bs.length<=1000000)(ht:tg<18446744073709551616)(hz2:z<18446744073709551616){up:Bool}{z0:A1}:
 ∀(r i:Nat),i+r=m.own.length->Ev fun f=>∀k,r<k->Ad7 f (sV m tg mo z bs) (v.map R) up k (i:Int) (fil (fun s=>R (nx1 m tg mo z up v s)) z0 m.own.length i)=some ((nx m tg mo z bs up v).map R)
 |0,i,hi=>by
  refine(Ei8 (tg:=tg) (z:=z) (mo:=mo) (l:=nx0 m tg mo z up v) h hn hv hz hbs hbl (by rw[Cl0,hn])).mono fun f hh k hk=> ?_
  obtain⟨k,rfl⟩:∃j,k=j+1:=⟨k-1,by omega⟩
  obtain rfl:i=m.own.length:=by omega
  unfold Ad7;rw[decide_eq_false (by simp[hn]),By8];simp only[cond_false];rw[show(List.range m.own.length).map (fun s=>R (nx1 m tg mo z up v s))=(nx0 m tg mo z up v).map R by simp[nx0,Function.comp_def]];unfold nx;cases up with
  |true=>simp only[cond_true];exact sbe hh rfl
  |false=>rfl
 |r+1,i,hi=>by
  have h12:=h.n12;have hil:i<m.own.length:=by omega
  refine(((Fy5.and Gi5).and (Ee6 (tg:=tg) (z:=z) (bs:=bs) (mo:=mo) h hil hn hv hz)).and (Es9 h hn hv hz hbs hbl ht hz2 (up:=up) (z0:=z0) r (i+1) (by omega))).mono fun f hh k hk=> ?_
  obtain⟨⟨⟨e0,e1⟩,e2⟩,e3⟩:=hh;obtain⟨k,rfl⟩:∃j,k=j+1:=⟨k-1,by omega⟩
  have g1:(fil (fun s=>R (nx1 m tg mo z up v s)) z0 m.own.length i).set (0+Int.toNat (i:Int)) (R (nx1 m tg mo z up v i))=fil (fun s=>R (nx1 m tg mo z up v s)) z0 m.own.length (i+1):=by rw[tn];exact Ab1 hil
  have e4:=e3 k (by omega);have go:∀y,y=R (nx1 m tg mo z up v i)->(Option.bind (C6 (fil (fun s=>R (nx1 m tg mo z up v s)) z0 m.own.length i) (i:Int)) fun _=>Option.bind (some ((fil (fun s=>R (nx1 m tg mo z up v s)) z0 m.own.length i).set (0+Int.toNat (i:Int)) y)) fun l22=>Bb1 (i:Int) (Ad7 f (sV m tg mo z bs) (v.map R) up k) l22)=some ((nx m tg mo z bs up v).map R):=fun y hy=>by
   subst hy;refine sbe (R8 hil) (sbe (by rw[g1]) ?_);unfold Bb1;rw[wi i (by omega)];exact e4
  unfold Ad7;rw[decide_eq_true (by simp;omega)];simp only[cond_true];rw[show(sV m tg mo z bs).target=(tg:Int) from rfl,show(sV m tg mo z bs).zero=(z:Int) from rfl,E1 (decide_eq_true (by omega)),E1 (decide_eq_true (by omega)),Q2 ht (by omega),Q2 hz2 (by omega)];cases hbit:tg.testBit i with
  |true=>
   simp only[if_true,show((1:Int)==1)=true from rfl,cond_true];refine sbe e1 (go _ ?_);unfold nx1;rw[hbit];rfl
  |false=>
   simp only[Bool.false_eq_true,if_false,show((0:Int)==1)=false from rfl,cond_false];refine sbe (x:=up&&z.testBit i) (by cases up<;>cases z.testBit i<;>rfl) ?_;cases hu:up&&z.testBit i with
   |true=>
    simp only[cond_true];refine sbe e0 (go _ ?_);unfold nx1;rw[hbit,hu];rfl
   |false=>
    simp only[cond_false];refine sbe e2 (go _ ?_);unfold nx1;rw[hbit,hu];have:=Cp9 (mo:=mo) (v:=v) h hil;cases hb:bsL m mo v i with
    |none=>rw[hb]at this;cases this
    |some y=>rfl
theorem Fj2(h:okM m)(hn:v.length=m.own.length)(hv:∀x∈v,fr D B x)(hz:szs (gP m) D B)(hbs:∀b∈bs,b<18446744073709551616)(hbl:bs.length<=1000000)(ht:tg<18446744073709551616)(hz2:z<18446744073709551616){up:Bool}:Ev fun f=>F79 f (sV m tg mo z bs) (v.map R) up=some ((nx m tg mo z bs up v).map R):=by
 have h12:=h.n12;refine((Es9 (tg:=tg) (z:=z) (mo:=mo) (z0:=(⟨(⟨false,[]⟩:A3),(⟨false,[]⟩:A3)⟩:A1)) h hn hv hz hbs hbl ht hz2 (up:=up) m.own.length 0 (by omega)).and (Ev.ge 13)).mono fun f hh=> ?_
 obtain⟨h1,h2⟩:=hh;unfold F79;simp only[List.length_map,hn];refine sbe (Al7 (by omega) _) ?_;have:=h1 f (by omega)
 rwa [By7]at this
end
end
section
def Ea6(p:Nat->Bool):Nat->Nat
 |0=>0
 |n+1=>if p n then Ea6 p n|||2^n else Ea6 p n
theorem Ay3{p:Nat->Bool}:∀(n i:Nat),(Ea6 p n).testBit i=(decide (i<n)&&p i)
 |0,i=>by simp[Ea6]
 |n+1,i=>by
  rw[Ea6];by_cases h:p n=true
  ·rw[if_pos h,Nat.testBit_or,Ay3 n i,Nat.testBit_two_pow];by_cases e:n=i
   ·subst e;simp[h]
   ·by_cases e2:i<n
    ·simp[e2,e];omega
    ·simp[e2,e];omega
  ·rw[if_neg h,Ay3 n i];by_cases e:n=i
   ·subst e;simp[h]
   ·by_cases e2:i<n
    ·simp[e2];omega
    ·simp[e2];omega
theorem Fd6{p:Nat->Bool}(n:Nat):Ea6 p n<2^n:=Au5 fun i h=>by rw[Ay3]at h;simp at h;exact h.1
def Fm3(m:Mdl)(y s t:Nat):Prop:=s<m.own.length/\∃c∈m.ch.getD s [],inB y c=true/\∃b∈c.next,b.1.toNat=t
inductive Rch (m:Mdl) (y s:Nat):Nat->Prop
 |refl:Rch m y s s
 |step {t u:Nat} (h:Rch m y s t) (k:Fm3 m y t u):Rch m y s u
theorem Rch.trans{m:Mdl}{y s t u:Nat}(h:Rch m y s t)(k:Rch m y t u):Rch m y s u:=by
 induction k with
 |refl=>exact h
 |step _ k ih=>exact ih.step k
theorem Rch.mono{m:Mdl}{x y s t:Nat}(hs:sub x y)(h:Rch m x s t):Rch m y s t:=by
 induction h with
 |refl=>exact .refl
 |step _ k ih=>
  obtain⟨h1,c,h2,h3,h4⟩:=k;exact ih.step ⟨h1,c,h2,Bq8 hs h3,h4⟩
open Classical in
noncomputable def rB (m:Mdl) (y s t:Nat):Bool:=decide (Rch m y s t)
theorem Cu8{m:Mdl}{y s t:Nat}:rB m y s t=true↔Rch m y s t:=by unfold rB;simp
theorem or1{v t:Nat}(hv:v<4096)(ht:t<12):v|||2^t<4096:=by
 have h2:2^t<2^12:=Nat.pow_lt_pow_right (by decide) ht;exact Nat.or_lt_two_pow (n:=12) hv h2
section
variable {m:Mdl} {y s:Nat}
def Bt3(m:Mdl)(y s v:Nat):Prop:=v<4096/\∀t,v.testBit t=true->Rch m y s t
theorem Du6(h:okM m)(hy:y<18446744073709551616){f:Nat}(hf:13<=f){t:Nat}(ht:t<m.own.length)(hst:Rch m y s t){c:Cho}(hc:c∈m.ch.getD t []){j:Nat}(hj:j<=100){cL:Int->Int->Option Int}:∀(r i k v:Nat),i+r=c.next.length->r<k->Bt3 m y s v->
 ∃w,Bt3 m y s w/\sub v w/\(inB y c=true->∀b∈c.next.drop i,w.testBit b.1.toNat=true)/\R1 f (y:Int) (j:Int) (eC c) cL k (v:Int) (i:Int)=cL (w:Int) ((j+1:Nat):Int)
 |_,_,0,_,_,h,_=>absurd h (by omega)
 |0,i,k+1,v,hi,_,hv=>by
  refine⟨v,hv,fun _ h=>h,fun _ b hb=> ?_,?_⟩
  ·rw[List.drop_of_length_le (by omega)]at hb;cases hb
  ·unfold R1;rw[decide_eq_false (by simp[eC];omega),wi j (by omega)];rfl
 |r+1,i,k+1,v,hi,hk,hv=>by
  have hil:i<c.next.length:=by omega
  obtain⟨hl,e,_,h4,hcc⟩:=U3 h ht;have hct:=(hcc c (by rw[<-e];exact hc)).1;have h12:=hct.1;obtain⟨h0,h1⟩:=hct.2 _ (List.getElem_mem hil);obtain⟨u,hu⟩:=Int.eq_ofNat_of_zero_le h0;rw[hu,Int.toNat_natCast]at h1;have run:R1 f (y:Int) (j:Int) (eC c) cL (k+1) (v:Int) (i:Int)=bif inB y c then R1 f (y:Int) (j:Int) (eC c) cL k ((v|||2^u:Nat):Int) ((i+1:Nat):Int) else R1 f (y:Int) (j:Int) (eC c) cL k (v:Int) ((i+1:Nat):Int):=by
   rw[R1,decide_eq_true (by simp[eC];omega)];simp only[cond_true];refine sbe (x:=eB c.next[i]) (by rw[show(eC c).Next=c.next.map eB from rfl,D6 hil]) (sbe (Bt8 hy hct hf) ?_);have h2:2^u<2^12:=Nat.pow_lt_pow_right (by decide) h1;cases inB y c with
   |true=>
    simp only[cond_true];rw[show(eB c.next[i]).To=(u:Int) from hu,E1 (decide_eq_true (by omega)),Bl8 (by omega),Fj9 (by have:=hv.1;omega) (by omega)];unfold As5;rw[wi i (by omega)]
   |false=>
    simp only[cond_false];unfold As5;rw[wi i (by omega)]
  rw[run];cases hin:inB y c with
  |true=>
   simp only[cond_true];have hv':Bt3 m y s (v|||2^u):=⟨or1 hv.1 h1,fun t' ht'=>by
    rw[Nat.testBit_or,Nat.testBit_two_pow,Bool.or_eq_true,decide_eq_true_eq]at ht';rcases ht' with h'|h'
    ·exact hv.2 _ h'
    ·subst h';exact hst.step ⟨ht,c,hc,hin,c.next[i],List.getElem_mem hil,by rw[hu];rfl⟩⟩
   obtain⟨w,w1,w2,w3,w4⟩:=Du6 h hy hf ht hst hc hj (cL:=cL) r (i+1) k _ (by omega) (by omega) hv';refine⟨w,w1,fun q hq=>w2 q (by rw[Nat.testBit_or,hq];rfl),fun _ b hb=> ?_,w4⟩;rw[List.drop_eq_getElem_cons hil]at hb;rcases List.mem_cons.1 hb with rfl|hb
   ·rw[hu];exact w2 u (by rw[Nat.testBit_or,Nat.testBit_two_pow];simp)
   ·exact w3 hin b hb
  |false=>
   simp only[cond_false];obtain⟨w,w1,w2,w3,w4⟩:=Du6 h hy hf ht hst hc hj (cL:=cL) r (i+1) k _ (by omega) (by omega) hv;exact⟨w,w1,w2,fun e=>(by cases e),w4⟩
theorem Et8(h:okM m)(hy:y<18446744073709551616){f:Nat}(hf:14<=f){t:Nat}(ht:t<m.own.length)(hst:Rch m y s t){cL:Int->Int->Option Int}:∀(r i k v:Nat),i+r=(m.ch.getD t []).length->r<k->Bt3 m y s v->
 ∃w,Bt3 m y s w/\sub v w/\(∀c∈(m.ch.getD t []).drop i,inB y c=true->∀b∈c.next,w.testBit b.1.toNat=true)/\W4 f (y:Int) (t:Int) ((m.ch.getD t []).map eC) cL k (v:Int) (i:Int)=cL (w:Int) ((t+1:Nat):Int)
 |_,_,0,_,_,h,_=>absurd h (by omega)
 |0,i,k+1,v,hi,_,hv=>by
  have h12:=h.n12;refine⟨v,hv,fun _ h=>h,fun c hc=> ?_,?_⟩
  ·rw[List.drop_of_length_le (by omega)]at hc;cases hc
  ·unfold W4;rw[decide_eq_false (by rw[List.length_map,List.length_map];omega)];simp only[cond_false];unfold As4;rw[wi t (by omega)]
 |r+1,i,k+1,v,hi,hk,hv=>by
  obtain⟨hl,e,_,h4,hcc⟩:=U3 h ht;have hil:i<(m.ch.getD t []).length:=by omega
  have hcm:=List.getElem_mem hil;have hct:=(hcc _ (by rw[<-e];exact hcm)).1;have h12:=hct.1;have h4':(m.ch.getD t []).length<=4:=by rw[e];exact h4
  obtain⟨w,w1,w2,w3,w4⟩:=Du6 h hy (show 13<=f by omega) ht hst hcm (j:=i) (by omega) (cL:=W4 f (y:Int) (t:Int) ((m.ch.getD t []).map eC) cL k) (m.ch.getD t [])[i].next.length 0 f v (by omega) (by omega) hv;obtain⟨x,x1,x2,x3,x4⟩:=Et8 h hy hf ht hst (cL:=cL) r (i+1) k w (by omega) (by omega) w1;refine⟨x,x1,fun q hq=>x2 q (w2 q hq),fun c hc hin b hb=> ?_,?_⟩
  ·rw[List.drop_eq_getElem_cons hil]at hc;rcases List.mem_cons.1 hc with rfl|hc
   ·exact x2 _ (w3 hin b hb)
   ·exact x3 c hc hin b hb
  ·unfold W4;rw[decide_eq_true (by rw[List.length_map,List.length_map];omega)];simp only[cond_true];refine sbe (x:=eC (m.ch.getD t [])[i]) (by rw[D6 hil]) ?_;exact w4.trans x4
theorem Du5(h:okM m)(hy:y<18446744073709551616){f:Nat}(hf:14<=f){old:Nat}(ho:Bt3 m y s old){cL:Int->Int->Option Int}:∀(r i k v:Nat),i+r=m.own.length->r<k->Bt3 m y s v->
 ∃w,Bt3 m y s w/\sub v w/\(∀t,i<=t->old.testBit t=true->∀u,Fm3 m y t u->w.testBit u=true)/\M6 f (y:Int) m.own (m.ch.map eL) (old:Int) cL k (v:Int) (i:Int)=cL (w:Int) (old:Int)
 |_,_,0,_,_,h,_=>absurd h (by omega)
 |0,i,k+1,v,hi,_,hv=>by
  refine⟨v,hv,fun _ h=>h,fun t ht _ u hu=>absurd hu.1 (by omega),?_⟩;unfold M6;rw[decide_eq_false (by simp;omega)];rfl
 |r+1,i,k+1,v,hi,hk,hv=>by
  have h12:=h.n12;have hin:i<m.own.length:=by omega
  obtain⟨hl,e,_,h4,hcc⟩:=U3 h hin;have ho1:=ho.1;cases hbit:old.testBit i with
  |false=>
   obtain⟨x,x1,x2,x3,x4⟩:=Du5 h hy hf ho (cL:=cL) r (i+1) k v (by omega) (by omega) hv;refine⟨x,x1,x2,fun t ht hot=> ?_,?_⟩
   ·rcases Nat.lt_or_ge i t with h'|h'
    ·exact x3 t h' hot
    ·obtain rfl:t=i:=by omega
     rw[hbit]at hot;cases hot
   ·unfold M6;rw[decide_eq_true (by simp;omega)];simp only[cond_true];rw[E1 (decide_eq_true (by omega)),Q2 (by omega) (by omega),hbit];simp only[Bool.false_eq_true,if_false,show((0:Int)==0)=true from rfl,cond_true];unfold As4;rw[wi i (by omega)];exact x4
  |true=>
   obtain⟨w,w1,w2,w3,w4⟩:=Et8 h hy hf hin (ho.2 i hbit) (cL:=M6 f (y:Int) m.own (m.ch.map eL) (old:Int) cL k) (m.ch.getD i []).length 0 f v (by omega) (by rw[e];omega) hv;obtain⟨x,x1,x2,x3,x4⟩:=Du5 h hy hf ho (cL:=cL) r (i+1) k w (by omega) (by omega) w1;refine⟨x,x1,fun q hq=>x2 q (w2 q hq),fun t ht hot u hu=> ?_,?_⟩
   ·rcases Nat.lt_or_ge i t with h'|h'
    ·exact x3 t h' hot u hu
    ·obtain rfl:t=i:=by omega
     obtain⟨_,c,hc,hinb,b,hb,rfl⟩:=hu;exact x2 _ (w3 c hc hinb b hb)
   ·unfold M6;rw[decide_eq_true (by simp;omega)];simp only[cond_true];rw[E1 (decide_eq_true (by omega)),Q2 (by omega) (by omega),hbit];simp only[if_true,show((1:Int)==0)=false from rfl,cond_false];refine sbe (x:=(m.ch.getD i []).map eC) (by rw[D6 hl,e];rfl) ?_;exact w4.trans x4
theorem Et7(h:okM m)(hy:y<18446744073709551616){f:Nat}(hf:5000<=f):∀(k v old:Nat),4096<k+v->Bt3 m y s v->sub old v->v.testBit s=true->(old≠v->True)->(∀t,old.testBit t=true->∀u,Fm3 m y t u->v.testBit u=true)->
 ∃w:Nat,w<4096/\(∀t,w.testBit t=rB m y s t)/\O2 f (y:Int) m.own (m.ch.map eL) k (v:Int) (old:Int)=some (w:Int)
 |0,v,old,hk,hv,_,_,_,_=>absurd hv.1 (by omega)
 |k+1,v,old,hk,hv,hs,hvs,_,hcl=>by
  have h12:=h.n12;unfold O2;by_cases e:old=v
  ·subst e;refine⟨old,hv.1,fun t=> ?_,by rw[show(((old:Int)) !=(old:Int))=false by simp];rfl⟩;rw[Bool.eq_iff_iff,Cu8];refine⟨hv.2 t,fun hr=> ?_⟩
   induction hr with
   |refl=>exact hvs
   |step _ k ih=>exact hcl _ ih _ k
  ·rw[show((old:Int) !=(v:Int))=true by simp;omega];simp only[cond_true];obtain⟨w,w1,w2,w3,w4⟩:=Du5 h hy (show 14<=f by omega) hv (cL:=O2 f (y:Int) m.own (m.ch.map eL) k) m.own.length 0 f v (by omega) (by omega) hv;by_cases e2:v=w
   ·subst e2;cases k with
    |zero=>exact absurd w1.1 (by omega)
    |succ k=>
     refine⟨v,w1.1,fun t=> ?_,w4.trans (by unfold O2;rw[show(((v:Int)) !=(v:Int))=false by simp];rfl)⟩;rw[Bool.eq_iff_iff,Cu8];refine⟨hv.2 t,fun hr=> ?_⟩
     induction hr with
     |refl=>exact hvs
     |step _ k ih=>exact w3 _ (Nat.zero_le _) ih _ k
   ·have hlt:=Cd6 w2 e2;obtain⟨x,x1,x2,x3⟩:=Et7 h hy hf k w v (by omega) w1 w2 (w2 s hvs) (fun _=>trivial) (fun t ht u hu=>w3 t (Nat.zero_le _) ht u hu);exact⟨x,x1,x2,w4.trans x3⟩
theorem Bl9(h:okM m)(hy:y<18446744073709551616){f:Nat}(hf:5000<=f)(hs:s<m.own.length){tg:Int}{mo:Bool}{z:Int}:∃w:Nat,w<4096/\(∀t,w.testBit t=rB m y s t)/\Fn5 f (s:Int) (y:Int) m.own (m.ch.map eL) tg mo z=some (w:Int):=by
 have h12:=h.n12;have h2:2^s<2^12:=Nat.pow_lt_pow_right (by decide) (by omega);have h3:0<2^s:=Nat.pow_pos (by decide);obtain⟨w,w1,w2,w3⟩:=Et7 (s:=s) h hy hf f (2^s) 0 (by omega) ⟨h2,fun t ht=>by
  rw[Nat.testBit_two_pow,decide_eq_true_eq]at ht;subst ht;exact .refl⟩ (fun i hi=>by rw[Nat.zero_testBit]at hi;cases hi) (by rw[Nat.testBit_two_pow];simp) (fun _=>trivial) (fun t ht=>by rw[Nat.zero_testBit]at ht;cases ht)
 refine⟨w,w1,w2,?_⟩;unfold Fn5;rw[E1 (decide_eq_true (by omega)),Bl8 (by omega)];exact w3
end
end
section
structure isC(m:Mdl)(b:Nat):Prop where
 ne:b≠0
 keep:∀s,s<m.own.length->b.testBit s=true->kpC m s b=true
 all:∀s t,b.testBit s=true->b.testBit t=true->Rch m b s t
def dsj(a b:Nat):Prop:=∀i,a.testBit i=true->b.testBit i=true->False
structure Fq5(m:Mdl)(x:Nat)(bs:List Nat):Prop where
 sb:∀b∈bs,sub b x
 cs:∀b∈bs,isC m b
 dj:bs.Pairwise dsj
 top:∀c,isC m c->sub c x->∃b∈bs,sub c b
theorem Bp4:∀(bs:List Nat) (x:Nat),x<18446744073709551616->(∀b∈bs,sub b x/\b≠0)->bs.Pairwise dsj->bs.length<=x
 |[],_,_,_,_=>Nat.zero_le _
 |b::bs,x,hx,h,hd=>by
  obtain⟨h1,h2⟩:=List.pairwise_cons.1 hd;obtain⟨b1,b2⟩:=h b List.mem_cons_self;have hb:b<18446744073709551616:=Nat.lt_of_le_of_lt (Aj2 b1) hx;have hlt:sd x b<x:=Cd6 (fun i hi=>by rw[Aq6 hx hb,Bool.and_eq_true]at hi;exact hi.1) (fun e=>by
   obtain⟨i,hi⟩:=Bw5 b2;have:=Aq6 (a:=x) (b:=b) (i:=i) hx hb;rw[e,hi,b1 i hi]at this;simp at this)
  have:=Bp4 bs (sd x b) (by omega) (fun c hc=>⟨fun i hi=>by
   rw[Aq6 hx hb,(h c (List.mem_cons_of_mem _ hc)).1 i hi,Bool.true_and];cases hbi:b.testBit i with
   |false=>rfl
   |true=>exact(h1 c hc i hbi hi).elim,(h c (List.mem_cons_of_mem _ hc)).2⟩) h2
  simp only[List.length_cons];omega
section
variable {m:Mdl} {y:Nat}
noncomputable def part (m:Mdl) (y s:Nat):Nat:=Ea6 (fun t=>y.testBit t&&rB m y s t&&rB m y t s) m.own.length
theorem W1{s t:Nat}(hy:y<2^m.own.length):(part m y s).testBit t=true↔y.testBit t=true/\Rch m y s t/\Rch m y t s:=by
 unfold part;rw[Ay3,Bool.and_eq_true,Bool.and_eq_true,Bool.and_eq_true,Cu8,Cu8,decide_eq_true_eq];exact⟨fun h=>⟨h.2.1.1,h.2.1.2,h.2.2⟩,fun h=>⟨Cp6 hy h.1,⟨h.1,h.2.1⟩,h.2.2⟩⟩
theorem Bs3{s t:Nat}(hy:y<2^m.own.length)(h:(part m y s).testBit t=true):part m y t=part m y s:=by
 obtain⟨_,h1,h2⟩:=(W1 hy).1 h;refine Aa6 fun i=> ?_
 rw[Bool.eq_iff_iff,W1 hy,W1 hy];exact⟨fun k=>⟨k.1,h1.trans k.2.1,k.2.2.trans h2⟩,fun k=>⟨k.1,h2.trans k.2.1,k.2.2.trans h1⟩⟩
theorem Cb8{s:Nat}(hy:y<2^m.own.length)(hs:y.testBit s=true):(part m y s).testBit s=true:=(W1 hy).2 ⟨hs,.refl,.refl⟩
theorem Ab5{s:Nat}(hy:y<2^m.own.length):sub (part m y s) y:=fun _ h=>((W1 hy).1 h).1
theorem Ej8{s t:Nat}(hy:y<2^m.own.length)(h:(part m y s).testBit t=false)(ht:y.testBit t=true):dsj (part m y s) (part m y t):=fun i h1 h2=>by
 have e1:=Bs3 hy h1;have e2:=Bs3 hy h2;have:(part m y s).testBit t=true:=by rw[<-e1,e2];exact Cb8 hy ht
 rw[h]at this;cases this
structure Inv(m:Mdl)(y i:Nat)(l:List Nat):Prop where
 cs:∀b∈l,isC m b/\∃s,s<i/\y.testBit s=true/\(∀j,j<s->(part m y s).testBit j=false)/\sub b (part m y s)
 dj:l.Pairwise dsj
 top:∀s,s<i->y.testBit s=true->∀c,isC m c->sub c (part m y s)->∃b∈l,sub c b
theorem Ef2(hy:y<2^m.own.length)(h12:m.own.length<=12){d1:List Int}{d2:List (List A2)}{d3:Int}{d4:Bool}{d5:Int}{s v48:Nat}(hs:s<12)(h48:v48<4096){rec_:Int->List Int->List (List A2)->Int->Bool->Int->Option (List Int)}{cL:Int->List Int->Option (List Int)}{l:List Nat}(hl:l.length<=5000)(hb:∀b∈l,b<4096){res:Option (List Int)}
 (h1:(∃b∈l,b.testBit s=true)->cL ((s+1:Nat):Int) (l.map fun(b:Nat)=>(b:Int))=res)
 (h2:(∀b∈l,b.testBit s=false)->(∀j,j<s->v48.testBit j=false)->(Option.bind (rec_ (v48:Int) d1 d2 d3 d4 d5) fun y235=>Option.bind (app (l.map fun(b:Nat)=>(b:Int)) y235) fun l11=>cL ((s+1:Nat):Int) l11)=res)
 (h3:(∀b∈l,b.testBit s=false)->(∃j,j<s/\v48.testBit j=true)->cL ((s+1:Nat):Int) (l.map fun(b:Nat)=>(b:Int))=res):
 ∀(r i k:Nat),i+r=l.length->r<k->(∀b∈l.take i,b.testBit s=false)->An0 d1 d2 d3 d4 d5 (l.map fun(b:Nat)=>(b:Int)) (s:Int) (v48:Int) rec_ cL k (i:Int)=res
 |_,_,0,_,h,_=>absurd h (by omega)
 |0,i,k+1,hi,_,hn=>by
  have h2p:2^s<2^12:=Nat.pow_lt_pow_right (by decide) hs;have h0p:0<2^s:=Nat.pow_pos (by decide);rw[List.take_of_length_le (by omega)]at hn;unfold An0;rw[decide_eq_false (by simp;omega)];simp only[cond_false];rw[E1 (decide_eq_true (by omega)),Bq6 (by omega),Eo8 (by omega) (by omega)];unfold Am9;rw[wi s (by omega)];by_cases e:∀j,j<s->v48.testBit j=false
  ·have:v48&&&(2^s-1)=0:=Aa6 fun j=>by
    rw[Nat.testBit_and,Ao8,Nat.zero_testBit];by_cases hj:j<s
    ·rw[e j hj];rfl
    ·simp[hj]
   rw[this];exact h2 hn e
  ·have hex:∃j,j<s/\v48.testBit j=true:=by
    simp only[Classical.not_forall]at e;obtain⟨j,h1,h2⟩:=e;exact⟨j,h1,by simpa using h2⟩
   obtain⟨j,hj1,hj2⟩:=hex;rw[show((((v48&&&(2^s-1):Nat):Int))==0)=false from beq_false_of_ne (fun e0=>by
    have e0:v48&&&(2^s-1)=0:=by omega
    have:=Nat.testBit_and v48 (2^s-1) j;rw[e0,Nat.zero_testBit,hj2,Ao8,decide_eq_true hj1]at this;cases this)]
   exact h3 hn ⟨j,hj1,hj2⟩
 |r+1,i,k+1,hi,hk,hn=>by
  have hil:i<l.length:=by omega
  have hbi:=hb _ (List.getElem_mem hil);unfold An0;rw[decide_eq_true (by simp;omega)];simp only[cond_true];refine sbe (D6 hil) ?_;rw[E1 (decide_eq_true (by omega)),Q2 (by omega) (by omega)];cases hbit:l[i].testBit s with
  |true=>
   simp only[if_true,show((1:Int)==1)=true from rfl,cond_true];unfold Am9;rw[wi s (by omega)];exact h1 ⟨_,List.getElem_mem hil,hbit⟩
  |false=>
   simp only[Bool.false_eq_true,if_false,show((0:Int)==1)=false from rfl,cond_false];rw[wi i (by omega)];refine Ef2 hy h12 hs h48 hl hb h1 h2 h3 r (i+1) k (by omega) (by omega) fun b hb'=> ?_
   rw[List.take_succ_eq_append_getElem hil]at hb';rcases List.mem_append.1 hb' with h|h
   ·exact hn b h
   ·rw[List.mem_singleton]at h;rw[h];exact hbit
theorem Fx9(h:okM m)(hy:y<2^m.own.length){f:Nat}(hf:5000<=f){tg:Int}{mo:Bool}{z:Int}{s:Nat}(hs:y.testBit s=true){rec_:Int->List Int->List (List A2)->Int->Bool->Int->Option (List Int)}{cL:Int->List Int->Option (List Int)}{l8:List Int}:∀(r i k:Nat),i+r=m.own.length->r<k->
 Ai2 f m.own (m.ch.map eL) tg mo z l8 (s:Int) (y:Int) rec_ cL k ((Ea6 (fun t=>y.testBit t&&rB m y s t&&rB m y t s) i:Nat):Int) (i:Int)=(bif part m y s==y then some [(y:Int)] else An0 m.own (m.ch.map eL) tg mo z l8 (s:Int) ((part m y s:Nat):Int) rec_ cL f 0)
 |_,_,0,_,h=>absurd h (by omega)
 |0,i,k+1,hi,_=>by
  obtain rfl:i=m.own.length:=by omega
  unfold Ai2;rw[decide_eq_false (by simp)];simp only[cond_false];rw[show((((Ea6 (fun t=>y.testBit t&&rB m y s t&&rB m y t s) m.own.length:Nat):Int))==(y:Int))=(part m y s==y) by
   unfold part;rw[Bool.eq_iff_iff,beq_iff_eq,beq_iff_eq];omega]
  rfl
 |r+1,i,k+1,hi,hk=>by
  have h12:=h.n12;have h12':=p12 h.n12;have hin:i<m.own.length:=by omega
  have hsn:=Cp6 hy hs;have h2:2^i<2^12:=Nat.pow_lt_pow_right (by decide) (by omega);have hv:=Nat.lt_of_lt_of_le (Fd6 (p:=fun t=>y.testBit t&&rB m y s t&&rB m y t s) i) (Nat.le_of_lt h2);obtain⟨w1,a1,a2,a3⟩:=Bl9 (y:=y) h (by omega) hf hsn (tg:=tg) (mo:=mo) (z:=z);obtain⟨w2,b1,b2,b3⟩:=Bl9 (y:=y) h (by omega) hf hin (tg:=tg) (mo:=mo) (z:=z);have ih:=Fx9 h hy hf hs (tg:=tg) (mo:=mo) (z:=z) (rec_:=rec_) (cL:=cL) (l8:=l8) r (i+1) k (by omega) (by omega);unfold Ai2;rw[decide_eq_true (by simp;omega)];simp only[cond_true];refine sbe (x:=y.testBit i&&rB m y s i&&rB m y i s) ?_ ?_
  ·rw[E1 (decide_eq_true (by omega)),Q2 (by omega) (by omega)];cases y.testBit i with
   |false=>rfl
   |true=>
    simp only[if_true,show((1:Int)==1)=true from rfl,cond_true,Bool.true_and];rw[a3,sb,E1 (decide_eq_true (by omega)),Q2 (by omega) (by omega),a2 i];cases rB m y s i with
    |false=>rfl
    |true=>
     simp only[if_true,show((1:Int)==1)=true from rfl,cond_true,Bool.true_and];rw[b3,sb,E1 (decide_eq_true (by omega)),Q2 (by omega) (by omega),b2 s];cases rB m y i s<;>rfl
  ·rw[Ea6]at ih;cases hp:y.testBit i&&rB m y s i&&rB m y i s with
   |true=>
    rw[if_pos hp]at ih;simp only[cond_true];rw[E1 (decide_eq_true (by omega)),Bl8 (by omega),Fj9 (by omega) (by omega)];unfold Bj5;rw[wi i (by omega)];exact ih
   |false=>
    rw[if_neg (by rw[hp];decide)]at ih;simp only[cond_false];unfold Bj5;rw[wi i (by omega)];exact ih
theorem Eo9{α:Type}{a b:List α}(h:a.length+b.length<=2147483648):app a b=some (a++b):=by
 unfold app;rw[decide_eq_true h];rfl
theorem Gb7(h:okM m)(hy:y<2^m.own.length){c s:Nat}(hc:isC m c)(hs:c.testBit s=true)(hsub:sub c y):sub c (part m y s):=fun i hi=>
 (W1 hy).2 ⟨hsub i hi,(hc.all s i hs hi).mono hsub,(hc.all i s hi hs).mono hsub⟩
theorem Shr.uniq{n:Nat}{kp:Nat->Nat->Bool}{x y z:Nat}(h:Shr n kp x y)(k:Shr n kp x z):y=z:=
 Aa6 fun i=>Bool.eq_iff_iff.2 ⟨k.top y h.sb h.keep i,h.top z k.sb k.keep i⟩
theorem Dm2(h:okM m){x:Nat}(hx:x<4096)(hS:Shr m.own.length (kpC m) x y)(hy:y<2^m.own.length){tg:Int}{mo:Bool}{z:Int}{g:Nat->List Nat}
 (hg:∀p,sub p y->p≠y->Fq5 m p (g p)):
 ∀(r i:Nat) (l:List Nat),i+r=m.own.length->Inv m y i l->(∀s,s<i->y.testBit s=true->part m y s≠y)->∃bs,Fq5 m x bs/\∀(f:Nat),5000<=f->∀(rec_:Int->List Int->List (List A2)->Int->Bool->Int->Option (List Int)),(∀p,sub p y->p≠y->rec_ (p:Int) m.own (m.ch.map eL) tg mo z=some ((g p).map fun(b:Nat)=>(b:Int)))->∀k,r<k->
  N9 f m.own (m.ch.map eL) tg mo z (y:Int) rec_ k (i:Int) (l.map fun(b:Nat)=>(b:Int))=some (bs.map fun(b:Nat)=>(b:Int))
 |0,i,l,hi,hI,_=>by
  obtain rfl:i=m.own.length:=by omega
  refine⟨l,⟨fun b hb=> ?_,fun b hb=>(hI.cs b hb).1,hI.dj,fun c hc hcx=> ?_⟩,fun f hf rec_ hrec k hk=> ?_⟩
  ·obtain⟨_,s,_,_,_,hsb⟩:=hI.cs b hb;exact fun i hi=>hS.sb i (Ab5 hy i (hsb i hi))
  ·have hcy:=hS.top c hcx hc.keep;obtain⟨s,hs⟩:=Bw5 hc.ne;exact hI.top s (Cp6 hy (hcy s hs)) (hcy s hs) c hc (Gb7 h hy hc hs hcy)
  ·obtain⟨k,rfl⟩:∃j,k=j+1:=⟨k-1,by omega⟩
   unfold N9;rw[decide_eq_false (by simp)];rfl
 |r+1,i,l,hi,hI,hne=>by
  have h12:=h.n12;have h12':=p12 h.n12;have hin:i<m.own.length:=by omega
  have hl:l.length<=y:=Bp4 l y (by omega) (fun b hb=>⟨fun j hj=>by
   obtain⟨_,s,_,_,_,hsb⟩:=hI.cs b hb;exact Ab5 hy j (hsb j hj),(hI.cs b hb).1.ne⟩) hI.dj
  have hlb:∀b∈l,b<4096:=fun b hb=>by
   obtain⟨_,s,_,_,_,hsb⟩:=hI.cs b hb;exact Nat.lt_of_le_of_lt (Aj2 fun j hj=>Ab5 hy j (hsb j hj)) (by omega)
  have head:∀(f:Nat) (rec_:Int->List Int->List (List A2)->Int->Bool->Int->Option (List Int)) (k:Nat),N9 f m.own (m.ch.map eL) tg mo z (y:Int) rec_ (k+1) (i:Int) (l.map fun(b:Nat)=>(b:Int))=bif y.testBit i then(Ai2 f m.own (m.ch.map eL) tg mo z (l.map fun(b:Nat)=>(b:Int)) (i:Int) (y:Int) rec_ (N9 f m.own (m.ch.map eL) tg mo z (y:Int) rec_ k) f 0 0) else N9 f m.own (m.ch.map eL) tg mo z (y:Int) rec_ k ((i+1:Nat):Int) (l.map fun(b:Nat)=>(b:Int)):=fun f rec_ k=>by
   rw[N9,decide_eq_true (by simp;omega)];simp only[cond_true];rw[E1 (decide_eq_true (by omega)),Q2 (by omega) (by omega)];cases y.testBit i with
   |false=>
    simp only[Bool.false_eq_true,if_false,show((0:Int)==0)=true from rfl,cond_true,cond_false];unfold Am9;rw[wi i (by omega)]
   |true=>rfl
  cases hbit:y.testBit i with
  |false=>
   rw[hbit]at head;obtain⟨bs,e1,e2⟩:=Dm2 h hx hS hy (tg:=tg) (mo:=mo) (z:=z) hg r (i+1) l (by omega) ⟨fun b hb=>by
    obtain⟨a,s,b1,b2⟩:=hI.cs b hb;exact⟨a,s,by omega,b2⟩,hI.dj,fun s hs hys=>by
    rcases Nat.lt_or_ge s i with h'|h'
    ·exact hI.top s h' hys
    ·obtain rfl:s=i:=by omega
     rw[hbit]at hys;cases hys⟩ fun s hs hys=>by
    rcases Nat.lt_or_ge s i with h'|h'
    ·exact hne s h' hys
    ·obtain rfl:s=i:=by omega
     rw[hbit]at hys;cases hys
   refine⟨bs,e1,fun f hf rec_ hrec k hk=> ?_⟩;obtain⟨k,rfl⟩:∃j,k=j+1:=⟨k-1,by omega⟩
   rw[head];exact e2 f hf rec_ hrec k (by omega)
  |true=>
   rw[hbit]at head;simp only[cond_true]at head;have h3:=fun(f:Nat) (hf:5000<=f) (rec_:Int->List Int->List (List A2)->Int->Bool->Int->Option (List Int)) (k:Nat)=>Fx9 h hy hf hbit (tg:=tg) (mo:=mo) (z:=z) (rec_:=rec_) (cL:=N9 f m.own (m.ch.map eL) tg mo z (y:Int) rec_ k) (l8:=l.map fun(b:Nat)=>(b:Int)) m.own.length 0 f (by omega) (by omega)
   by_cases he:part m y i=y
   ·refine⟨[y],⟨fun b hb=> ?_,fun b hb=> ?_,by simp,fun c hc hcx=>⟨y,by simp,hS.top c hcx hc.keep⟩⟩,fun f hf rec_ hrec k hk=> ?_⟩
    ·rw[List.mem_singleton]at hb;rw[hb];exact hS.sb
    ·rw[List.mem_singleton]at hb;subst hb;refine⟨fun e=>(by rw[e,Nat.zero_testBit]at hbit;cases hbit),hS.keep,fun s t hs ht=> ?_⟩;rw[<-he]at hs ht;exact((W1 hy).1 hs).2.2.trans ((W1 hy).1 ht).2.1
    ·obtain⟨k,rfl⟩:∃j,k=j+1:=⟨k-1,by omega⟩
     rw[head];refine(h3 f hf rec_ k).trans ?_;rw[beq_iff_eq.2 he];rfl
   ·have hne':∀s,s<i+1->y.testBit s=true->part m y s≠y:=fun s hs hys=>by
     rcases Nat.lt_or_ge s i with h'|h'
     ·exact hne s h' hys
     ·obtain rfl:s=i:=by omega
      exact he
    have keepI:(∃s,s<i/\(part m y i).testBit s=true)->Inv m y (i+1) l:=fun⟨s0,hs0,hp0⟩=>⟨fun b hb=>by
     obtain⟨a,s,b1,b2⟩:=hI.cs b hb;exact⟨a,s,by omega,b2⟩,hI.dj,fun s hs hys=>by
     rcases Nat.lt_or_ge s i with h'|h'
     ·exact hI.top s h' hys
     ·obtain rfl:s=i:=by omega
      rw[<-Bs3 hy hp0];exact hI.top s0 hs0 (Ab5 hy _ hp0)⟩
    have hp4:part m y i<4096:=Nat.lt_of_le_of_lt (Aj2 (Ab5 hy)) (by omega);have hps2:=hg (part m y i) (Ab5 hy) he;have hpl:(g (part m y i)).length<=part m y i:=Bp4 _ _ (by omega) (fun b hb=>⟨hps2.sb b hb,(hps2.cs b hb).ne⟩) hps2.dj;have fin:∀(bs:List Nat),(∀(f:Nat),5000<=f->∀(rec_:Int->List Int->List (List A2)->Int->Bool->Int->Option (List Int)),(∀p,sub p y->p≠y->rec_ (p:Int) m.own (m.ch.map eL) tg mo z=some ((g p).map fun(b:Nat)=>(b:Int)))->∀k,r<k->An0 m.own (m.ch.map eL) tg mo z (l.map fun(b:Nat)=>(b:Int)) (i:Int) ((part m y i:Nat):Int) rec_ (N9 f m.own (m.ch.map eL) tg mo z (y:Int) rec_ k) f 0=some (bs.map fun(b:Nat)=>(b:Int)))->∀(f:Nat),5000<=f->∀(rec_:Int->List Int->List (List A2)->Int->Bool->Int->Option (List Int)),(∀p,sub p y->p≠y->rec_ (p:Int) m.own (m.ch.map eL) tg mo z=some ((g p).map fun(b:Nat)=>(b:Int)))->∀k,r+1<k->
     N9 f m.own (m.ch.map eL) tg mo z (y:Int) rec_ k (i:Int) (l.map fun(b:Nat)=>(b:Int))=some (bs.map fun(b:Nat)=>(b:Int)):=fun bs hb f hf rec_ hrec k hk=>by
     obtain⟨k,rfl⟩:∃j,k=j+1:=⟨k-1,by omega⟩
     rw[head];refine(h3 f hf rec_ k).trans ?_;rw[show(part m y i==y)=false from beq_false_of_ne he];exact hb f hf rec_ hrec k (by omega)
    by_cases c1:∃b∈l,b.testBit i=true
    ·obtain⟨b,hb,hbi⟩:=c1;obtain⟨_,s,hs,hys,_,hsb⟩:=hI.cs b hb;obtain⟨bs,e1,e2⟩:=Dm2 h hx hS hy (tg:=tg) (mo:=mo) (z:=z) hg r (i+1) l (by omega) (keepI ⟨s,hs,by rw[Bs3 hy (hsb i hbi)];exact Cb8 hy hys⟩) hne';refine⟨bs,e1,fin bs fun f hf rec_ hrec k hk=> ?_⟩;exact Ef2 hy h12 (show i<12 by omega) hp4 (by omega) hlb (fun _=>e2 f hf rec_ hrec k hk) (fun hn=>absurd hbi (by rw[hn b hb];decide)) (fun hn=>absurd hbi (by rw[hn b hb];decide)) l.length 0 f (by omega) (by omega) (by simp)
    ·by_cases c2:∀j,j<i->(part m y i).testBit j=false
     ·have hI2:Inv m y (i+1) (l++g (part m y i)):=by
       refine⟨fun b hb=> ?_,?_,fun s hs hys c hc hcs=> ?_⟩
       ·rcases List.mem_append.1 hb with hb|hb
        ·obtain⟨a,s,b1,b2⟩:=hI.cs b hb;exact⟨a,s,by omega,b2⟩
        ·exact⟨hps2.cs b hb,i,by omega,hbit,c2,hps2.sb b hb⟩
       ·refine List.pairwise_append.2 ⟨hI.dj,hps2.dj,fun a ha b hb j hja hjb=> ?_⟩;obtain⟨_,s,hs,hys,_,hsb⟩:=hI.cs a ha;have hns:(part m y i).testBit s=false:=c2 s hs;exact Ej8 hy hns hys j (hps2.sb b hb j hjb) (hsb j hja)
       ·rcases Nat.lt_or_ge s i with h'|h'
        ·obtain⟨b,hb,h5⟩:=hI.top s h' hys c hc hcs;exact⟨b,List.mem_append_left _ hb,h5⟩
        ·obtain rfl:s=i:=by omega
         obtain⟨b,hb,h5⟩:=hps2.top c hc hcs;exact⟨b,List.mem_append_right _ hb,h5⟩
      obtain⟨bs,e1,e2⟩:=Dm2 h hx hS hy (tg:=tg) (mo:=mo) (z:=z) hg r (i+1) _ (by omega) hI2 hne';refine⟨bs,e1,fin bs fun f hf rec_ hrec k hk=> ?_⟩;exact Ef2 hy h12 (show i<12 by omega) hp4 (by omega) hlb (fun hn=>absurd hn c1) (fun _ _=>by
       rw[hrec _ (Ab5 hy) he,sb,Eo9 (by simp;omega),sb,<-List.map_append];exact e2 f hf rec_ hrec k hk) (fun _ ⟨j,hj,hj2⟩=>absurd hj2 (by rw[c2 j hj];decide)) l.length 0 f (by omega) (by omega) (by simp)
     ·have c2':∃j,j<i/\(part m y i).testBit j=true:=by
       simp only[Classical.not_forall]at c2;obtain⟨j,g1,g2⟩:=c2;exact⟨j,g1,by simpa using g2⟩
      obtain⟨bs,e1,e2⟩:=Dm2 h hx hS hy (tg:=tg) (mo:=mo) (z:=z) hg r (i+1) l (by omega) (keepI c2') hne';refine⟨bs,e1,fin bs fun f hf rec_ hrec k hk=> ?_⟩;exact Ef2 hy h12 (show i<12 by omega) hp4 (by omega) hlb (fun hn=>absurd hn c1) (fun _ hn=>absurd hn c2) (fun _ _=>e2 f hf rec_ hrec k hk) l.length 0 f (by omega) (by omega) (by simp)
theorem Ef4(h:okM m){tg:Int}{mo:Bool}{z:Int}:∀x,x<2^m.own.length->∃bs,Fq5 m x bs/\∀f,5001+x<=f->F76 f (x:Int) m.own (m.ch.map eL) tg mo z=some (bs.map fun(b:Nat)=>(b:Int)):=by
 intro x;have h12':=p12 h.n12
 induction x using Nat.strongRecOn with
 |_ x ih=>
  intro hx;obtain⟨y,_,hy2⟩:=Hb6 h (Nat.le_refl 5000) (tg:=tg) (mo:=mo) (z:=z) (show x<4096 by omega);have hyx:=Aj2 hy2.sb;have hex:∀p,∃bs,sub p y->p≠y->Fq5 m p bs/\∀f,5001+p<=f->F76 f (p:Int) m.own (m.ch.map eL) tg mo z=some (bs.map fun(b:Nat)=>(b:Int)):=fun p=>by
   by_cases hp:sub p y/\p≠y
   ·have:=Cd6 hp.1 hp.2;obtain⟨bs,k⟩:=ih p (by omega) (by omega);exact⟨bs,fun _ _=>k⟩
   ·exact⟨[],fun a b=>absurd ⟨a,b⟩ hp⟩
  obtain⟨g,hg⟩:=Classical.axiomOfChoice hex;obtain⟨bs,e1,e2⟩:=Dm2 (tg:=tg) (mo:=mo) (z:=z) (g:=g) h (by omega) hy2 (by omega) (fun p a b=>(hg p a b).1) m.own.length 0 [] (by omega) ⟨fun b hb=>(by cases hb),.nil,fun s hs=>absurd hs (by omega)⟩ (fun s hs=>absurd hs (by omega));refine⟨bs,e1,fun f hf=> ?_⟩;obtain⟨f,rfl⟩:∃j,f=j+1:=⟨f-1,by omega⟩
  obtain⟨y',hy1',hy2'⟩:=Hb6 h (show 5000<=f by omega) (tg:=tg) (mo:=mo) (z:=z) (show x<4096 by omega);obtain rfl:=hy2'.uniq hy2;rw[F76];exact sbe hy1' (e2 f (by omega) _ (fun p a b=>(hg p a b).2 f (by have:=Cd6 a b;omega)) f (by have:=h.n12;omega))
end
end
section
theorem El5:∀k,F11 (k+206)=some true:=by intro k;kernel_rfl
def rnd(m:Mdl)(tg:Nat)(mo:Bool)(z:Nat)(bs:List Nat)(up:Bool):Nat->List Rat
 |0=>bif up then(List.range m.own.length).map fun s=>if z.testBit s then 0 else 1 else bgn m tg
 |k+1=>nx m tg mo z bs up (rnd m tg mo z bs up k)
section
variable {m:Mdl} {tg z:Nat} {mo:Bool} {bs:List Nat}
theorem Cl8{up:Bool}:∀k,(rnd m tg mo z bs up k).length=m.own.length
 |0=>by unfold rnd;cases up<;>simp[bgn]
 |k+1=>by rw[rnd,Gc9]
theorem Dp6(h:okM m){k:Nat}(hk:k<=61):szs (gP m) (gP m^k) (12^k):=Fm4 (Ap6 h).1 (Ap6 h).2.1 hk
theorem Cv3(h:okM m)(hbs:∀b∈bs,b<18446744073709551616){up:Bool}:∀k,k<=61->∀x∈rnd m tg mo z bs up k,fr (gP m^k) (12^k) x
 |0,_,x,hx=>by
  unfold rnd at hx;cases up with
  |true=>
   simp only[cond_true]at hx;obtain⟨s,_,rfl⟩:=List.mem_map.1 hx;split
   ·exact Ab2 (Ae4 (by simp)) (by decide)
   ·exact Bz0 (by simp)
  |false=>
   simp only[cond_false]at hx;obtain⟨s,_,rfl⟩:=List.mem_map.1 hx;split
   ·exact Bz0 (by simp)
   ·exact Ab2 (Ae4 (by simp)) (by decide)
 |k+1,hk,x,hx=>by
  rw[rnd]at hx;have:=Gt9 (tg:=tg) (mo:=mo) (z:=z) h (Cl8 k) (Cv3 h hbs k (by omega)) (Dp6 h (show k<=61 by omega)) (Nat.pow_pos (by decide)) hbs x hx
  rwa [<-Nat.pow_succ,<-Nat.pow_succ']at this
theorem Ge6(h:okM m)(hbs:∀b∈bs,b<18446744073709551616){up:Bool}{k:Nat}(hk:k<=61):∀x∈rnd m tg mo z bs up k,rs x:=fun x hx=>(Af9 (Dp6 h hk)).1 (Cv3 h hbs k hk x hx)
theorem Fh5{D B p q L:Nat}{r:Rat}(h:fr D B r)(hD:D<=10^p)(hB:B<=10^q)(hpq:p+q<L):Ce3 (L:Int) r=true:=by
 obtain⟨h1,h2⟩:=Er0 h hD hB hpq;have e:((10^L:Nat):Int)=(10:Int)^L:=by push_cast;rfl
 refine(Ao7 (k:=L) (by omega)).2 ⟨?_,?_⟩
 ·have:=Ae0 h10 (n:=(r.num.natAbs:Int)) (by omega);have h3:=F7 h10 h1;unfold lt at h3;have:(r.num.natAbs:Int)<10^L:=Int.lt_of_lt_of_le this h3;omega
 ·have:=Ae0 h10 (n:=(r.den:Int)) (by omega);have h3:=F7 h10 h2;unfold lt at h3;rw[Int.natAbs_natCast]at h3;have:(r.den:Int)<10^L:=Int.lt_of_lt_of_le this h3;omega
theorem Fk8(h:okM m)(hbs:∀b∈bs,b<18446744073709551616){up:Bool}{k:Nat}(hk:k<=61):∀x∈rnd m tg mo z bs up k,Ce3 2000 x=true:=fun x hx=>by
 have h1:=Cv3 h hbs k hk x hx;obtain⟨a,b,_⟩:=Ap6 h;refine Fh5 (L:=2000) (p:=4*k) (q:=2*k) h1 ?_ ?_ (by omega)
 ·rw[Nat.pow_mul];exact Nat.pow_le_pow_left (by omega) _
 ·rw[Nat.pow_mul];exact Nat.pow_le_pow_left (by decide) _
theorem Cr4{l:List Rat}(hl:l.length<=1000000)(hr:∀x∈l,rs x)(hf:∀x∈l,Ce3 2000 x=true):
 ∀(r i:Nat),i+r=l.length->Ev fun f=>∀k,r<k->Ba7 f (l.map R) k (i:Int) ((l.take i).map T)=some (l.map T,true)
 |0,i,hi=>Ev.of fun f k hk=>by
  obtain⟨k,rfl⟩:∃j,k=j+1:=⟨k-1,by omega⟩
  unfold Ba7;rw[decide_eq_false (by simp;omega),List.take_of_length_le (by omega)];rfl
 |r+1,i,hi=>by
  have hil:i<l.length:=by omega
  refine((Fy6 (hr l[i] (List.getElem_mem hil))).and (Cr4 hl hr hf r (i+1) (by omega))).mono fun f h k hk=> ?_
  obtain⟨h1,h3⟩:=h;obtain⟨k,rfl⟩:∃j,k=j+1:=⟨k-1,by omega⟩
  have hrs:=hr l[i] (List.getElem_mem hil);unfold Ba7;rw[decide_eq_true (by simp;omega)];simp only[cond_true];refine sbe (D6 hil) (sbe (Bq5 ⟨Nat.le_trans hrs.1 (by decide),Nat.le_trans hrs.2 (by decide)⟩) ?_);rw[hf _ (List.getElem_mem hil)];simp only[Bool.not_true,cond_false];refine sbe h1 (sbe (Eo9 (by simp;omega)) ?_);rw[wi i (by omega)];have:=h3 k (by omega)
  rwa [List.take_add_one,List.getElem?_eq_getElem hil,Option.toList_some,List.map_append]at this
theorem Dp0{l:List Rat}(hl:l.length<=1000000)(hr:∀x∈l,rs x)(hf:∀x∈l,Ce3 2000 x=true):Ev fun f=>F41 f (l.map R)=some (l.map T,true):=by
 refine((Cr4 hl hr hf l.length 0 (by omega)).and (Ev.ge 1000001)).mono fun f h=> ?_
 obtain⟨h1,h2⟩:=h;unfold F41;refine sbe (x:=[]) ?_ (h1 f (by omega));simp only[List.length_map];unfold mkL;rw[show(decide ((0:Int)<=0)&&decide ((0:Int)<=((l.length:Nat):Int))&&decide (((l.length:Nat):Int)<=2147483648))=true by simp;omega];rfl
theorem Gm7{f:Nat}(h:10<=f):cap 10 f=10:=by
 obtain⟨k,rfl⟩:∃k,f=k+10:=⟨f-10,by omega⟩
 rfl
theorem Hj1{z i:Nat}(hz:z<18446744073709551616)(hi:i<64):i64.wrap (u64.wrap (BitVec.ofInt u64.bits 1&&& ~~~BitVec.ofInt u64.bits (Int.fdiv (z:Int) (2^(min (Int.toNat (i:Int)) u64.bits)))).toNat)=if z.testBit i then 0 else 1:=by
 have h1:Int.fdiv (z:Int) (2^(min (Int.toNat (i:Int)) u64.bits))=((z/2^i:Nat):Int):=by
  have:min (Int.toNat (i:Int)) u64.bits=i:=by simp[IntKind.bits];omega
  rw[this,Int.fdiv_eq_ediv_of_nonneg _ (by exact_mod_cast Nat.zero_le _)];norm_cast
 have hd:z/2^i<18446744073709551616:=Nat.lt_of_le_of_lt (Nat.div_le_self _ _) hz;have h2:sd 1 (z/2^i)=if z.testBit i then 0 else 1:=by
  refine Aa6 fun j=> ?_
  rw[Aq6 (by decide) hd,Nat.testBit_div_two_pow];by_cases hj:j=0
  ·subst hj;rw[Nat.zero_add];cases z.testBit i<;>rfl
  ·have:(1:Nat).testBit j=false:=by
    rw[show(1:Nat)=2^0 from rfl,Nat.testBit_two_pow];exact decide_eq_false (by omega)
   rw[this,Bool.false_and];split
   ·rw[Nat.zero_testBit]
   ·exact this.symm
 have h3:=De2 1 (z/2^i);rw[h1];rw[show((1:Nat):Int)=1 from rfl]at h3;rw[h3,h2];split<;>rfl
def prs(m:Mdl)(tg:Nat)(mo:Bool)(z:Nat)(bs:List Nat):Nat->Nat->List (List A1×List A1)
 |0,_=>[]
 |n+1,i=>((rnd m tg mo z bs false i).map R,(rnd m tg mo z bs true i).map R)::prs m tg mo z bs n (i+1)
theorem Cc5(h:okM m)(hbs:∀b∈bs,b<18446744073709551616)(hbl:bs.length<=1000000)(ht:tg<18446744073709551616)(hz2:z<18446744073709551616):
 ∀(n i:Nat),i+n<=61->Ev fun f=>Bj2 f (sV m tg mo z bs) n ((rnd m tg mo z bs false i).map R) ((rnd m tg mo z bs true i).map R)=some (prs m tg mo z bs n i)
 |0,i,_=>Ev.of fun f=>rfl
 |n+1,i,hi=>by
  have hn:∀up,Ev fun f=>F79 f (sV m tg mo z bs) ((rnd m tg mo z bs up i).map R) up=some ((rnd m tg mo z bs up (i+1)).map R):=fun up=>Fj2 h (Cl8 i) (Cv3 h hbs i (by omega)) (Dp6 h (by omega)) hbs hbl ht hz2
  refine(((hn false).and (hn true)).and (Cc5 h hbs hbl ht hz2 n (i+1) (by omega))).mono fun f hh=> ?_
  obtain⟨⟨h1,h2⟩,h3⟩:=hh;unfold Bj2;exact sbe (sbe h1 (sbe h2 h3)) rfl
theorem Cc4(h:okM m)(hbs:∀b∈bs,b<18446744073709551616)(hbl:bs.length<=1000000)(ht:tg<18446744073709551616)(hz2:z<18446744073709551616){z0:A1}{l1:List A1}(h1:l1.length=m.own.length):
 ∀(r i:Nat),i+r=m.own.length->Ev fun f=>∀k,r<k->Ba6 f (sV m tg mo z bs) l1 k (i:Int) (fil (fun s=>R (if z.testBit s then 0 else 1)) z0 m.own.length i) (fil (fun s=>R (if tg.testBit s then 1 else 0)) z0 m.own.length i)=some (prs m tg mo z bs 10 0)
 |0,i,hi=>by
  refine((Cc5 (mo:=mo) h hbs hbl ht hz2 10 0 (by omega)).and (Ev.ge 10)).mono fun f hh k hk=> ?_
  obtain⟨k,rfl⟩:∃j,k=j+1:=⟨k-1,by omega⟩
  obtain rfl:i=m.own.length:=by omega
  unfold Ba6;rw[decide_eq_false (by simp[h1]),By8,By8,Gm7 hh.2];simp only[cond_false];have:=hh.1;simp only[rnd,bgn,cond_true,cond_false,List.map_map]at this;exact this
 |r+1,i,hi=>by
  have hil:i<m.own.length:=by omega
  have h12:=h.n12;refine((Fy5.and Gi5).and (Cc4 h hbs hbl ht hz2 (z0:=z0) h1 r (i+1) (by omega))).mono fun f hh k hk=> ?_
  obtain⟨⟨e0,e1⟩,h3⟩:=hh;obtain⟨k,rfl⟩:∃j,k=j+1:=⟨k-1,by omega⟩
  have g1:(fil (fun s=>R (if tg.testBit s then 1 else 0)) z0 m.own.length i).set (0+Int.toNat (i:Int)) (R (if tg.testBit i then 1 else 0))=fil (fun s=>R (if tg.testBit s then 1 else 0)) z0 m.own.length (i+1):=by rw[tn];exact Ab1 hil
  have g2:(fil (fun s=>R (if z.testBit s then 0 else 1)) z0 m.own.length i).set (0+Int.toNat (i:Int)) (R (if z.testBit i then 0 else 1))=fil (fun s=>R (if z.testBit s then 0 else 1)) z0 m.own.length (i+1):=by rw[tn];exact Ab1 hil
  unfold Ba6;rw[decide_eq_true (by simp[h1];omega)];simp only[cond_true];rw[show(sV m tg mo z bs).target=(tg:Int) from rfl,show(sV m tg mo z bs).zero=(z:Int) from rfl,E1 (decide_eq_true (by omega)),Q2 ht (by omega)];refine sbe (x:=R (if tg.testBit i then 1 else 0)) ?_ ?_
  ·cases hbit:tg.testBit i with
   |true=>exact e1
   |false=>exact e0
  rw[E1 (decide_eq_true (by omega)),Hj1 hz2 (by omega)];refine sbe (x:=R (if z.testBit i then 0 else 1)) ?_ (sbe (R8 hil) (sbe rfl (sbe (R8 hil) (sbe rfl ?_))))
  ·cases hbit:z.testBit i with
   |true=>exact e0
   |false=>exact e1
  ·rw[g1,g2,wi i (by omega)];exact h3 k (by omega)
theorem Dv7(h:okM m)(hbs:∀b∈bs,b<18446744073709551616)(hbl:bs.length<=1000000)(ht:tg<18446744073709551616)(hz2:z<18446744073709551616):Ev fun f=>F39 f (sV m tg mo z bs)=some (prs m tg mo z bs 10 0):=by
 have h12:=h.n12;refine((Cc4 (mo:=mo) h hbs hbl ht hz2 (z0:=(⟨(⟨false,[]⟩:A3),(⟨false,[]⟩:A3)⟩:A1)) (l1:=List.replicate m.own.length (⟨(⟨false,[]⟩:A3),(⟨false,[]⟩:A3)⟩:A1)) (by simp) m.own.length 0 (by omega)).and (Ev.ge 13)).mono fun f hh=> ?_
 obtain⟨h1,h2⟩:=hh;unfold F39;simp only[List.length_map,show(sV m tg mo z bs).Model.Owner=m.own from rfl];refine sbe (Al7 (by omega) _) (sbe (Al7 (by omega) _) ?_);have:=h1 f (by omega)
 rwa [By7,By7]at this
theorem Cs9{l:List Int}(hl:l.length<=1000000)(h0:∀x∈l,x=0):∀(r i k:Nat),i+r=l.length->r<k->Ak1 l 1 k (i:Int)=some (-1)
 |0,i,k,hi,hk=>by
  obtain⟨k,rfl⟩:∃j,k=j+1:=⟨k-1,by omega⟩
  unfold Ak1;rw[decide_eq_false (by simp;omega)];rfl
 |r+1,i,k,hi,hk=>by
  obtain⟨k,rfl⟩:∃j,k=j+1:=⟨k-1,by omega⟩
  have hil:i<l.length:=by omega
  unfold Ak1;rw[decide_eq_true (by simp;omega)];simp only[cond_true];refine sbe (C7 hil) ?_;rw[h0 _ (List.getElem_mem hil),wi i (by omega)];exact Cs9 hl h0 r (i+1) k (by omega) (by omega)
theorem Dq9(h:okM m)(h0:∀x∈m.own,x=0):Ev fun f=>F62 f (eM m)=some true:=by
 have h12:=h.n12;refine((Be8 h).and (Ev.ge 13)).mono fun f hh=> ?_
 unfold F62 Gg0 Gg2;refine sbe (sbe hh.1 ?_) rfl;rw[show(eM m).Owner=m.own from rfl];simp only[show((0:Int)==0)=true from rfl,cond_true];have:=Cs9 (by omega) h0 m.own.length 0 f (by omega) (by omega);rw[show((0:Nat):Int)=0 from rfl]at this;rw[this];rfl
theorem El1(h:okM m)(h0:∀x∈m.own,x=0)(ht:tg<2^m.own.length):Ev fun f=>F34 f (eM m) (tg:Int)=some 0:=by
 have h12:=h.n12;refine((Be8 h).and (Dq9 h h0)).mono fun f hh=> ?_
 unfold F34;refine sbe hh.1 ?_;simp only[show((0:Int) !=0)=false from rfl,cond_false];refine sbe hh.2 ?_;simp only[Bool.not_true,cond_false];rw[List.length_map,show(eM m).Owner=m.own from rfl,E1 (decide_eq_true (by omega))];have h1:Int.fdiv (tg:Int) (2^(min (Int.toNat (m.own.length:Int)) u64.bits))=0:=by
  have:min (Int.toNat (m.own.length:Int)) u64.bits=m.own.length:=by simp[IntKind.bits];omega
  rw[this,Int.fdiv_eq_ediv_of_nonneg _ (by exact_mod_cast Nat.zero_le _)];have:((tg:Int)/2^m.own.length)=((tg/2^m.own.length:Nat):Int):=by norm_cast
  rw[this,Nat.div_eq_of_lt ht];rfl
 rw[h1];rfl
structure okV(m:Mdl)(tg:Nat)(mo:Bool)(z:Nat)(bs:List Nat):Prop where
 zr:Shr m.own.length (kpZ m mo) (sd (2^m.own.length-1) tg) z
 cm:mo=true->Fq5 m (sd (2^m.own.length-1) (tg|||z)) bs
 nb:mo=false->bs=[]
theorem Av0(h:okM m){x:Nat}(hx:x<18446744073709551616):sd (2^m.own.length-1) x<2^m.own.length:=by
 have hp:=p12 h.n12;have h0:0<2^m.own.length:=Nat.pow_pos (by decide);refine Au5 fun i hi=> ?_
 rw[Aq6 (by omega) hx,Ao8]at hi;simp at hi;exact hi.1
theorem Et4(h:okM m)(hv:okV m tg mo z bs)(ht:tg<2^m.own.length):z<2^m.own.length/\∀b∈bs,b<2^m.own.length:=by
 have hp:=p12 h.n12;have hz:z<2^m.own.length:=Nat.lt_of_le_of_lt (Aj2 hv.zr.sb) (Av0 h (by omega));refine⟨hz,fun b hb=> ?_⟩;cases hmo:mo with
 |true=>
  have:=(hv.cm hmo).sb b hb;refine Nat.lt_of_le_of_lt (Aj2 this) (Av0 h ?_);have:=Nat.or_lt_two_pow ht hz;omega
 |false=>rw[hv.nb hmo]at hb;cases hb
theorem Fj8(h:okM m)(hv:okV m tg mo z bs)(ht:tg<2^m.own.length):bs.length<=1000000:=by
 have hp:=p12 h.n12;have hz:=(Et4 h hv ht).1;cases hmo:mo with
 |true=>
  have hr:=Av0 h (x:=tg|||z) (by have:=Nat.or_lt_two_pow ht hz;omega);have hc:=hv.cm hmo;have:=Bp4 bs _ (Nat.lt_of_lt_of_le hr (by omega)) (fun b hb=>⟨hc.sb b hb,(hc.cs b hb).ne⟩) hc.dj;omega
 |false=>rw[hv.nb hmo];decide
theorem Dw4(h:okM m)(mo:Bool)(ht:tg<2^m.own.length):∃z bs,okV m tg mo z bs/\Ev fun f=>F38 f (eM m) (tg:Int) mo=some (sV m tg mo z bs):=by
 have hp:=p12 h.n12;obtain⟨z,hz1,hz2⟩:=Cy1 h (f:=5000) (Nat.le_refl _) (mo:=mo) (z:=0) (show tg<4096 by omega);have hz:∀f,5000<=f->Fo7 f m.own (m.ch.map eL) (tg:Int) mo 0=some (z:Int):=fun f hf=>by
  obtain⟨y,h1,h2⟩:=Cy1 h hf (mo:=mo) (z:=0) (show tg<4096 by omega);rw[h1,h2.uniq hz2]
 have hzl:z<2^m.own.length:=Nat.lt_of_le_of_lt (Aj2 hz2.sb) (Av0 h (by omega));cases hmo:mo with
 |false=>
  subst hmo;refine⟨z,[],⟨hz2,fun e=>(by cases e),fun _=>rfl⟩,Ev.from_ 5000 fun f hf=> ?_⟩;unfold F38;refine sbe (hz f hf) rfl
 |true=>
  subst hmo;have hol:=Nat.or_lt_two_pow ht hzl;obtain⟨bs,hb1,hb2⟩:=Ef4 h (tg:=(tg:Int)) (mo:=true) (z:=(z:Int)) (sd (2^m.own.length-1) (tg|||z)) (Av0 h (by omega));refine⟨z,bs,⟨hz2,fun _=>hb1,fun e=>(by cases e)⟩,Ev.from_ 20000 fun f hf=> ?_⟩;unfold F38;refine sbe (hz f (by omega)) ?_;simp only[cond_true];refine sbe (Cr9 h) ?_;rw[Fj9 (by omega) (by omega),De2];have hr:=Av0 h (x:=tg|||z) (by omega);exact sbe (hb2 f (by omega)) rfl
theorem Cp7(h:okM m)(hbs:∀b∈bs,b<18446744073709551616):∀(n i k:Nat),i+n<=61->k<n->Ev fun f=>Am6 f (prs m tg mo z bs n i) (k:Int)=some ((rnd m tg mo z bs false (i+k)).map T,(rnd m tg mo z bs true (i+k)).map T,0)
 |0,_,_,_,hk=>absurd hk (by omega)
 |n+1,i,0,hi,_=>by
  have h12:=h.n12;have ht:∀up,Ev fun f=>F41 f ((rnd m tg mo z bs up i).map R)=some ((rnd m tg mo z bs up i).map T,true):=fun up=>Dp0 (by rw[Cl8];omega) (Ge6 h hbs (by omega)) (Fk8 h hbs (by omega))
  refine((ht false).and (ht true)).mono fun f hh=> ?_
  unfold Am6 prs;exact sbe hh.1 (sbe hh.2 rfl)
 |n+1,i,k+1,hi,hk=>by
  refine(Cp7 h hbs n (i+1) k (by omega) (by omega)).mono fun f hh=> ?_
  unfold Am6 prs;show(bif ((k+1:Nat):Int)==0 then _ else Am6 f (prs m tg mo z bs n (i+1)) (i64.wrap (((k+1:Nat):Int)-1)))=_;rw[beq_false_of_ne (show((k+1:Nat):Int)≠0 by omega)];simp only[cond_false];rw[E7 (i:=((k+1:Nat):Int)-1) (by omega) (by omega),show((k+1:Nat):Int)-1=(k:Int) by omega,hh,show i+1+k=i+(k+1) by omega]
theorem De0(h:okM m)(h0:∀x∈m.own,x=0)(ht:tg<2^m.own.length)(mo:Bool):∃z bs,okV m tg mo z bs/\∀k:Nat,k<10->Ev fun f=>F14 f (eM m) (tg:Int) mo (k:Int)=some ((rnd m tg mo z bs false k).map T,(rnd m tg mo z bs true k).map T,0):=by
 have hp:=p12 h.n12;obtain⟨z,bs,hv,hE⟩:=Dw4 h mo ht;obtain⟨hz,hb⟩:=Et4 h hv ht;have hbs:∀b∈bs,b<18446744073709551616:=fun b hb'=>by have:=hb b hb';omega
 refine⟨z,bs,hv,fun k hk=> ?_⟩;refine(((El1 h h0 ht).and hE).and ((Dv7 (mo:=mo) h hbs (Fj8 h hv ht) (show tg<_ by omega) (show z<_ by omega)).and (Cp7 (tg:=tg) (z:=z) (mo:=mo) h hbs 10 0 k (by omega) hk))).mono fun f hh=> ?_
 obtain⟨⟨h1,h2⟩,h3,h4⟩:=hh;unfold F14;refine sbe h1 ?_;simp only[show((0:Int) !=0)=false from rfl,cond_false];rw[decide_eq_false (by omega),decide_eq_false (by omega)];simp only[cond_false,sb];refine sbe h2 (sbe h3 ?_);rw[Nat.zero_add]at h4;exact h4
end
end
section
theorem Fm0{n:Nat}{b:Int}(hn:n<62)(h0:0<=b)(h1:b<18446744073709551616):∃tg:Nat,tg<2^n/\F20 (n:Int) b=some (tg:Int):=by
 have h2:0<2^n:=Nat.pow_pos (by decide);have h3:2^n<=2^62:=Nat.pow_le_pow_right (by decide) (by omega);obtain⟨c,rfl⟩:∃c:Nat,b=(c:Int):=⟨b.toNat,by omega⟩
 refine⟨c&&&(2^n-1),Nat.lt_of_le_of_lt Nat.and_le_right (by omega),?_⟩;unfold F20;rw[E1 (decide_eq_true (by omega)),Bq6 hn,N7 (i:=(c:Int)) (by omega) h1,Eo8 (by omega) (by omega)]
theorem Bo1:∀(l:List Rat) (i k:Nat) (x:Rat),bsA true l (some x)=some (Ea7 0 l i k x).1
 |[],_,_,_=>rfl
 |y::l,i,k,x=>by
  rw[bsA,Ea7];unfold bet;by_cases h:x<y
  ·rw[if_pos (by simp[h]),if_pos (.inl ⟨rfl,h⟩)];exact Bo1 l _ _ y
  ·rw[if_neg (by simp[h]),if_neg (by rintro (⟨_,h'⟩|⟨h',_⟩);exact h h';cases h')];exact Bo1 l _ _ x
theorem Fd7{l:List Rat}(h:l≠[]):bsA true l none=some (bst 0 l).1:=by
 cases l with
 |nil=>exact absurd rfl h
 |cons x l=>exact Bo1 l 1 0 x
theorem Dv5{m:Mdl}(h:okM m)(h0:∀x∈m.own,x=0){tg z:Nat}{bs:List Nat}:∀k,rnd m tg true z bs false k=vls m tg k
 |0=>rfl
 |k+1=>by
  rw[rnd,vls,Dv5 h h0 k];unfold nx nx0 nxt;simp only[cond_false];rw[h.len];refine List.map_congr_left fun s hs=> ?_
  have hs:=List.mem_range.1 hs;unfold nx1 stp;cases hb:tg.testBit s with
  |true=>rfl
  |false=>
   simp only[Bool.false_and,Bool.false_eq_true,if_false];obtain⟨hl,e,hne,_⟩:=U3 h hs;have ho:m.own.getD s 0=0:=by
    rw[List.getD_eq_getElem?_getD,List.getElem?_eq_getElem hs];exact h0 _ (List.getElem_mem hs)
   unfold bsL;rw[ho,Fd7 (by rw[e];simpa using hne)];rfl
theorem Eu0{l:List (List UInt8)}(hl:l.length<=1000):∀(r i k:Nat),i+r=l.length->r<k->Ba5 l l k (i:Int)=some true
 |_,_,0,_,h=>absurd h (by omega)
 |0,i,k+1,hi,_=>by
  unfold Ba5;rw[decide_eq_false (by simp;omega)];rfl
 |r+1,i,k+1,hi,hk=>by
  have hil:i<l.length:=by omega
  unfold Ba5;rw[decide_eq_true (by simp;omega)];simp only[cond_true];refine sbe (C7 hil) (sbe (C7 hil) ?_);simp only[beq_self_eq_true,Bool.not_true,cond_false];rw[wi i (by omega)];exact Eu0 hl r (i+1) k (by omega) (by omega)
theorem Fl8{l:List (List UInt8)}{f:Nat}(hl:l.length<=1000)(hf:1000<f):F30 f l l=some true:=by
 unfold F30;simp only[bne_self_eq_false,cond_false];exact Eu0 hl l.length 0 f (by omega) (by omega)
theorem Dd3{d:B1}(hd:Af1 d):∃m,okM m/\m.own.length<=5/\(∀x∈m.own,x=0)/\Ev fun f=>F17 f d=some (eM m):=by
 obtain⟨h1,h2,h3,h4,h5⟩:=hd;obtain⟨m,hm,hE⟩:=Eg0 (d:=⟨d.States,0,d.Grain,d.Cents,d.Picks⟩) ⟨h1,(⟨by decide,by decide⟩:(0:Int)<=0/\(0:Int)<256),h3,h4,h5⟩;refine⟨m,hm.ok,?_,fun x hx=> ?_,hE.mono fun f h=> ?_⟩
 ·rw[hm.own];simp only[Bu9,List.length_map,List.length_range];exact(Aw5 _).2
 ·rw[hm.own]at hx;obtain⟨s,_,rfl⟩:=List.mem_map.1 hx;rw[if_neg];show¬(Int.toNat 0).testBit s=true;rw[show Int.toNat 0=0 from rfl,Nat.zero_testBit];decide
 ·unfold F17;exact sbe h rfl
theorem Dc6{d:B1}{b n:Int}(hd:Af1 d)(b0:0<=b)(b1:b<65536)(hn:0<=n):∃fuel,F8 fuel d b n=some true:=by
 obtain⟨m,hM,_,h0,hE⟩:=Dd3 hd;have h12:=hM.n12;obtain⟨tg,htg,hset⟩:=Fm0 (n:=m.own.length) (b:=b) (by omega) b0 (by omega);obtain⟨k,hk⟩:∃k:Nat,n%8=(k:Int):=⟨(n%8).toNat,by omega⟩
 obtain⟨z,bs,hv,hB⟩:=De0 hM h0 htg true;obtain⟨f,hf⟩:=(((hE.and (Dz3 hM htg (n:=k) (by omega))).and (hB k (by omega))).and (Ev.ge 2000)).ex;obtain⟨⟨⟨h1,h2⟩,h3⟩,h6⟩:=hf;refine⟨f,?_⟩;have hw:=El5 (f-206);rw[show f-206+206=f by omega]at hw;unfold F8;rw[hw,sb];simp only[Bool.not_true,cond_false];rw[h1,sb,List.length_map,show(eM m).Owner=m.own from rfl,hset,sb,(tdm hn).2,hk,E7 (i:=(k:Int)) (by omega) (by omega),h3,sb,h2,sb];simp only[show((0:Int)==0)=true from rfl,cond_true];rw[Dv5 hM h0,Fl8 (by rw[List.length_map,Bu4 (Gd3 hM)];have:=hM.len;omega) (by omega)];rfl
end
end Go.Proofs.YtdlnalepibeibaaGreatDoor
end
section
namespace Go.Proofs.YtdlnalepibeibaaGreatDoor.sandwichSteps
open Go.ChangeShapes Go.WideShapes Go.ChangeAt Go.RowKit Kx
open Go.ChangeMaps (open_string shut_string)
set_option linter.unusedVariables false
set_option maxRecDepth 100000
section
def wf5(x:Int):Prop:=(Lit.int .u8 x).wf=true
theorem Da3{n:Nat}{ds:List Dat}(h:Fit Tryz.prog (n+1) 5 ds):∃x:Int,ds=[.int .u8 x]/\wf5 x:=by
 exact Dj8 Tryz.underlying5 h
def Hc2(x:Df5):Prop:=wf5 x.a0/\wf5 x.a1/\wf5 x.a2
theorem Gn4{n:Nat}{ds:List Dat}(h:Fit Tryz.prog (n+2) 94 ds):∃x:Df5,ds=[.int .u8 x.a0,.int .u8 x.a1,.int .u8 x.a2]/\Hc2 x:=by
 have h0:=Bv2 Tryz.underlying94 h;obtain⟨_,r0,rfl,g0,h1⟩:=h0;obtain⟨x0,rfl,w0⟩:=Da3 (n:=n+0) g0;obtain⟨_,r1,rfl,g1,h2⟩:=h1;obtain⟨x1,rfl,w1⟩:=Da3 (n:=n+0) g1;obtain⟨_,r2,rfl,g2,h3⟩:=h2;obtain⟨x2,rfl,w2⟩:=Da3 (n:=n+0) g2;cases (show r2=[] from h3);exact⟨⟨x0,x1,x2⟩,rfl,⟨w0,w1,w2⟩⟩
def Hc1(x:Df4):Prop:=wf5 x.a0/\wf5 x.a1
theorem Gn3{n:Nat}{ds:List Dat}(h:Fit Tryz.prog (n+2) 62 ds):∃x:Df4,ds=[.int .u8 x.a0,.int .u8 x.a1]/\Hc1 x:=by
 have h0:=Bv2 Tryz.underlying62 h;obtain⟨_,r0,rfl,g0,h1⟩:=h0;obtain⟨x0,rfl,w0⟩:=Da3 (n:=n+0) g0;obtain⟨_,r1,rfl,g1,h2⟩:=h1;obtain⟨x1,rfl,w1⟩:=Da3 (n:=n+0) g1;cases (show r1=[] from h2);exact⟨⟨x0,x1⟩,rfl,⟨w0,w1⟩⟩
def Gv5(x:D0):Prop:=wf5 x.State/\wf5 x.Act/\wf5 x.Gain/\Hc2 x.To/\Hc1 x.Part
theorem Gn5{n:Nat}{ds:List Dat}(h:Fit Tryz.prog (n+3) 96 ds):∃x:D0,ds=[.int .u8 x.State,.int .u8 x.Act,.int .u8 x.Gain,.int .u8 x.To.a0,.int .u8 x.To.a1,.int .u8 x.To.a2,.int .u8 x.Part.a0,.int .u8 x.Part.a1]/\Gv5 x:=by
 have h0:=Bj7 Tryz.underlying96 h;obtain⟨_,r0,rfl,g0,h1⟩:=h0;obtain⟨x0,rfl,w0⟩:=Da3 (n:=n+1) g0;obtain⟨_,r1,rfl,g1,h2⟩:=h1;obtain⟨x1,rfl,w1⟩:=Da3 (n:=n+1) g1;obtain⟨_,r2,rfl,g2,h3⟩:=h2;obtain⟨x2,rfl,w2⟩:=Da3 (n:=n+1) g2;obtain⟨_,r3,rfl,g3,h4⟩:=h3;obtain⟨x3,rfl,w3⟩:=Gn4 (n:=n+0) g3;obtain⟨_,r4,rfl,g4,h5⟩:=h4;obtain⟨x4,rfl,w4⟩:=Gn3 (n:=n+0) g4;cases (show r4=[] from h5);exact⟨⟨x0,x1,x2,x3,x4⟩,rfl,⟨w0,w1,w2,w3,w4⟩⟩
def Hb9(x:List D0):Prop:=x.length<=maxLen/\∀y∈x,Gv5 y
theorem Gn0{n:Nat}{ds:List Dat}(h:Fit Tryz.prog (n+4) 45 ds):∃x:List D0,ds=[.sl 8 (x.map B8)]/\Hb9 x:=by
 obtain⟨es,rfl,hl,he⟩:=Dj9 Tryz.underlying45 (sz:=8) (by kernel_rfl) h;obtain⟨l,rfl,hq⟩:=Co2 (en:=B8) (Q:=Gv5) (fun x hx=>Gn5 hx) es he;exact⟨l,rfl,by simpa using hl,hq⟩
def Gv4(x:B1):Prop:=wf5 x.States/\wf5 x.Owners/\wf5 x.Grain/\wf5 x.Cents/\Hb9 x.Picks
theorem Gn1{n:Nat}{ds:List Dat}(h:Fit Tryz.prog (n+5) 47 ds):∃x:B1,ds=[.int .u8 x.States,.int .u8 x.Owners,.int .u8 x.Grain,.int .u8 x.Cents,.sl 8 (x.Picks.map B8)]/\Gv4 x:=by
 have h0:=Bj7 Tryz.underlying47 h;obtain⟨_,r0,rfl,g0,h1⟩:=h0;obtain⟨x0,rfl,w0⟩:=Da3 (n:=n+3) g0;obtain⟨_,r1,rfl,g1,h2⟩:=h1;obtain⟨x1,rfl,w1⟩:=Da3 (n:=n+3) g1;obtain⟨_,r2,rfl,g2,h3⟩:=h2;obtain⟨x2,rfl,w2⟩:=Da3 (n:=n+3) g2;obtain⟨_,r3,rfl,g3,h4⟩:=h3;obtain⟨x3,rfl,w3⟩:=Da3 (n:=n+3) g3;obtain⟨_,r4,rfl,g4,h5⟩:=h4;obtain⟨x4,rfl,w4⟩:=Gn0 (n:=n+0) g4;cases (show r4=[] from h5);exact⟨⟨x0,x1,x2,x3,x4⟩,rfl,⟨w0,w1,w2,w3,w4⟩⟩
def Hc0(x:Int):Prop:=(Lit.int .u16 x).wf=true
theorem Gn2{n:Nat}{ds:List Dat}(h:Fit Tryz.prog (n+1) 50 ds):∃x:Int,ds=[.int .u16 x]/\Hc0 x:=by
 exact Dj8 Tryz.underlying50 h
theorem Gd2{d:B1}(h:Gv4 d):Af1 d:=
 ⟨Cz9 h.1,Cz9 h.2.1,Cz9 h.2.2.1,Cz9 h.2.2.2.1,fun p hp=>by
  obtain⟨h1,h2,h3,⟨h4,h5,h6⟩,h7,h8⟩:=h.2.2.2.2.2 p hp;exact⟨Cz9 h1,Cz9 h2,Cz9 h3,Cz9 h4,Cz9 h5,Cz9 h6,Cz9 h7,Cz9 h8⟩⟩
theorem law(x0:B1)(x1 x2:Int)(h0:Gv4 x0)(h1:Hc0 x1)(h2:wf5 x2):∃fuel,F8 fuel x0 x1 x2=some true:=
 Dc6 (Gd2 h0) (Fx2 h1).1 (Fx2 h1).2 (Cz9 h2).1
theorem own:ownKnob Tryz.prog.godebug=none:=by kernel_rfl
theorem Ck7:laidOutB Tryz.prog=true:=by kernel_rfl
theorem Hi4{W:World}(h0:laidMetH Tryz.prog Rows.sandwichStepsRow.laid W)(hs:W.ShapedOpen Tryz.prog):GlA (K5 W) W:=by
 have h:laidMet Tryz.prog Rows.sandwichStepsRow.laid W:=by
  rw[MakeChecks.laidMetH_plain _ _ _ (by kernel_rfl)]at h0;exact h0
 have all:∀n cs,gl n=some cs->(∃us,X3 (K5 W) n 0 us/\D3 (K5 W) cs us)/\∃c e z,W.heap[n]? =some (.cells c e z)/\c.size=cs.length:=fun n cs e=>by
  refine Cs7 (Q:=fun n cs=>(∃us,X3 (K5 W) n 0 us/\D3 (K5 W) cs us)/\∃c e z,W.heap[n]? =some (.cells c e z)/\c.size=cs.length) ?_ e;show _/\_/\_/\_/\_/\True;exact⟨Dp9 h 0 (g:=4) (t:=340) (e:=5) rfl (by kernel_rfl) (by kernel_rfl) Tryz.underlying340 (by kernel_rfl) (by kernel_rfl) (by kernel_rfl) (by kernel_rfl),
   Dp9 h 1 (g:=5) (t:=341) (e:=5) rfl (by kernel_rfl) (by kernel_rfl) Tryz.underlying341 (by kernel_rfl) (by kernel_rfl) (by kernel_rfl) (by kernel_rfl),
   Dp9 h 2 (g:=3) (t:=320) (e:=32) rfl (by kernel_rfl) (by kernel_rfl) Tryz.underlying320 (by kernel_rfl) (by kernel_rfl) (by kernel_rfl) (by kernel_rfl),
   Er9 h 4 (g:=1) (t:=189) rfl (by kernel_rfl) (by kernel_rfl) (by kernel_rfl) rfl,
   Er9 h 3 (g:=2) (t:=189) rfl (by kernel_rfl) (by kernel_rfl) (by kernel_rfl) rfl,
   trivial⟩
 refine⟨⟨fun n cs e=>(all n cs e).1,fun n k e=> ?_⟩,fun n cs e=>(all n cs e).2⟩
 ·simp only[gxT,List.mem_cons,List.mem_nil_iff,or_false,Prod.mk.injEq]at e;obtain⟨rfl,rfl⟩:=e;exact Hi3 hs (zero:= #[.int .i64 0]) (t:=3) (of_decide_eq_true (by kernel_rfl)) (by kernel_rfl) (by kernel_rfl) (by kernel_rfl) Tryz.underlying3 (by kernel_rfl)
theorem Gc1(os:Os)(started:os.Started)(H:Type)(enc:TypeId×Value->H):
 ReturnsInHanded {} Tryz.checked os 8 .any (fun w args=>(Rows.sandwichStepsSpec.pre enc Tryz.prog Tryz.f8 Rows.sandwichStepsRow.domain false w args/\laidMetH Tryz.prog Rows.sandwichStepsRow.laid w)/\sizedMet enc Tryz.prog Tryz.f8 (OpenSpec.ofChange Rows.sandwichStepsSpec) false w args)
  (Rows.sandwichStepsSpec.post enc Tryz.prog Tryz.f8 false true false false):=by
 refine Ac7 (C:=Tryz.checked) (X:=fun w _=>laidMetH Tryz.prog Rows.sandwichStepsRow.laid w) (fun _ _ _ hh h=>h.of_heap hh) own started (by kernel_rfl) Tryz.func8
  (ChangeSpec.witness_shaped (enc:=enc) (C:=Tryz.checked) (os:=os) (X:=fun w _=>laidMetH Tryz.prog Rows.sandwichStepsRow.laid w) false (World.laidAll Tryz.prog os Rows.sandwichStepsRow.laid) #[.agg #[.int .u8 0,.int .u8 0,.int .u8 0,.int .u8 0,.slice none 0 0],.int .u16 0,.int .u8 0] 8 (World.laidAll_os _ _ _)
   (World.shaped_of_ZipB (by kernel_rfl) (by kernel_rfl)) (by kernel_rfl) (by kernel_rfl) (by kernel_rfl)
   (by rw[MakeChecks.laidMetH_plain _ _ _ (by kernel_rfl)];exact laidMet_laidAll _ (by kernel_rfl) (by kernel_rfl))) ?_
 intro W base args ds gs before hval0 hW hcnd hlaid hshape;have hgl:GlA (K5 W) W:=Hi4 hlaid hshape;have hval:∀(j:Nat) t v,Tryz.f8.params[j]? =some t->args[j]? =some v->Value.okWide Tryz.prog W .any base t v:=hval0;have hW':=hW;obtain⟨p,q,hA0,hV,rfl,hfz,hnd⟩:=hW;have hA:DataW.TrodAll enc Tryz.prog W 0 (fun _=>true) true Tryz.f8.params.toList args.toList ds p:=hA0;rw[Tryz.params8]at hA hval;obtain⟨v0,vs0,d0,ds0,p0,q0,hargs,rfl,rfl,h0,r0⟩:=trodAll_cons hA;obtain⟨v1,vs1,d1,ds1,p1,q1,rfl,rfl,rfl,h1,r1⟩:=trodAll_cons r0;obtain⟨v2,vs2,d2,ds2,p2,q2,rfl,rfl,rfl,h2,r2⟩:=trodAll_cons r1;obtain⟨rfl,rfl,rfl⟩:=trodAll_nil r2;obtain rfl:args= #[v0,v1,v2]:=by cases args;simp_all
 obtain⟨rfl,rfl⟩:=trodVars_none hV;have k0:=h0;have lt0:∀x∈p0,x.block<W.heap.size:=by obtain⟨m,hm⟩:=k0;exact DataW.trod_lt m _ _ _ hm
 obtain⟨c0,rfl⟩:=Gd1 Tryz.underlying47 (hval 0 47 v0 rfl rfl);obtain⟨m0,hm0⟩:=k0;obtain⟨ds0,hr0,hf0⟩:=Ah6 5 47 m0 _ _ (by kernel_rfl) hm0;obtain⟨x0,rfl,wf0_⟩:=Gn1 (n:=0) hf0;have rel0:C0 (K5 W) noR (.agg (dV [.int .u8 x0.States,.int .u8 x0.Owners,.int .u8 x0.Grain,.int .u8 x0.Cents,.sl 8 (x0.Picks.map B8)])) _:=Du9 hr0;have k1:=h1;have lt1:∀x∈p1,x.block<W.heap.size:=by obtain⟨m,hm⟩:=k1;exact DataW.trod_lt m _ _ _ hm
 obtain⟨a1,rfl,rfl,rfl,w1⟩:=open_int Tryz.underlying50 (hval 1 50 v1 rfl rfl) h1;obtain⟨m1,hm1⟩:=k1;obtain⟨ds1,hr1,hf1⟩:=Ah6 1 50 m1 _ _ (by kernel_rfl) hm1;obtain⟨x1,rfl,wf1_⟩:=Gn2 (n:=0) hf1;have Gj8:C0 (K5 W) noR (.d (.int .u16 x1)) _:=Cv0 hr1;have k2:=h2;have lt2:∀x∈p2,x.block<W.heap.size:=by obtain⟨m,hm⟩:=k2;exact DataW.trod_lt m _ _ _ hm
 obtain⟨a2,rfl,rfl,rfl,w2⟩:=open_int Tryz.underlying5 (hval 2 5 v2 rfl rfl) h2;obtain⟨m2,hm2⟩:=k2;obtain⟨ds2,hr2,hf2⟩:=Ah6 1 5 m2 _ _ (by kernel_rfl) hm2;obtain⟨x2,rfl,wf2_⟩:=Da3 (n:=0) hf2;have Gu6:C0 (K5 W) noR (.d (.int .u8 x2)) _:=Cv0 hr2;obtain⟨fuel,hF⟩:=law x0 x1 x2 wf0_ wf1_ wf2_;clear hA0 hval0;refine(Gk7 hF (K5 W) W [_,_,_] (Cy6 W) hgl (by simp only[B6];exact⟨_,_,rfl,rel0,⟨_,_,rfl,Gj8,⟨_,_,rfl,Gu6,rfl⟩⟩⟩)).mono fun e W' hE=> ?_
 obtain⟨u,M',rfl,hext,hv⟩:=hE;have bel:=hext.below;have hv:=H0 hv;cases hv;exact⟨_,rfl,_,_,_,[],_,[],hW',trodAll_mk1 (shut_bool Tryz.underlying4 _),(trodAll_cons_mk (Below.trod Ck7 (by kernel_rfl) (of_decide_eq_true (by kernel_rfl)) ⟨_,hm0⟩ bel lt0) (trodAll_cons_mk (Below.trod Ck7 (by kernel_rfl) (of_decide_eq_true (by kernel_rfl)) ⟨_,hm1⟩ bel lt1) (trodAll_cons_mk (Below.trod Ck7 (by kernel_rfl) (of_decide_eq_true (by kernel_rfl)) ⟨_,hm2⟩ bel lt2) trodAll_mk0))),rfl,bel.frame _,fun h=>by cases h⟩
theorem Dt3:(Rows.sandwichStepsRow.inPlace==Tryz.pinned.checked.prog.inPlace 8)=true:=by kernel_rfl
theorem Cb2:(Rows.sandwichStepsRow.unfollowed==Tryz.pinned.checked.prog.unfollowed 8)=true:=by kernel_rfl
theorem Dd2:(Rows.sandwichStepsRow.recurses==Tryz.pinned.checked.prog.recurses 8)=true:=by kernel_rfl
theorem Fj5:(Rows.sandwichStepsRow.named==Tryz.pinned.checked.prog.varsNamed 8)=true:=by kernel_rfl
theorem Fe0:joinedFacts Tryz.pinned.checked.prog 8 Tryz.f8 Rows.sandwichStepsSpec Rows.sandwichStepsRow=true:=by
 unfold joinedFacts;rw[Dt3,Cb2,Dd2,Fj5];kernel_rfl
theorem Hi9:Rows.sandwichStepsRow.holds Tryz.pinned (OpenSpec.ofChange Rows.sandwichStepsSpec):=
 OpenClaim.holds_of_wide 8 Tryz.f8 rfl rfl rfl rfl rfl rfl rfl ⟨rfl,rfl,rfl,rfl,rfl⟩ rfl rfl rfl rfl rfl (by kernel_rfl) Tryz.func8 Fe0
  (of_decide_eq_true (by kernel_rfl)) (by unfold Func.isWrapper;first|(rw[if_pos (by decide+kernel)];kernel_rfl)|(rw[if_neg (by decide+kernel)];exact⟨rfl,rfl⟩))
  (fun os started H enc _=>Gc1 os started H enc)
theorem proved:Rows.SandwichStepsCardSaid:=
 Claim7.holds_tied_plain_at .later [] [.data,.data,.data,.sentinel,.sentinel] true (true, "576ca53fc8fd8aa78b63b083a81e19658d4bc94738a8f63b5d4a81637d3c6a55") true Hi9 (fun _ h=>by cases h) (by kernel_rfl) (fun _ h=>by cases h) sandwichSteps_row_tie rfl ⟨rfl,rfl⟩ (by kernel_rfl) rfl
  (fun f fn hf hfn=>by
   obtain rfl:f=8:=Option.some.inj ((show Tryz.prog.funcNamed "croupier/croupierlaw22.SandwichSteps" =some 8 by kernel_rfl).symm.trans hf)|>.symm;obtain rfl:fn=Tryz.f8:=(Option.some.inj (Tryz.func8.symm.trans hfn)).symm;exact⟨by kernel_rfl,fun j t ht=>by
    rw[Tryz.params8]at ht;have hm:t∈[47,50,5]:=by simpa using Array.mem_of_getElem? ht
    have hall:([47,50,5].all fun u=> !Tryz.prog.wantsStandIn u)=true:=by kernel_rfl
    exact(show Tryz.prog.wantsStandIn t=false by simpa using List.all_eq_true.1 hall t hm)⟩)
  (by kernel_rfl)
#print axioms proved
end
end Go.Proofs.YtdlnalepibeibaaGreatDoor.sandwichSteps
end
