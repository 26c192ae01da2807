/- SandwichFirst holds: whatever the input, the call returns true, and what came in reads as it did. No condition. -/
import Derived.Test.YtdlnalepibeibaaGreatDoorRows
import Derived.Test.YtdlnalepibeibaaGreatDoorTie
import Derived.Test.YtdlnalepibeibaaGreatDoorCards
import Derived.WalkKit
import Derived.ShutString
import Derived.ChangeOld
import Derived.Test.YtdlnalepibeibaaGreatDoorFif
section
namespace Go.Proofs.YtdlnalepibeibaaGreatDoor
open Go Go.RowKit Kx Go.IntKind
set_option maxRecDepth 100000
section
theorem Cy0{c:A2}{v:List A1}{f:Nat}:∀(k:Nat) (i:Int) (a:Bool) (b:List Int) (x:Bool) (y:List Int),As7 f c v k i a b x y=Aj0 f c v k i a b x y
 |0,_,_,_,_,_=>rfl
 |k+1,i,a,b,x,y=>by
  unfold As7 Aj0;simp only[Cy0 k]
theorem Cc5{c:A2}{v:List A1}{f:Nat}:Ep4 f c v=Gj6 f c v:=by
 unfold Ep4 Gj6;simp only[Cy0]
def bet(mo:Bool)(x y:Rat):Rat:=if decide (x<y)=mo then y else x
theorem Bc4{sv:B3}{x y:Rat}(hx:rs x)(hy:rs y):Ev fun f=>Dh7 f sv (R x) (R y)=some (R (bet sv.most x y)):=(He3 hx hy).mono fun f h=>by
 unfold Dh7 bet;refine sbe h ?_;rw[Ei1];cases sv.most<;>by_cases h:x<y<;>simp[h]
def bsA(mo:Bool):List Rat->Option Rat->Option Rat
 |[],o=>o
 |x::l,none=>bsA mo l (some x)
 |x::l,some y=>bsA mo l (some (bet mo y x))
def nO:Option Rat->A1
 |none=>⟨⟨false,[]⟩,⟨false,[]⟩⟩
 |some x=>R x
theorem Ga7{P:Rat->Prop}{mo:Bool}{x y:Rat}(hx:P x)(hy:P y):P (bet mo x y):=by unfold bet;split<;>assumption
theorem Dd5{P:Rat->Prop}{mo:Bool}:∀(l:List Rat) (o:Option Rat),(∀x∈l,P x)->(∀x,o=some x->P x)->∀x,bsA mo l o=some x->P x
 |[],o,_,ho,x,h=>ho x h
 |y::l,none,hl,_,x,h=>Dd5 l _ (fun z hz=>hl z (List.mem_cons_of_mem _ hz)) (fun z e=>by cases e;exact hl _ List.mem_cons_self) x h
 |y::l,some w,hl,ho,x,h=>Dd5 l _ (fun z hz=>hl z (List.mem_cons_of_mem _ hz)) (fun z e=>by cases e;exact Ga7 (ho w rfl) (hl _ List.mem_cons_self)) x h
theorem An9{mo:Bool}:∀(l:List Rat) (o:Option Rat),l≠[]\/o.isSome=true->(bsA mo l o).isSome=true
 |[],o,h=>by rcases h with h|h;exact absurd rfl h;exact h
 |x::l,none,_=>An9 l _ (.inr rfl)
 |x::l,some y,_=>An9 l _ (.inr rfl)
def sV(m:Mdl)(tg:Nat)(mo:Bool)(z:Nat)(bs:List Nat):B3:=⟨eM m,(tg:Int),mo,(z:Int),bs.map fun(b:Nat)=>(b:Int)⟩
section
variable {sv:B3} {v:List Rat} {l1:List Cho} {g D B b:Nat}
theorem Cj9(hb:b<18446744073709551616)(hl:l1.length<=4)(hc:∀c∈l1,okT c/\okN g v.length c)(hv:∀x∈v,fr D B x)(hs:szs g D B):
 ∀(l:List Cho) (i:Nat) (o:Option Rat),l1.drop i=l->(∀x,o=some x->fr (g*D) (B*12) x)->
  Ev fun f=>∀k,l.length<k->K6 f sv (v.map R) (b:Int) (l1.map eC) k o.isSome (i:Int) (nO o).n_.neg (nO o).n_.mag (nO o).d.neg (nO o).d.mag=some (nO (bsA sv.most ((l.filter fun c=> !inB b c).map (mix v)) o),(bsA sv.most ((l.filter fun c=> !inB b c).map (mix v)) o).isSome)
 |[],i,o,hd,ho=>Ev.of fun f k hk=>by
  obtain⟨k,rfl⟩:∃j,k=j+1:=⟨k-1,by simp at hk;omega⟩
  have:=drop_nil hd;unfold K6;rw[dF_ (by simp;omega)];rfl
 |c::l,i,o,hd,ho=>by
  obtain⟨hi,hb',hd'⟩:=T7 hd;obtain⟨ct,cn⟩:=hc c (by rw[<-hb'];exact List.getElem_mem hi);have hm:=Cx6 cn rfl hv hs.1 hs.2.1;have hz:=(@Ax1 _ _ _ hs (mix v c)).2.2 12 (by omega) hm;have hz':∀x,o=some x->rs x:=fun x e=>(@Ax1 _ _ _ hs x).2.2 12 (by omega) (ho x e)
  have hbe:Ev fun f=>∀x,o=some x->Dh7 f sv (R x) (R (mix v c))=some (R (bet sv.most x (mix v c))):=by
   cases o with
   |none=>exact Ev.of fun f x e=>by cases e
   |some y=>exact(Bc4 (hz' y rfl) hz).mono fun f h x e=>by cases e;exact h
  have h4:Ev fun f=>∀k,l.length<k->K6 f sv (v.map R) (b:Int) (l1.map eC) k true ((i+1:Nat):Int) (nO (bsA sv.most [mix v c] o)).n_.neg (nO (bsA sv.most [mix v c] o)).n_.mag (nO (bsA sv.most [mix v c] o)).d.neg (nO (bsA sv.most [mix v c] o)).d.mag=some (nO (bsA sv.most ((l.filter fun c=> !inB b c).map (mix v)) (bsA sv.most [mix v c] o)),(bsA sv.most ((l.filter fun c=> !inB b c).map (mix v)) (bsA sv.most [mix v c] o)).isSome):=by
   have hs1:(bsA sv.most [mix v c] o).isSome=true:=An9 _ _ (.inl (by simp));have:=Cj9 hb hl hc hv hs l (i+1) (bsA sv.most [mix v c] o) hd' (fun x e=>Dd5 (P:=fr (g*D) (B*12)) _ _ (fun x hx=>by rw[List.mem_singleton]at hx;rw[hx];exact hm) ho x e)
   rwa [hs1]at this
  refine(((((Cx7 cn rfl hv hs).and hbe).and h4).and (Cj9 hb hl hc hv hs l (i+1) o hd' ho)).and (Ev.ge 13)).mono fun f h k hk=> ?_
  obtain⟨⟨⟨⟨h1,h2⟩,h3⟩,h5⟩,hf⟩:=h;obtain⟨k,rfl⟩:∃j,k=j+1:=⟨k-1,by simp at hk;omega⟩
  have hk:l.length<k:=by simp at hk;omega
  unfold K6;rw[dT_ (by simp;omega)];simp only[cond_true];refine sbe (x:=eC c) (by rw[D4 hi,hb']) ?_;have go:(Option.bind (Ep4 f (eC c) (v.map R)) fun y22=>
   bif o.isSome then
    (Option.bind (Dh7 f sv (⟨(⟨(nO o).n_.neg,(nO o).n_.mag⟩:A3),(⟨(nO o).d.neg,(nO o).d.mag⟩:A3)⟩:A1) y22) fun y23=>
    P4 (i:Int) (K6 f sv (v.map R) (b:Int) (l1.map eC) k) true y23.n_.neg y23.n_.mag y23.d.neg y23.d.mag)
   else
    (P4 (i:Int) (K6 f sv (v.map R) (b:Int) (l1.map eC) k) true y22.n_.neg y22.n_.mag y22.d.neg y22.d.mag))=some (nO (bsA sv.most ((l.filter fun c=> !inB b c).map (mix v)) (bsA sv.most [mix v c] o)),(bsA sv.most ((l.filter fun c=> !inB b c).map (mix v)) (bsA sv.most [mix v c] o)).isSome):=by
   refine sbe (by rw[Cc5];exact h1) ?_;cases o with
   |none=>
    simp only[Option.isSome_none,cond_false];unfold P4;rw[wi i (by omega)];exact h3 k hk
   |some y=>
    simp only[Option.isSome_some,cond_true];refine sbe (x:=R (bet sv.most y (mix v c))) (h2 y rfl) ?_;unfold P4;rw[wi i (by omega)];exact h3 k hk
  unfold Gk3;rw[Bu9 hb ct hf,sb,sb];cases hin:inB b c with
  |true=>
   simp only[Bool.not_true,Bool.not_false,cond_true];rw[List.filter_cons_of_neg (by simp[hin])];unfold P4;rw[wi i (by omega)];exact h5 k hk
  |false=>
   simp only[Bool.not_false,Bool.not_true,cond_false];rw[List.filter_cons_of_pos (by simp[hin]),List.map_cons,show bsA sv.most (mix v c::List.map (mix v) (List.filter (fun c=> !inB b c) l)) o=bsA sv.most (List.map (mix v) (List.filter (fun c=> !inB b c) l)) (bsA sv.most [mix v c] o) by cases o<;>rfl];exact go
theorem Do5(hl:l1.length<=4)(hc:∀c∈l1,okT c/\okN g v.length c)(hv:∀x∈v,fr D B x)(hs:szs g D B):
 ∀(l:List Cho) (i:Nat) (o:Option Rat),l1.drop i=l->(∀x,o=some x->fr (g*D) (B*12) x)->
  Ev fun f=>∀k,l.length<k->O6 f sv (v.map R) (l1.map eC) k o.isSome (i:Int) (nO o).n_.neg (nO o).n_.mag (nO o).d.neg (nO o).d.mag=some (nO (bsA sv.most (l.map (mix v)) o),(bsA sv.most (l.map (mix v)) o).isSome)
 |[],i,o,hd,ho=>Ev.of fun f k hk=>by
  obtain⟨k,rfl⟩:∃j,k=j+1:=⟨k-1,by simp at hk;omega⟩
  have:=drop_nil hd;unfold O6;rw[dF_ (by simp;omega)];rfl
 |c::l,i,o,hd,ho=>by
  obtain⟨hi,hb',hd'⟩:=T7 hd;obtain⟨ct,cn⟩:=hc c (by rw[<-hb'];exact List.getElem_mem hi);have hm:=Cx6 cn rfl hv hs.1 hs.2.1;have hz:=(@Ax1 _ _ _ hs (mix v c)).2.2 12 (by omega) hm;have hz':∀x,o=some x->rs x:=fun x e=>(@Ax1 _ _ _ hs x).2.2 12 (by omega) (ho x e)
  have hbe:Ev fun f=>∀x,o=some x->Dh7 f sv (R x) (R (mix v c))=some (R (bet sv.most x (mix v c))):=by
   cases o with
   |none=>exact Ev.of fun f x e=>by cases e
   |some y=>exact(Bc4 (hz' y rfl) hz).mono fun f h x e=>by cases e;exact h
  have h4:Ev fun f=>∀k,l.length<k->O6 f sv (v.map R) (l1.map eC) k true ((i+1:Nat):Int) (nO (bsA sv.most [mix v c] o)).n_.neg (nO (bsA sv.most [mix v c] o)).n_.mag (nO (bsA sv.most [mix v c] o)).d.neg (nO (bsA sv.most [mix v c] o)).d.mag=some (nO (bsA sv.most (l.map (mix v)) (bsA sv.most [mix v c] o)),(bsA sv.most (l.map (mix v)) (bsA sv.most [mix v c] o)).isSome):=by
   have hs1:(bsA sv.most [mix v c] o).isSome=true:=An9 _ _ (.inl (by simp));have:=Do5 hl hc hv hs l (i+1) (bsA sv.most [mix v c] o) hd' (fun x e=>Dd5 (P:=fr (g*D) (B*12)) _ _ (fun x hx=>by rw[List.mem_singleton]at hx;rw[hx];exact hm) ho x e)
   rwa [hs1]at this
  refine((((Cx7 cn rfl hv hs).and hbe).and h4).and (Ev.ge 13)).mono fun f h k hk=> ?_
  obtain⟨⟨⟨h1,h2⟩,h3⟩,_⟩:=h;obtain⟨k,rfl⟩:∃j,k=j+1:=⟨k-1,by simp at hk;omega⟩
  have hk:l.length<k:=by simp at hk;omega
  unfold O6;rw[dT_ (by simp;omega)];simp only[cond_true];refine sbe (x:=eC c) (by rw[D4 hi,hb']) ?_;have go:(Option.bind (Ep4 f (eC c) (v.map R)) fun y22=>
   bif o.isSome then
    (Option.bind (Dh7 f sv (⟨(⟨(nO o).n_.neg,(nO o).n_.mag⟩:A3),(⟨(nO o).d.neg,(nO o).d.mag⟩:A3)⟩:A1) y22) fun y23=>
    Z4 (i:Int) (O6 f sv (v.map R) (l1.map eC) k) true y23.n_.neg y23.n_.mag y23.d.neg y23.d.mag)
   else
    (Z4 (i:Int) (O6 f sv (v.map R) (l1.map eC) k) true y22.n_.neg y22.n_.mag y22.d.neg y22.d.mag))=some (nO (bsA sv.most (l.map (mix v)) (bsA sv.most [mix v c] o)),(bsA sv.most (l.map (mix v)) (bsA sv.most [mix v c] o)).isSome):=by
   refine sbe (by rw[Cc5];exact h1) ?_;cases o with
   |none=>
    simp only[Option.isSome_none,cond_false];unfold Z4;rw[wi i (by omega)];exact h3 k hk
   |some y=>
    simp only[Option.isSome_some,cond_true];refine sbe (x:=R (bet sv.most y (mix v c))) (h2 y rfl) ?_;unfold Z4;rw[wi i (by omega)];exact h3 k hk
  unfold Gj8;rw[sb];simp only[Bool.not_true,cond_false];rw[List.map_cons,show bsA sv.most (mix v c::List.map (mix v) l) o=bsA sv.most (List.map (mix v) l) (bsA sv.most [mix v c] o) by cases o<;>rfl];exact go
end
def bsL(m:Mdl)(mo:Bool)(v:List Rat)(s:Nat):Option Rat:=bsA mo ((m.ch.getD s []).map (mix v)) none
def bsO(m:Mdl)(mo:Bool)(b:Nat)(v:List Rat)(s:Nat):Option Rat:=bsA mo (((m.ch.getD s []).filter fun c=> !inB b c).map (mix v)) none
section
variable {m:Mdl} {tg z D B:Nat} {mo:Bool} {bs:List Nat} {v:List Rat} {s:Nat}
theorem Eh6(h:okM m)(hs:s<m.own.length)(hn:v.length=m.own.length)(hv:∀x∈v,fr D B x)(hz:szs (gP m) D B):Ev fun f=>Fu6 f (sV m tg mo z bs) (s:Int) (v.map R)=some (nO (bsL m mo v s),(bsL m mo v s).isSome):=by
 obtain⟨hl,e,_,h4,hc⟩:=X3 h hs;refine((Do5 (sv:=sV m tg mo z bs) h4 (fun c hc'=>⟨(hc c hc').1,by rw[hn];exact(hc c hc').2.1⟩) hv hz m.ch[s] 0 none rfl (fun x e=>by cases e)).and (Ev.ge 13)).mono fun f h=> ?_
 obtain⟨h1,h2⟩:=h;unfold Fu6;refine sbe (x:=m.ch[s].map eC) (by rw[show(sV m tg mo z bs).Model.Choices=m.ch.map eL from rfl,D4 hl];rfl) ?_;unfold bsL;rw[e];exact h1 f (by omega)
theorem Eh7(h:okM m)(hs:s<m.own.length)(hn:v.length=m.own.length)(hv:∀x∈v,fr D B x)(hz:szs (gP m) D B){b:Nat}(hb:b<18446744073709551616):Ev fun f=>Dj4 f (sV m tg mo z bs) (s:Int) (v.map R) (b:Int)=some (nO (bsO m mo b v s),(bsO m mo b v s).isSome):=by
 obtain⟨hl,e,_,h4,hc⟩:=X3 h hs;refine((Cj9 (sv:=sV m tg mo z bs) hb h4 (fun c hc'=>⟨(hc c hc').1,by rw[hn];exact(hc c hc').2.1⟩) hv hz m.ch[s] 0 none rfl (fun x e=>by cases e)).and (Ev.ge 13)).mono fun f h=> ?_
 obtain⟨h1,h2⟩:=h;unfold Dj4;refine sbe (x:=m.ch[s].map eC) (by rw[show(sV m tg mo z bs).Model.Choices=m.ch.map eL from rfl,D4 hl];rfl) ?_;unfold bsO;rw[e];exact h1 f (by omega)
theorem Es2(h:okM m)(hs:s<m.own.length)(hn:v.length=m.own.length)(hv:∀x∈v,fr D B x)(hz:szs (gP m) D B){b:Nat}{x:Rat}(hx:bsO m mo b v s=some x):fr (gP m*D) (B*12) x:=by
 obtain⟨hl,e,_,h4,hc⟩:=X3 h hs;refine Dd5 (P:=fr (gP m*D) (B*12)) _ _ (fun y hy=> ?_) (fun y e=>by cases e) x hx;obtain⟨c,hc',rfl⟩:=List.mem_map.1 hy;rw[e]at hc';exact Cx6 (hc c ((List.mem_filter.1 hc').1)).2.1 hn.symm hv hz.1 hz.2.1
theorem Gb1(h:okM m)(hs:s<m.own.length)(hn:v.length=m.own.length)(hv:∀x∈v,fr D B x)(hz:szs (gP m) D B){x:Rat}(hx:bsL m mo v s=some x):fr (gP m*D) (B*12) x:=by
 obtain⟨hl,e,_,h4,hc⟩:=X3 h hs;refine Dd5 (P:=fr (gP m*D) (B*12)) _ _ (fun y hy=> ?_) (fun y e=>by cases e) x hx;obtain⟨c,hc',rfl⟩:=List.mem_map.1 hy;rw[e]at hc';exact Cx6 (hc c hc').2.1 hn.symm hv hz.1 hz.2.1
theorem Ct0(h:okM m)(hs:s<m.own.length):(bsL m mo v s).isSome=true:=by
 obtain⟨hl,e,h0,_⟩:=X3 h hs;exact An9 _ _ (.inl (by rw[e];simpa using h0))
end
def Ex6(b:Nat)(q:Rat):Nat->Nat->List Rat->List Rat
 |0,_,l=>l
 |r+1,i,l=>Ex6 b q r (i+1) (if b.testBit i then l.set i q else l)
theorem Bu5{b:Nat}{q:Rat}:∀(r i:Nat) (l:List Rat),(Ex6 b q r i l).length=l.length
 |0,_,_=>rfl
 |r+1,i,l=>by rw[Ex6,Bu5 r];split<;>simp
theorem Ex7{P:Rat->Prop}{b:Nat}{q:Rat}(hq:P q):∀(r i:Nat) (l:List Rat),(∀x∈l,P x)->∀x∈Ex6 b q r i l,P x
 |0,_,_,h=>h
 |r+1,i,l,h=>Ex7 hq r (i+1) _ (by
  split
  ·intro x hx;rcases List.mem_or_eq_of_mem_set hx with h'|h'
   ·exact h x h'
   ·rw[h'];exact hq
  ·exact h)
def bv(m:Mdl)(mo:Bool)(b:Nat)(v:List Rat):Nat->Nat->Rat->Rat
 |0,_,q=>q
 |r+1,i,q=>bv m mo b v r (i+1) (if b.testBit i then(match bsO m mo b v i with|some x=>bet mo q x|none=>q) else q)
def Ga9(m:Mdl)(mo:Bool)(b:Nat)(v:List Rat):Rat:=bv m mo b v m.own.length 0 0
def lev(m:Mdl)(mo:Bool)(v:List Rat):List Nat->List Rat->List Rat
 |[],l=>l
 |b::bs,l=>lev m mo v bs (Ex6 b (Ga9 m mo b v) m.own.length 0 l)
section
variable {m:Mdl} {tg z D B:Nat} {mo:Bool} {bs:List Nat} {v:List Rat}
theorem Du9{b:Nat}(hb:b<18446744073709551616)(h12:v.length<=12){q:Rat}{j:Int}{cL:Int->List A1->Option (List A1)}:∀(r i k:Nat) (l:List Rat),i+r=v.length->r<k->l.length=v.length->W7 (v.map R) (R q).n_.mag (R q).d.mag (R q).n_.neg (R q).d.neg j (b:Int) cL k (i:Int) (l.map R)=cL (i64.wrap (j+1)) ((Ex6 b q r i l).map R)
 |_,_,0,_,_,h,_=>absurd h (by omega)
 |0,i,k+1,l,hi,_,hl=>by
  unfold W7;rw[dF_ (by simp;omega)];rfl
 |r+1,i,k+1,l,hi,hk,hl=>by
  unfold W7;rw[dT_ (by simp;omega)];simp only[cond_true];rw[E1 (dT_ (by omega)),T2 hb (by omega),Ex6];cases b.testBit i with
  |true=>
   simp only[if_true,show((1:Int)==1)=true from rfl,cond_true];refine sbe (D4 (show i<l.length by omega)) (sbe (x:=(l.set i q).map R) (by rw[tn,List.map_set]) ?_);unfold As3;rw[wi i (by omega)];exact Du9 hb h12 r (i+1) k _ (by omega) (by omega) (by simp[hl])
  |false=>
   simp only[Bool.false_eq_true,if_false,show((0:Int)==1)=false from rfl,cond_false];unfold As3;rw[wi i (by omega)];exact Du9 hb h12 r (i+1) k _ (by omega) (by omega) hl
theorem Du8(h:okM m)(hn:v.length=m.own.length)(hv:∀x∈v,fr D B x)(hz:szs (gP m) D B){b:Nat}(hb:b<18446744073709551616){l44:List A1}{j:Int}:
 ∀(r i:Nat) (q:Rat),i+r=v.length->fr (gP m*D) (B*12) q->(fr (gP m*D) (B*12) (bv m mo b v r i q))/\Ev fun f=>∀(cL:Int->List A1->Option (List A1)) k,r<k->W6 f (sV m tg mo z bs) (v.map R) l44 j (b:Int) cL k (i:Int) (R q).n_.neg (R q).n_.mag (R q).d.neg (R q).d.mag=W7 (v.map R) (R (bv m mo b v r i q)).n_.mag (R (bv m mo b v r i q)).d.mag (R (bv m mo b v r i q)).n_.neg (R (bv m mo b v r i q)).d.neg j (b:Int) cL f 0 l44
 |0,i,q,hi,hq=>⟨hq,Ev.of fun f cL k hk=>by
  obtain⟨k,rfl⟩:∃j,k=j+1:=⟨k-1,by omega⟩
  unfold W6;rw[dF_ (by simp;omega)];rfl⟩
 |r+1,i,q,hi,hq=>by
  have h12:=h.n12;rw[bv];have hq':fr (gP m*D) (B*12) (if b.testBit i then(match bsO m mo b v i with|some x=>bet mo q x|none=>q) else q):=by
   split
   ·split
    ·rename_i x hx;exact Ga7 hq (Es2 h (by omega) hn hv hz hx)
    ·exact hq
   ·exact hq
  obtain⟨ih1,ih2⟩:=Du8 h hn hv hz hb (l44:=l44) (j:=j) r (i+1) _ (by omega) hq';refine⟨ih1,?_⟩;have hbe:Ev fun f=>∀x,bsO m mo b v i=some x->Dh7 f (sV m tg mo z bs) (R q) (R x)=some (R (bet mo q x)):=by
   cases hx:bsO m mo b v i with
   |none=>exact Ev.of fun f x e=>by cases e
   |some y=>exact(Bc4 (sv:=sV m tg mo z bs) ((@Ax1 _ _ _ hz _).2.2 12 (by omega) hq) ((@Ax1 _ _ _ hz _).2.2 12 (by omega) (Es2 h (by omega) hn hv hz hx))).mono fun f h x e=>by cases e;exact h
  refine(((Eh7 (tg:=tg) (z:=z) (bs:=bs) (mo:=mo) h (show i<m.own.length by omega) hn hv hz hb).and hbe).and ih2).mono fun f hh cL k hk=> ?_
  obtain⟨⟨e1,e2⟩,e3⟩:=hh;obtain⟨k,rfl⟩:∃j,k=j+1:=⟨k-1,by omega⟩
  unfold W6;rw[dT_ (by simp;omega)];simp only[cond_true];rw[E1 (dT_ (by omega)),T2 hb (by omega)];cases hbit:b.testBit i with
  |false=>
   simp only[hbit,Bool.false_eq_true,if_false]at e3⊢;simp only[show((0:Int)==0)=true from rfl,cond_true];unfold Ac7;rw[wi i (by omega)];exact e3 cL k (by omega)
  |true=>
   simp only[hbit,if_true]at e3⊢;simp only[show((1:Int)==0)=false from rfl,cond_false];refine sbe e1 ?_;cases hx:bsO m mo b v i with
   |none=>
    simp only[hx,Option.isSome_none,cond_false]at e3⊢;unfold Ac7;rw[wi i (by omega)];exact e3 cL k (by omega)
   |some x=>
    simp only[hx,Option.isSome_some,cond_true]at e3⊢;refine sbe (e2 x hx) ?_;unfold Ac7;rw[wi i (by omega)];exact e3 cL k (by omega)
theorem Fg8(h:okM m)(hn:v.length=m.own.length)(hv:∀x∈v,fr D B x)(hz:szs (gP m) D B){b:Nat}(hb:b<18446744073709551616):fr (gP m*D) (B*12) (Ga9 m mo b v):=by
 have:=(Du8 (mo:=mo) (tg:=0) (z:=0) (bs:=[]) h hn hv hz hb (l44:=[]) (j:=0) v.length 0 0 (by omega) (Al5 (Al6 (Nat.mul_pos hz.1 hz.2.1)) (Nat.zero_le _))).1;rw[hn]at this;exact this
theorem Ev7(h:okM m)(hn:v.length=m.own.length)(hv:∀x∈v,fr D B x)(hz:szs (gP m) D B):∀(bs:List Nat) (l:List Rat),(∀b∈bs,b<18446744073709551616)->(∀x∈l,fr (gP m*D) (B*12) x)->∀x∈lev m mo v bs l,fr (gP m*D) (B*12) x
 |[],_,_,hl=>hl
 |b::bs,l,hb,hl=>Ev7 h hn hv hz bs _ (fun x hx=>hb x (List.mem_cons_of_mem _ hx)) (Ex7 (Fg8 h hn hv hz (hb b List.mem_cons_self)) _ _ _ hl)
theorem Dv1:∀(bs:List Nat) (l:List Rat),(lev m mo v bs l).length=l.length
 |[],_=>rfl
 |b::bs,l=>by rw[lev,Dv1 bs,Bu5]
theorem Dv0(h:okM m)(hn:v.length=m.own.length)(hv:∀x∈v,fr D B x)(hz:szs (gP m) D B)(hbs:∀b∈bs,b<18446744073709551616)(hbl:bs.length<=1000000):
 ∀(rest:List Nat) (i:Nat) (l:List Rat),bs.drop i=rest->l.length=v.length->Ev fun f=>∀k,rest.length<k->O7 f (sV m tg mo z bs) (v.map R) k (i:Int) (l.map R)=some ((lev m mo v rest l).map R)
 |[],i,l,hd,hl=>Ev.of fun f k hk=>by
  obtain⟨k,rfl⟩:∃j,k=j+1:=⟨k-1,by simp at hk;omega⟩
  have:=drop_nil hd;unfold O7;rw[dF_ (by simp[sV];omega)];rfl
 |b::rest,i,l,hd,hl=>by
  have h12:=h.n12;obtain⟨hi,hb',hd'⟩:=T7 hd;have hb:=hbs b (by rw[<-hb'];exact List.getElem_mem hi);have h2:=(Du8 (mo:=mo) (tg:=tg) (z:=z) (bs:=bs) h hn hv hz hb (l44:=l.map R) (j:=(i:Int)) v.length 0 0 (by omega) (Al5 (Al6 (Nat.mul_pos hz.1 hz.2.1)) (Nat.zero_le _))).2;have ih:=Dv0 h hn hv hz hbs hbl rest (i+1) (Ex6 b (Ga9 m mo b v) m.own.length 0 l) hd' (by rw[Bu5];exact hl);refine(((Gm2.and h2).and ih).and (Ev.ge 13)).mono fun f hh k hk=> ?_
  obtain⟨⟨⟨e0,e1⟩,e2⟩,e3⟩:=hh;obtain⟨k,rfl⟩:∃j,k=j+1:=⟨k-1,by simp at hk;omega⟩
  unfold O7;rw[dT_ (by simp[sV];omega)];simp only[cond_true];refine sbe (x:=(b:Int)) (by rw[show(sV m tg mo z bs).blocks=bs.map fun(b:Nat)=>(b:Int) from rfl,D4 hi,hb']) (sbe e0 ?_);have:=e1 (O7 f (sV m tg mo z bs) (v.map R) k) f (by omega);refine Eq.trans this ?_;have e4:=Du9 (v:=v) hb (by omega) (q:=bv m mo b v v.length 0 0) (j:=(i:Int)) (cL:=O7 f (sV m tg mo z bs) (v.map R) k) v.length 0 f l (by omega) (by omega) hl;refine Eq.trans e4 ?_;rw[wi i (by omega)];have:=e2 k (by simp at hk;omega);unfold Ga9 at this;rw[<-hn]at this;refine Eq.trans this ?_;rw[lev];unfold Ga9;rw[<-hn]
theorem El9(h:okM m)(hn:v.length=m.own.length)(hv:∀x∈v,fr D B x)(hz:szs (gP m) D B)(hbs:∀b∈bs,b<18446744073709551616)(hbl:bs.length<=1000000){l:List Rat}(hl:l.length=v.length):Ev fun f=>Fu7 f (sV m tg mo z bs) (v.map R) (l.map R)=some ((lev m mo v bs l).map R):=by
 refine((Dv0 (tg:=tg) (z:=z) (mo:=mo) h hn hv hz hbs hbl bs 0 l rfl hl).and (Ev.ge 1000001)).mono fun f hh=> ?_
 unfold Fu7;exact hh.1 f (by omega)
def nx1(m:Mdl)(tg:Nat)(mo:Bool)(z:Nat)(up:Bool)(v:List Rat)(s:Nat):Rat:=if tg.testBit s then 1 else if up&&z.testBit s then 0 else(bsL m mo v s).getD 0
def nx0(m:Mdl)(tg:Nat)(mo:Bool)(z:Nat)(up:Bool)(v:List Rat):List Rat:=(List.range m.own.length).map (nx1 m tg mo z up v)
def nx(m:Mdl)(tg:Nat)(mo:Bool)(z:Nat)(bs:List Nat)(up:Bool)(v:List Rat):List Rat:=bif up then lev m mo v bs (nx0 m tg mo z up v) else nx0 m tg mo z up v
theorem Cn4{up:Bool}:(nx0 m tg mo z up v).length=m.own.length:=by simp[nx0]
theorem Gg4{up:Bool}:(nx m tg mo z bs up v).length=m.own.length:=by
 unfold nx;cases up with
 |true=>simp only[cond_true];rw[Dv1,Cn4]
 |false=>simp only[cond_false];exact Cn4
theorem Ew5(h:okM m)(hn:v.length=m.own.length)(hv:∀x∈v,fr D B x)(hz:szs (gP m) D B)(hB:0<B){up:Bool}:∀x∈nx0 m tg mo z up v,fr (gP m*D) (B*12) x:=by
 intro x hx;obtain⟨s,hs,rfl⟩:=List.mem_map.1 hx;have hs:=List.mem_range.1 hs;have hp:=Nat.mul_pos hz.1 hz.2.1;unfold nx1;split
 ·exact Al5 (Ds9 hp) (by omega)
 ·split
  ·exact Al5 (Al6 hp) (by omega)
  ·have:=Ct0 (mo:=mo) (v:=v) h hs;cases hb:bsL m mo v s with
   |none=>rw[hb]at this;cases this
   |some y=>exact Gb1 h hs hn hv hz hb
theorem Gy4(h:okM m)(hn:v.length=m.own.length)(hv:∀x∈v,fr D B x)(hz:szs (gP m) D B)(hB:0<B)(hbs:∀b∈bs,b<18446744073709551616){up:Bool}:∀x∈nx m tg mo z bs up v,fr (gP m*D) (B*12) x:=by
 unfold nx;cases up with
 |true=>exact Ev7 h hn hv hz bs _ hbs (Ew5 h hn hv hz hB)
 |false=>exact Ew5 h hn hv hz hB
theorem Ew2(h:okM m)(hn:v.length=m.own.length)(hv:∀x∈v,fr D B x)(hz:szs (gP m) D B)(hbs:∀b∈bs,b<18446744073709551616)(hbl:bs.length<=1000000)(ht:tg<18446744073709551616)(hz2:z<18446744073709551616){up:Bool}{z0:A1}:
 ∀(r i:Nat),i+r=m.own.length->Ev fun f=>∀k,r<k->Ad4 f (sV m tg mo z bs) (v.map R) up k (i:Int) (fil (fun s=>R (nx1 m tg mo z up v s)) z0 m.own.length i)=some ((nx m tg mo z bs up v).map R)
 |0,i,hi=>by
  refine(El9 (tg:=tg) (z:=z) (mo:=mo) (l:=nx0 m tg mo z up v) h hn hv hz hbs hbl (by rw[Cn4,hn])).mono fun f hh k hk=> ?_
  obtain⟨k,rfl⟩:∃j,k=j+1:=⟨k-1,by omega⟩
  obtain rfl:i=m.own.length:=by omega
  unfold Ad4;rw[dF_ (by simp[hn]),El0];simp only[cond_false];rw[show(List.range m.own.length).map (fun s=>R (nx1 m tg mo z up v s))=(nx0 m tg mo z up v).map R by simp[nx0,Function.comp_def]];unfold nx;cases up with
  |true=>simp only[cond_true];exact sbe hh rfl
  |false=>rfl
 |r+1,i,hi=>by
  have h12:=h.n12;have hil:i<m.own.length:=by omega
  refine(((Gm2.and He4).and (Eh6 (tg:=tg) (z:=z) (bs:=bs) (mo:=mo) h hil hn hv hz)).and (Ew2 h hn hv hz hbs hbl ht hz2 (up:=up) (z0:=z0) r (i+1) (by omega))).mono fun f hh k hk=> ?_
  obtain⟨⟨⟨e0,e1⟩,e2⟩,e3⟩:=hh;obtain⟨k,rfl⟩:∃j,k=j+1:=⟨k-1,by omega⟩
  have g1:(fil (fun s=>R (nx1 m tg mo z up v s)) z0 m.own.length i).set (0+Int.toNat (i:Int)) (R (nx1 m tg mo z up v i))=fil (fun s=>R (nx1 m tg mo z up v s)) z0 m.own.length (i+1):=by rw[tn];exact Bd6 hil
  have e4:=e3 k (by omega);have go:∀y,y=R (nx1 m tg mo z up v i)->(Option.bind (C6 (fil (fun s=>R (nx1 m tg mo z up v s)) z0 m.own.length i) (i:Int)) fun _=>Option.bind (some ((fil (fun s=>R (nx1 m tg mo z up v s)) z0 m.own.length i).set (0+Int.toNat (i:Int)) y)) fun l22=>Ba9 (i:Int) (Ad4 f (sV m tg mo z bs) (v.map R) up k) l22)=some ((nx m tg mo z bs up v).map R):=fun y hy=>by
   subst hy;refine sbe (Az0 hil) (sbe (by rw[g1]) ?_);unfold Ba9;rw[wi i (by omega)];exact e4
  unfold Ad4;rw[dT_ (by simp;omega)];simp only[cond_true];rw[show(sV m tg mo z bs).target=(tg:Int) from rfl,show(sV m tg mo z bs).zero=(z:Int) from rfl,E1 (dT_ (by omega)),E1 (dT_ (by omega)),T2 ht (by omega),T2 hz2 (by omega)];cases hbit:tg.testBit i with
  |true=>
   simp only[if_true,show((1:Int)==1)=true from rfl,cond_true];refine sbe e1 (go _ ?_);unfold nx1;rw[hbit];rfl
  |false=>
   simp only[Bool.false_eq_true,if_false,show((0:Int)==1)=false from rfl,cond_false];refine sbe (x:=up&&z.testBit i) (by cases up<;>cases z.testBit i<;>rfl) ?_;cases hu:up&&z.testBit i with
   |true=>
    simp only[cond_true];refine sbe e0 (go _ ?_);unfold nx1;rw[hbit,hu];rfl
   |false=>
    simp only[cond_false];refine sbe e2 (go _ ?_);unfold nx1;rw[hbit,hu];have:=Ct0 (mo:=mo) (v:=v) h hil;cases hb:bsL m mo v i with
    |none=>rw[hb]at this;cases this
    |some y=>rfl
theorem Fm9(h:okM m)(hn:v.length=m.own.length)(hv:∀x∈v,fr D B x)(hz:szs (gP m) D B)(hbs:∀b∈bs,b<18446744073709551616)(hbl:bs.length<=1000000)(ht:tg<18446744073709551616)(hz2:z<18446744073709551616){up:Bool}:Ev fun f=>F79 f (sV m tg mo z bs) (v.map R) up=some ((nx m tg mo z bs up v).map R):=by
 have h12:=h.n12;refine((Ew2 (tg:=tg) (z:=z) (mo:=mo) (z0:=(⟨(⟨false,[]⟩:A3),(⟨false,[]⟩:A3)⟩:A1)) h hn hv hz hbs hbl ht hz2 (up:=up) m.own.length 0 (by omega)).and (Ev.ge 13)).mono fun f hh=> ?_
 obtain⟨h1,h2⟩:=hh;unfold F79;simp only[List.length_map,hn];refine sbe (Bf2 (by omega) _) ?_;have:=h1 f (by omega)
 rwa [Ek9]at this
end
end
section
def Ed8(p:Nat->Bool):Nat->Nat
 |0=>0
 |n+1=>if p n then Ed8 p n|||2^n else Ed8 p n
theorem Ay1{p:Nat->Bool}:∀(n i:Nat),(Ed8 p n).testBit i=(decide (i<n)&&p i)
 |0,i=>by simp[Ed8]
 |n+1,i=>by
  rw[Ed8];by_cases h:p n=true
  ·rw[if_pos h,Nat.testBit_or,Ay1 n i,Nat.testBit_two_pow];by_cases e:n=i
   ·subst e;simp[h]
   ·by_cases e2:i<n
    ·simp[e2,e];omega
    ·simp[e2,e];omega
  ·rw[if_neg h,Ay1 n i];by_cases e:n=i
   ·subst e;simp[h]
   ·by_cases e2:i<n
    ·simp[e2];omega
    ·simp[e2];omega
theorem Fh0{p:Nat->Bool}(n:Nat):Ed8 p n<2^n:=Bm8 fun i h=>by rw[Ay1]at h;simp at h;exact h.1
def Fp5(m:Mdl)(y s t:Nat):Prop:=s<m.own.length/\∃c∈m.ch.getD s [],inB y c=true/\∃b∈c.next,b.1.toNat=t
inductive Rch (m:Mdl) (y s:Nat):Nat->Prop
 |refl:Rch m y s s
 |step {t u:Nat} (h:Rch m y s t) (k:Fp5 m y t u):Rch m y s u
theorem Rch.trans{m:Mdl}{y s t u:Nat}(h:Rch m y s t)(k:Rch m y t u):Rch m y s u:=by
 induction k with
 |refl=>exact h
 |step _ k ih=>exact ih.step k
theorem Rch.mono{m:Mdl}{x y s t:Nat}(hs:sub x y)(h:Rch m x s t):Rch m y s t:=by
 induction h with
 |refl=>exact .refl
 |step _ k ih=>
  obtain⟨h1,c,h2,h3,h4⟩:=k;exact ih.step ⟨h1,c,h2,Br6 hs h3,h4⟩
open Classical in
noncomputable def rB (m:Mdl) (y s t:Nat):Bool:=decide (Rch m y s t)
theorem Cy7{m:Mdl}{y s t:Nat}:rB m y s t=true↔Rch m y s t:=by unfold rB;simp
theorem or1{v t:Nat}(hv:v<4096)(ht:t<12):v|||2^t<4096:=by
 have h2:2^t<2^12:=Nat.pow_lt_pow_right (by decide) ht;exact Nat.or_lt_two_pow (n:=12) hv h2
section
variable {m:Mdl} {y s:Nat}
def Bu4(m:Mdl)(y s v:Nat):Prop:=v<4096/\∀t,v.testBit t=true->Rch m y s t
theorem Dy4(h:okM m)(hy:y<18446744073709551616){f:Nat}(hf:13<=f){t:Nat}(ht:t<m.own.length)(hst:Rch m y s t){c:Cho}(hc:c∈m.ch.getD t []){j:Nat}(hj:j<=100){cL:Int->Int->Option Int}:∀(r i k v:Nat),i+r=c.next.length->r<k->Bu4 m y s v->
 ∃w,Bu4 m y s w/\sub v w/\(inB y c=true->∀b∈c.next.drop i,w.testBit b.1.toNat=true)/\Q9 f (y:Int) (j:Int) (eC c) cL k (v:Int) (i:Int)=cL (w:Int) ((j+1:Nat):Int)
 |_,_,0,_,_,h,_=>absurd h (by omega)
 |0,i,k+1,v,hi,_,hv=>by
  refine⟨v,hv,fun _ h=>h,fun _ b hb=> ?_,?_⟩
  ·rw[List.drop_of_length_le (by omega)]at hb;cases hb
  ·unfold Q9;rw[dF_ (by simp[eC];omega),wi j (by omega)];rfl
 |r+1,i,k+1,v,hi,hk,hv=>by
  have hil:i<c.next.length:=by omega
  obtain⟨hl,e,_,h4,hcc⟩:=X3 h ht;have hct:=(hcc c (by rw[<-e];exact hc)).1;have h12:=hct.1;obtain⟨h0,h1⟩:=hct.2 _ (List.getElem_mem hil);obtain⟨u,hu⟩:=Int.eq_ofNat_of_zero_le h0;rw[hu,Int.toNat_natCast]at h1;have run:Q9 f (y:Int) (j:Int) (eC c) cL (k+1) (v:Int) (i:Int)=bif inB y c then Q9 f (y:Int) (j:Int) (eC c) cL k ((v|||2^u:Nat):Int) ((i+1:Nat):Int) else Q9 f (y:Int) (j:Int) (eC c) cL k (v:Int) ((i+1:Nat):Int):=by
   rw[Q9,dT_ (by simp[eC];omega)];simp only[cond_true];refine sbe (x:=eB c.next[i]) (by rw[show(eC c).Next=c.next.map eB from rfl,D4 hil]) (sbe (Bu9 hy hct hf) ?_);have h2:2^u<2^12:=Nat.pow_lt_pow_right (by decide) h1;cases inB y c with
   |true=>
    simp only[cond_true];rw[show(eB c.next[i]).To=(u:Int) from hu,E1 (dT_ (by omega)),Bn0 (by omega),Fn4 (by have:=hv.1;omega) (by omega)];unfold As2;rw[wi i (by omega)]
   |false=>
    simp only[cond_false];unfold As2;rw[wi i (by omega)]
  rw[run];cases hin:inB y c with
  |true=>
   simp only[cond_true];have hv':Bu4 m y s (v|||2^u):=⟨or1 hv.1 h1,fun t' ht'=>by
    rw[Nat.testBit_or,Nat.testBit_two_pow,Bool.or_eq_true,decide_eq_true_eq]at ht';rcases ht' with h'|h'
    ·exact hv.2 _ h'
    ·subst h';exact hst.step ⟨ht,c,hc,hin,c.next[i],List.getElem_mem hil,by rw[hu];rfl⟩⟩
   obtain⟨w,w1,w2,w3,w4⟩:=Dy4 h hy hf ht hst hc hj (cL:=cL) r (i+1) k _ (by omega) (by omega) hv';refine⟨w,w1,fun q hq=>w2 q (by rw[Nat.testBit_or,hq];rfl),fun _ b hb=> ?_,w4⟩;rw[List.drop_eq_getElem_cons hil]at hb;rcases List.mem_cons.1 hb with rfl|hb
   ·rw[hu];exact w2 u (by rw[Nat.testBit_or,Nat.testBit_two_pow];simp)
   ·exact w3 hin b hb
  |false=>
   simp only[cond_false];obtain⟨w,w1,w2,w3,w4⟩:=Dy4 h hy hf ht hst hc hj (cL:=cL) r (i+1) k _ (by omega) (by omega) hv;exact⟨w,w1,w2,fun e=>(by cases e),w4⟩
theorem Ex0(h:okM m)(hy:y<18446744073709551616){f:Nat}(hf:14<=f){t:Nat}(ht:t<m.own.length)(hst:Rch m y s t){cL:Int->Int->Option Int}:∀(r i k v:Nat),i+r=(m.ch.getD t []).length->r<k->Bu4 m y s v->
 ∃w,Bu4 m y s w/\sub v w/\(∀c∈(m.ch.getD t []).drop i,inB y c=true->∀b∈c.next,w.testBit b.1.toNat=true)/\W5 f (y:Int) (t:Int) ((m.ch.getD t []).map eC) cL k (v:Int) (i:Int)=cL (w:Int) ((t+1:Nat):Int)
 |_,_,0,_,_,h,_=>absurd h (by omega)
 |0,i,k+1,v,hi,_,hv=>by
  have h12:=h.n12;refine⟨v,hv,fun _ h=>h,fun c hc=> ?_,?_⟩
  ·rw[List.drop_of_length_le (by omega)]at hc;cases hc
  ·unfold W5;rw[dF_ (by rw[List.length_map,List.length_map];omega)];simp only[cond_false];unfold As1;rw[wi t (by omega)]
 |r+1,i,k+1,v,hi,hk,hv=>by
  obtain⟨hl,e,_,h4,hcc⟩:=X3 h ht;have hil:i<(m.ch.getD t []).length:=by omega
  have hcm:=List.getElem_mem hil;have hct:=(hcc _ (by rw[<-e];exact hcm)).1;have h12:=hct.1;have h4':(m.ch.getD t []).length<=4:=by rw[e];exact h4
  obtain⟨w,w1,w2,w3,w4⟩:=Dy4 h hy (show 13<=f by omega) ht hst hcm (j:=i) (by omega) (cL:=W5 f (y:Int) (t:Int) ((m.ch.getD t []).map eC) cL k) (m.ch.getD t [])[i].next.length 0 f v (by omega) (by omega) hv;obtain⟨x,x1,x2,x3,x4⟩:=Ex0 h hy hf ht hst (cL:=cL) r (i+1) k w (by omega) (by omega) w1;refine⟨x,x1,fun q hq=>x2 q (w2 q hq),fun c hc hin b hb=> ?_,?_⟩
  ·rw[List.drop_eq_getElem_cons hil]at hc;rcases List.mem_cons.1 hc with rfl|hc
   ·exact x2 _ (w3 hin b hb)
   ·exact x3 c hc hin b hb
  ·unfold W5;rw[dT_ (by rw[List.length_map,List.length_map];omega)];simp only[cond_true];refine sbe (x:=eC (m.ch.getD t [])[i]) (by rw[D4 hil]) ?_;exact w4.trans x4
theorem Dy3(h:okM m)(hy:y<18446744073709551616){f:Nat}(hf:14<=f){old:Nat}(ho:Bu4 m y s old){cL:Int->Int->Option Int}:∀(r i k v:Nat),i+r=m.own.length->r<k->Bu4 m y s v->
 ∃w,Bu4 m y s w/\sub v w/\(∀t,i<=t->old.testBit t=true->∀u,Fp5 m y t u->w.testBit u=true)/\M9 f (y:Int) m.own (m.ch.map eL) (old:Int) cL k (v:Int) (i:Int)=cL (w:Int) (old:Int)
 |_,_,0,_,_,h,_=>absurd h (by omega)
 |0,i,k+1,v,hi,_,hv=>by
  refine⟨v,hv,fun _ h=>h,fun t ht _ u hu=>absurd hu.1 (by omega),?_⟩;unfold M9;rw[dF_ (by simp;omega)];rfl
 |r+1,i,k+1,v,hi,hk,hv=>by
  have h12:=h.n12;have hin:i<m.own.length:=by omega
  obtain⟨hl,e,_,h4,hcc⟩:=X3 h hin;have ho1:=ho.1;cases hbit:old.testBit i with
  |false=>
   obtain⟨x,x1,x2,x3,x4⟩:=Dy3 h hy hf ho (cL:=cL) r (i+1) k v (by omega) (by omega) hv;refine⟨x,x1,x2,fun t ht hot=> ?_,?_⟩
   ·rcases Nat.lt_or_ge i t with h'|h'
    ·exact x3 t h' hot
    ·obtain rfl:t=i:=by omega
     rw[hbit]at hot;cases hot
   ·unfold M9;rw[dT_ (by simp;omega)];simp only[cond_true];rw[E1 (dT_ (by omega)),T2 (by omega) (by omega),hbit];simp only[Bool.false_eq_true,if_false,show((0:Int)==0)=true from rfl,cond_true];unfold As1;rw[wi i (by omega)];exact x4
  |true=>
   obtain⟨w,w1,w2,w3,w4⟩:=Ex0 h hy hf hin (ho.2 i hbit) (cL:=M9 f (y:Int) m.own (m.ch.map eL) (old:Int) cL k) (m.ch.getD i []).length 0 f v (by omega) (by rw[e];omega) hv;obtain⟨x,x1,x2,x3,x4⟩:=Dy3 h hy hf ho (cL:=cL) r (i+1) k w (by omega) (by omega) w1;refine⟨x,x1,fun q hq=>x2 q (w2 q hq),fun t ht hot u hu=> ?_,?_⟩
   ·rcases Nat.lt_or_ge i t with h'|h'
    ·exact x3 t h' hot u hu
    ·obtain rfl:t=i:=by omega
     obtain⟨_,c,hc,hinb,b,hb,rfl⟩:=hu;exact x2 _ (w3 c hc hinb b hb)
   ·unfold M9;rw[dT_ (by simp;omega)];simp only[cond_true];rw[E1 (dT_ (by omega)),T2 (by omega) (by omega),hbit];simp only[if_true,show((1:Int)==0)=false from rfl,cond_false];refine sbe (x:=(m.ch.getD i []).map eC) (by rw[D4 hl,e];rfl) ?_;exact w4.trans x4
theorem Ew9(h:okM m)(hy:y<18446744073709551616){f:Nat}(hf:5000<=f):∀(k v old:Nat),4096<k+v->Bu4 m y s v->sub old v->v.testBit s=true->(old≠v->True)->(∀t,old.testBit t=true->∀u,Fp5 m y t u->v.testBit u=true)->
 ∃w:Nat,w<4096/\(∀t,w.testBit t=rB m y s t)/\O5 f (y:Int) m.own (m.ch.map eL) k (v:Int) (old:Int)=some (w:Int)
 |0,v,old,hk,hv,_,_,_,_=>absurd hv.1 (by omega)
 |k+1,v,old,hk,hv,hs,hvs,_,hcl=>by
  have h12:=h.n12;unfold O5;by_cases e:old=v
  ·subst e;refine⟨old,hv.1,fun t=> ?_,by rw[show(((old:Int)) !=(old:Int))=false by simp];rfl⟩;rw[Bool.eq_iff_iff,Cy7];refine⟨hv.2 t,fun hr=> ?_⟩
   induction hr with
   |refl=>exact hvs
   |step _ k ih=>exact hcl _ ih _ k
  ·rw[show((old:Int) !=(v:Int))=true by simp;omega];simp only[cond_true];obtain⟨w,w1,w2,w3,w4⟩:=Dy3 h hy (show 14<=f by omega) hv (cL:=O5 f (y:Int) m.own (m.ch.map eL) k) m.own.length 0 f v (by omega) (by omega) hv;by_cases e2:v=w
   ·subst e2;cases k with
    |zero=>exact absurd w1.1 (by omega)
    |succ k=>
     refine⟨v,w1.1,fun t=> ?_,w4.trans (by unfold O5;rw[show(((v:Int)) !=(v:Int))=false by simp];rfl)⟩;rw[Bool.eq_iff_iff,Cy7];refine⟨hv.2 t,fun hr=> ?_⟩
     induction hr with
     |refl=>exact hvs
     |step _ k ih=>exact w3 _ (Nat.zero_le _) ih _ k
   ·have hlt:=Cf2 w2 e2;obtain⟨x,x1,x2,x3⟩:=Ew9 h hy hf k w v (by omega) w1 w2 (w2 s hvs) (fun _=>trivial) (fun t ht u hu=>w3 t (Nat.zero_le _) ht u hu);exact⟨x,x1,x2,w4.trans x3⟩
theorem Bn1(h:okM m)(hy:y<18446744073709551616){f:Nat}(hf:5000<=f)(hs:s<m.own.length){tg:Int}{mo:Bool}{z:Int}:∃w:Nat,w<4096/\(∀t,w.testBit t=rB m y s t)/\Fq6 f (s:Int) (y:Int) m.own (m.ch.map eL) tg mo z=some (w:Int):=by
 have h12:=h.n12;have h2:2^s<2^12:=Nat.pow_lt_pow_right (by decide) (by omega);have h3:0<2^s:=Nat.pow_pos (by decide);obtain⟨w,w1,w2,w3⟩:=Ew9 (s:=s) h hy hf f (2^s) 0 (by omega) ⟨h2,fun t ht=>by
  rw[Nat.testBit_two_pow,decide_eq_true_eq]at ht;subst ht;exact .refl⟩ (fun i hi=>by rw[Nat.zero_testBit]at hi;cases hi) (by rw[Nat.testBit_two_pow];simp) (fun _=>trivial) (fun t ht=>by rw[Nat.zero_testBit]at ht;cases ht)
 refine⟨w,w1,w2,?_⟩;unfold Fq6;rw[E1 (dT_ (by omega)),Bn0 (by omega)];exact w3
end
end
section
structure isC(m:Mdl)(b:Nat):Prop where
 ne:b≠0
 keep:∀s,s<m.own.length->b.testBit s=true->kpC m s b=true
 all:∀s t,b.testBit s=true->b.testBit t=true->Rch m b s t
def dsj(a b:Nat):Prop:=∀i,a.testBit i=true->b.testBit i=true->False
structure Fu1(m:Mdl)(x:Nat)(bs:List Nat):Prop where
 sb:∀b∈bs,sub b x
 cs:∀b∈bs,isC m b
 dj:bs.Pairwise dsj
 top:∀c,isC m c->sub c x->∃b∈bs,sub c b
theorem Bq2:∀(bs:List Nat) (x:Nat),x<18446744073709551616->(∀b∈bs,sub b x/\b≠0)->bs.Pairwise dsj->bs.length<=x
 |[],_,_,_,_=>Nat.zero_le _
 |b::bs,x,hx,h,hd=>by
  obtain⟨h1,h2⟩:=List.pairwise_cons.1 hd;obtain⟨b1,b2⟩:=h b List.mem_cons_self;have hb:b<18446744073709551616:=Nat.lt_of_le_of_lt (Ai9 b1) hx;have hlt:sd x b<x:=Cf2 (fun i hi=>by rw[Bg8 hx hb,Bool.and_eq_true]at hi;exact hi.1) (fun e=>by
   obtain⟨i,hi⟩:=Bx9 b2;have:=Bg8 (a:=x) (b:=b) (i:=i) hx hb;rw[e,hi,b1 i hi]at this;simp at this)
  have:=Bq2 bs (sd x b) (by omega) (fun c hc=>⟨fun i hi=>by
   rw[Bg8 hx hb,(h c (List.mem_cons_of_mem _ hc)).1 i hi,Bool.true_and];cases hbi:b.testBit i with
   |false=>rfl
   |true=>exact(h1 c hc i hbi hi).elim,(h c (List.mem_cons_of_mem _ hc)).2⟩) h2
  simp only[List.length_cons];omega
section
variable {m:Mdl} {y:Nat}
noncomputable def part (m:Mdl) (y s:Nat):Nat:=Ed8 (fun t=>y.testBit t&&rB m y s t&&rB m y t s) m.own.length
theorem W1{s t:Nat}(hy:y<2^m.own.length):(part m y s).testBit t=true↔y.testBit t=true/\Rch m y s t/\Rch m y t s:=by
 unfold part;rw[Ay1,Bool.and_eq_true,Bool.and_eq_true,Bool.and_eq_true,Cy7,Cy7,decide_eq_true_eq];exact⟨fun h=>⟨h.2.1.1,h.2.1.2,h.2.2⟩,fun h=>⟨Do6 hy h.1,⟨h.1,h.2.1⟩,h.2.2⟩⟩
theorem Bt2{s t:Nat}(hy:y<2^m.own.length)(h:(part m y s).testBit t=true):part m y t=part m y s:=by
 obtain⟨_,h1,h2⟩:=(W1 hy).1 h;refine Ag2 fun i=> ?_
 rw[Bool.eq_iff_iff,W1 hy,W1 hy];exact⟨fun k=>⟨k.1,h1.trans k.2.1,k.2.2.trans h2⟩,fun k=>⟨k.1,h2.trans k.2.1,k.2.2.trans h1⟩⟩
theorem Cd3{s:Nat}(hy:y<2^m.own.length)(hs:y.testBit s=true):(part m y s).testBit s=true:=(W1 hy).2 ⟨hs,.refl,.refl⟩
theorem Ab2{s:Nat}(hy:y<2^m.own.length):sub (part m y s) y:=fun _ h=>((W1 hy).1 h).1
theorem En0{s t:Nat}(hy:y<2^m.own.length)(h:(part m y s).testBit t=false)(ht:y.testBit t=true):dsj (part m y s) (part m y t):=fun i h1 h2=>by
 have e1:=Bt2 hy h1;have e2:=Bt2 hy h2;have:(part m y s).testBit t=true:=by rw[<-e1,e2];exact Cd3 hy ht
 rw[h]at this;cases this
structure Inv(m:Mdl)(y i:Nat)(l:List Nat):Prop where
 cs:∀b∈l,isC m b/\∃s,s<i/\y.testBit s=true/\(∀j,j<s->(part m y s).testBit j=false)/\sub b (part m y s)
 dj:l.Pairwise dsj
 top:∀s,s<i->y.testBit s=true->∀c,isC m c->sub c (part m y s)->∃b∈l,sub c b
theorem Ei3(hy:y<2^m.own.length)(h12:m.own.length<=12){d1:List Int}{d2:List (List A2)}{d3:Int}{d4:Bool}{d5:Int}{s v48:Nat}(hs:s<12)(h48:v48<4096){rec_:Int->List Int->List (List A2)->Int->Bool->Int->Option (List Int)}{cL:Int->List Int->Option (List Int)}{l:List Nat}(hl:l.length<=5000)(hb:∀b∈l,b<4096){res:Option (List Int)}
 (h1:(∃b∈l,b.testBit s=true)->cL ((s+1:Nat):Int) (l.map fun(b:Nat)=>(b:Int))=res)
 (h2:(∀b∈l,b.testBit s=false)->(∀j,j<s->v48.testBit j=false)->(Option.bind (rec_ (v48:Int) d1 d2 d3 d4 d5) fun y235=>Option.bind (app (l.map fun(b:Nat)=>(b:Int)) y235) fun l11=>cL ((s+1:Nat):Int) l11)=res)
 (h3:(∀b∈l,b.testBit s=false)->(∃j,j<s/\v48.testBit j=true)->cL ((s+1:Nat):Int) (l.map fun(b:Nat)=>(b:Int))=res):
 ∀(r i k:Nat),i+r=l.length->r<k->(∀b∈l.take i,b.testBit s=false)->An2 d1 d2 d3 d4 d5 (l.map fun(b:Nat)=>(b:Int)) (s:Int) (v48:Int) rec_ cL k (i:Int)=res
 |_,_,0,_,h,_=>absurd h (by omega)
 |0,i,k+1,hi,_,hn=>by
  have h2p:2^s<2^12:=Nat.pow_lt_pow_right (by decide) hs;have h0p:0<2^s:=Nat.pow_pos (by decide);rw[List.take_of_length_le (by omega)]at hn;unfold An2;rw[dF_ (by simp;omega)];simp only[cond_false];rw[E1 (dT_ (by omega)),Cm6 (by omega),Er8 (by omega) (by omega)];unfold An1;rw[wi s (by omega)];by_cases e:∀j,j<s->v48.testBit j=false
  ·have:v48&&&(2^s-1)=0:=Ag2 fun j=>by
    rw[Nat.testBit_and,Br4,Nat.zero_testBit];by_cases hj:j<s
    ·rw[e j hj];rfl
    ·simp[hj]
   rw[this];exact h2 hn e
  ·have hex:∃j,j<s/\v48.testBit j=true:=by
    simp only[Classical.not_forall]at e;obtain⟨j,h1,h2⟩:=e;exact⟨j,h1,by simpa using h2⟩
   obtain⟨j,hj1,hj2⟩:=hex;rw[show((((v48&&&(2^s-1):Nat):Int))==0)=false from beq_false_of_ne (fun e0=>by
    have e0:v48&&&(2^s-1)=0:=by omega
    have:=Nat.testBit_and v48 (2^s-1) j;rw[e0,Nat.zero_testBit,hj2,Br4,dT_ hj1]at this;cases this)]
   exact h3 hn ⟨j,hj1,hj2⟩
 |r+1,i,k+1,hi,hk,hn=>by
  have hil:i<l.length:=by omega
  have hbi:=hb _ (List.getElem_mem hil);unfold An2;rw[dT_ (by simp;omega)];simp only[cond_true];refine sbe (D4 hil) ?_;rw[E1 (dT_ (by omega)),T2 (by omega) (by omega)];cases hbit:l[i].testBit s with
  |true=>
   simp only[if_true,show((1:Int)==1)=true from rfl,cond_true];unfold An1;rw[wi s (by omega)];exact h1 ⟨_,List.getElem_mem hil,hbit⟩
  |false=>
   simp only[Bool.false_eq_true,if_false,show((0:Int)==1)=false from rfl,cond_false];rw[wi i (by omega)];refine Ei3 hy h12 hs h48 hl hb h1 h2 h3 r (i+1) k (by omega) (by omega) fun b hb'=> ?_
   rw[List.take_succ_eq_append_getElem hil]at hb';rcases List.mem_append.1 hb' with h|h
   ·exact hn b h
   ·rw[List.mem_singleton]at h;rw[h];exact hbit
theorem Gb3(h:okM m)(hy:y<2^m.own.length){f:Nat}(hf:5000<=f){tg:Int}{mo:Bool}{z:Int}{s:Nat}(hs:y.testBit s=true){rec_:Int->List Int->List (List A2)->Int->Bool->Int->Option (List Int)}{cL:Int->List Int->Option (List Int)}{l8:List Int}:∀(r i k:Nat),i+r=m.own.length->r<k->
 Ah8 f m.own (m.ch.map eL) tg mo z l8 (s:Int) (y:Int) rec_ cL k ((Ed8 (fun t=>y.testBit t&&rB m y s t&&rB m y t s) i:Nat):Int) (i:Int)=(bif part m y s==y then some [(y:Int)] else An2 m.own (m.ch.map eL) tg mo z l8 (s:Int) ((part m y s:Nat):Int) rec_ cL f 0)
 |_,_,0,_,h=>absurd h (by omega)
 |0,i,k+1,hi,_=>by
  obtain rfl:i=m.own.length:=by omega
  unfold Ah8;rw[dF_ (by simp)];simp only[cond_false];rw[show((((Ed8 (fun t=>y.testBit t&&rB m y s t&&rB m y t s) m.own.length:Nat):Int))==(y:Int))=(part m y s==y) by
   unfold part;rw[Bool.eq_iff_iff,beq_iff_eq,beq_iff_eq];omega]
  rfl
 |r+1,i,k+1,hi,hk=>by
  have h12:=h.n12;have h12':=p12 h.n12;have hin:i<m.own.length:=by omega
  have hsn:=Do6 hy hs;have h2:2^i<2^12:=Nat.pow_lt_pow_right (by decide) (by omega);have hv:=Nat.lt_of_lt_of_le (Fh0 (p:=fun t=>y.testBit t&&rB m y s t&&rB m y t s) i) (Nat.le_of_lt h2);obtain⟨w1,a1,a2,a3⟩:=Bn1 (y:=y) h (by omega) hf hsn (tg:=tg) (mo:=mo) (z:=z);obtain⟨w2,b1,b2,b3⟩:=Bn1 (y:=y) h (by omega) hf hin (tg:=tg) (mo:=mo) (z:=z);have ih:=Gb3 h hy hf hs (tg:=tg) (mo:=mo) (z:=z) (rec_:=rec_) (cL:=cL) (l8:=l8) r (i+1) k (by omega) (by omega);unfold Ah8;rw[dT_ (by simp;omega)];simp only[cond_true];refine sbe (x:=y.testBit i&&rB m y s i&&rB m y i s) ?_ ?_
  ·rw[E1 (dT_ (by omega)),T2 (by omega) (by omega)];cases y.testBit i with
   |false=>rfl
   |true=>
    simp only[if_true,show((1:Int)==1)=true from rfl,cond_true,Bool.true_and];rw[a3,sb,E1 (dT_ (by omega)),T2 (by omega) (by omega),a2 i];cases rB m y s i with
    |false=>rfl
    |true=>
     simp only[if_true,show((1:Int)==1)=true from rfl,cond_true,Bool.true_and];rw[b3,sb,E1 (dT_ (by omega)),T2 (by omega) (by omega),b2 s];cases rB m y i s<;>rfl
  ·rw[Ed8]at ih;cases hp:y.testBit i&&rB m y s i&&rB m y i s with
   |true=>
    rw[if_pos hp]at ih;simp only[cond_true];rw[E1 (dT_ (by omega)),Bn0 (by omega),Fn4 (by omega) (by omega)];unfold Bk4;rw[wi i (by omega)];exact ih
   |false=>
    rw[if_neg (by rw[hp];decide)]at ih;simp only[cond_false];unfold Bk4;rw[wi i (by omega)];exact ih
theorem Er9{α:Type}{a b:List α}(h:a.length+b.length<=2147483648):app a b=some (a++b):=by
 unfold app;rw[dT_ h];rfl
theorem Gf2(h:okM m)(hy:y<2^m.own.length){c s:Nat}(hc:isC m c)(hs:c.testBit s=true)(hsub:sub c y):sub c (part m y s):=fun i hi=>
 (W1 hy).2 ⟨hsub i hi,(hc.all s i hs hi).mono hsub,(hc.all i s hi hs).mono hsub⟩
theorem Shr.uniq{n:Nat}{kp:Nat->Nat->Bool}{x y z:Nat}(h:Shr n kp x y)(k:Shr n kp x z):y=z:=
 Ag2 fun i=>Bool.eq_iff_iff.2 ⟨k.top y h.sb h.keep i,h.top z k.sb k.keep i⟩
theorem Dp3(h:okM m){x:Nat}(hx:x<4096)(hS:Shr m.own.length (kpC m) x y)(hy:y<2^m.own.length){tg:Int}{mo:Bool}{z:Int}{g:Nat->List Nat}
 (hg:∀p,sub p y->p≠y->Fu1 m p (g p)):
 ∀(r i:Nat) (l:List Nat),i+r=m.own.length->Inv m y i l->(∀s,s<i->y.testBit s=true->part m y s≠y)->∃bs,Fu1 m x bs/\∀(f:Nat),5000<=f->∀(rec_:Int->List Int->List (List A2)->Int->Bool->Int->Option (List Int)),(∀p,sub p y->p≠y->rec_ (p:Int) m.own (m.ch.map eL) tg mo z=some ((g p).map fun(b:Nat)=>(b:Int)))->∀k,r<k->
  O3 f m.own (m.ch.map eL) tg mo z (y:Int) rec_ k (i:Int) (l.map fun(b:Nat)=>(b:Int))=some (bs.map fun(b:Nat)=>(b:Int))
 |0,i,l,hi,hI,_=>by
  obtain rfl:i=m.own.length:=by omega
  refine⟨l,⟨fun b hb=> ?_,fun b hb=>(hI.cs b hb).1,hI.dj,fun c hc hcx=> ?_⟩,fun f hf rec_ hrec k hk=> ?_⟩
  ·obtain⟨_,s,_,_,_,hsb⟩:=hI.cs b hb;exact fun i hi=>hS.sb i (Ab2 hy i (hsb i hi))
  ·have hcy:=hS.top c hcx hc.keep;obtain⟨s,hs⟩:=Bx9 hc.ne;exact hI.top s (Do6 hy (hcy s hs)) (hcy s hs) c hc (Gf2 h hy hc hs hcy)
  ·obtain⟨k,rfl⟩:∃j,k=j+1:=⟨k-1,by omega⟩
   unfold O3;rw[dF_ (by simp)];rfl
 |r+1,i,l,hi,hI,hne=>by
  have h12:=h.n12;have h12':=p12 h.n12;have hin:i<m.own.length:=by omega
  have hl:l.length<=y:=Bq2 l y (by omega) (fun b hb=>⟨fun j hj=>by
   obtain⟨_,s,_,_,_,hsb⟩:=hI.cs b hb;exact Ab2 hy j (hsb j hj),(hI.cs b hb).1.ne⟩) hI.dj
  have hlb:∀b∈l,b<4096:=fun b hb=>by
   obtain⟨_,s,_,_,_,hsb⟩:=hI.cs b hb;exact Nat.lt_of_le_of_lt (Ai9 fun j hj=>Ab2 hy j (hsb j hj)) (by omega)
  have head:∀(f:Nat) (rec_:Int->List Int->List (List A2)->Int->Bool->Int->Option (List Int)) (k:Nat),O3 f m.own (m.ch.map eL) tg mo z (y:Int) rec_ (k+1) (i:Int) (l.map fun(b:Nat)=>(b:Int))=bif y.testBit i then(Ah8 f m.own (m.ch.map eL) tg mo z (l.map fun(b:Nat)=>(b:Int)) (i:Int) (y:Int) rec_ (O3 f m.own (m.ch.map eL) tg mo z (y:Int) rec_ k) f 0 0) else O3 f m.own (m.ch.map eL) tg mo z (y:Int) rec_ k ((i+1:Nat):Int) (l.map fun(b:Nat)=>(b:Int)):=fun f rec_ k=>by
   rw[O3,dT_ (by simp;omega)];simp only[cond_true];rw[E1 (dT_ (by omega)),T2 (by omega) (by omega)];cases y.testBit i with
   |false=>
    simp only[Bool.false_eq_true,if_false,show((0:Int)==0)=true from rfl,cond_true,cond_false];unfold An1;rw[wi i (by omega)]
   |true=>rfl
  cases hbit:y.testBit i with
  |false=>
   rw[hbit]at head;obtain⟨bs,e1,e2⟩:=Dp3 h hx hS hy (tg:=tg) (mo:=mo) (z:=z) hg r (i+1) l (by omega) ⟨fun b hb=>by
    obtain⟨a,s,b1,b2⟩:=hI.cs b hb;exact⟨a,s,by omega,b2⟩,hI.dj,fun s hs hys=>by
    rcases Nat.lt_or_ge s i with h'|h'
    ·exact hI.top s h' hys
    ·obtain rfl:s=i:=by omega
     rw[hbit]at hys;cases hys⟩ fun s hs hys=>by
    rcases Nat.lt_or_ge s i with h'|h'
    ·exact hne s h' hys
    ·obtain rfl:s=i:=by omega
     rw[hbit]at hys;cases hys
   refine⟨bs,e1,fun f hf rec_ hrec k hk=> ?_⟩;obtain⟨k,rfl⟩:∃j,k=j+1:=⟨k-1,by omega⟩
   rw[head];exact e2 f hf rec_ hrec k (by omega)
  |true=>
   rw[hbit]at head;simp only[cond_true]at head;have h3:=fun(f:Nat) (hf:5000<=f) (rec_:Int->List Int->List (List A2)->Int->Bool->Int->Option (List Int)) (k:Nat)=>Gb3 h hy hf hbit (tg:=tg) (mo:=mo) (z:=z) (rec_:=rec_) (cL:=O3 f m.own (m.ch.map eL) tg mo z (y:Int) rec_ k) (l8:=l.map fun(b:Nat)=>(b:Int)) m.own.length 0 f (by omega) (by omega)
   by_cases he:part m y i=y
   ·refine⟨[y],⟨fun b hb=> ?_,fun b hb=> ?_,by simp,fun c hc hcx=>⟨y,by simp,hS.top c hcx hc.keep⟩⟩,fun f hf rec_ hrec k hk=> ?_⟩
    ·rw[List.mem_singleton]at hb;rw[hb];exact hS.sb
    ·rw[List.mem_singleton]at hb;subst hb;refine⟨fun e=>(by rw[e,Nat.zero_testBit]at hbit;cases hbit),hS.keep,fun s t hs ht=> ?_⟩;rw[<-he]at hs ht;exact((W1 hy).1 hs).2.2.trans ((W1 hy).1 ht).2.1
    ·obtain⟨k,rfl⟩:∃j,k=j+1:=⟨k-1,by omega⟩
     rw[head];refine(h3 f hf rec_ k).trans ?_;rw[beq_iff_eq.2 he];rfl
   ·have hne':∀s,s<i+1->y.testBit s=true->part m y s≠y:=fun s hs hys=>by
     rcases Nat.lt_or_ge s i with h'|h'
     ·exact hne s h' hys
     ·obtain rfl:s=i:=by omega
      exact he
    have keepI:(∃s,s<i/\(part m y i).testBit s=true)->Inv m y (i+1) l:=fun⟨s0,hs0,hp0⟩=>⟨fun b hb=>by
     obtain⟨a,s,b1,b2⟩:=hI.cs b hb;exact⟨a,s,by omega,b2⟩,hI.dj,fun s hs hys=>by
     rcases Nat.lt_or_ge s i with h'|h'
     ·exact hI.top s h' hys
     ·obtain rfl:s=i:=by omega
      rw[<-Bt2 hy hp0];exact hI.top s0 hs0 (Ab2 hy _ hp0)⟩
    have hp4:part m y i<4096:=Nat.lt_of_le_of_lt (Ai9 (Ab2 hy)) (by omega);have hps2:=hg (part m y i) (Ab2 hy) he;have hpl:(g (part m y i)).length<=part m y i:=Bq2 _ _ (by omega) (fun b hb=>⟨hps2.sb b hb,(hps2.cs b hb).ne⟩) hps2.dj;have fin:∀(bs:List Nat),(∀(f:Nat),5000<=f->∀(rec_:Int->List Int->List (List A2)->Int->Bool->Int->Option (List Int)),(∀p,sub p y->p≠y->rec_ (p:Int) m.own (m.ch.map eL) tg mo z=some ((g p).map fun(b:Nat)=>(b:Int)))->∀k,r<k->An2 m.own (m.ch.map eL) tg mo z (l.map fun(b:Nat)=>(b:Int)) (i:Int) ((part m y i:Nat):Int) rec_ (O3 f m.own (m.ch.map eL) tg mo z (y:Int) rec_ k) f 0=some (bs.map fun(b:Nat)=>(b:Int)))->∀(f:Nat),5000<=f->∀(rec_:Int->List Int->List (List A2)->Int->Bool->Int->Option (List Int)),(∀p,sub p y->p≠y->rec_ (p:Int) m.own (m.ch.map eL) tg mo z=some ((g p).map fun(b:Nat)=>(b:Int)))->∀k,r+1<k->
     O3 f m.own (m.ch.map eL) tg mo z (y:Int) rec_ k (i:Int) (l.map fun(b:Nat)=>(b:Int))=some (bs.map fun(b:Nat)=>(b:Int)):=fun bs hb f hf rec_ hrec k hk=>by
     obtain⟨k,rfl⟩:∃j,k=j+1:=⟨k-1,by omega⟩
     rw[head];refine(h3 f hf rec_ k).trans ?_;rw[show(part m y i==y)=false from beq_false_of_ne he];exact hb f hf rec_ hrec k (by omega)
    by_cases c1:∃b∈l,b.testBit i=true
    ·obtain⟨b,hb,hbi⟩:=c1;obtain⟨_,s,hs,hys,_,hsb⟩:=hI.cs b hb;obtain⟨bs,e1,e2⟩:=Dp3 h hx hS hy (tg:=tg) (mo:=mo) (z:=z) hg r (i+1) l (by omega) (keepI ⟨s,hs,by rw[Bt2 hy (hsb i hbi)];exact Cd3 hy hys⟩) hne';refine⟨bs,e1,fin bs fun f hf rec_ hrec k hk=> ?_⟩;exact Ei3 hy h12 (show i<12 by omega) hp4 (by omega) hlb (fun _=>e2 f hf rec_ hrec k hk) (fun hn=>absurd hbi (by rw[hn b hb];decide)) (fun hn=>absurd hbi (by rw[hn b hb];decide)) l.length 0 f (by omega) (by omega) (by simp)
    ·by_cases c2:∀j,j<i->(part m y i).testBit j=false
     ·have hI2:Inv m y (i+1) (l++g (part m y i)):=by
       refine⟨fun b hb=> ?_,?_,fun s hs hys c hc hcs=> ?_⟩
       ·rcases List.mem_append.1 hb with hb|hb
        ·obtain⟨a,s,b1,b2⟩:=hI.cs b hb;exact⟨a,s,by omega,b2⟩
        ·exact⟨hps2.cs b hb,i,by omega,hbit,c2,hps2.sb b hb⟩
       ·refine List.pairwise_append.2 ⟨hI.dj,hps2.dj,fun a ha b hb j hja hjb=> ?_⟩;obtain⟨_,s,hs,hys,_,hsb⟩:=hI.cs a ha;have hns:(part m y i).testBit s=false:=c2 s hs;exact En0 hy hns hys j (hps2.sb b hb j hjb) (hsb j hja)
       ·rcases Nat.lt_or_ge s i with h'|h'
        ·obtain⟨b,hb,h5⟩:=hI.top s h' hys c hc hcs;exact⟨b,List.mem_append_left _ hb,h5⟩
        ·obtain rfl:s=i:=by omega
         obtain⟨b,hb,h5⟩:=hps2.top c hc hcs;exact⟨b,List.mem_append_right _ hb,h5⟩
      obtain⟨bs,e1,e2⟩:=Dp3 h hx hS hy (tg:=tg) (mo:=mo) (z:=z) hg r (i+1) _ (by omega) hI2 hne';refine⟨bs,e1,fin bs fun f hf rec_ hrec k hk=> ?_⟩;exact Ei3 hy h12 (show i<12 by omega) hp4 (by omega) hlb (fun hn=>absurd hn c1) (fun _ _=>by
       rw[hrec _ (Ab2 hy) he,sb,Er9 (by simp;omega),sb,<-List.map_append];exact e2 f hf rec_ hrec k hk) (fun _ ⟨j,hj,hj2⟩=>absurd hj2 (by rw[c2 j hj];decide)) l.length 0 f (by omega) (by omega) (by simp)
     ·have c2':∃j,j<i/\(part m y i).testBit j=true:=by
       simp only[Classical.not_forall]at c2;obtain⟨j,g1,g2⟩:=c2;exact⟨j,g1,by simpa using g2⟩
      obtain⟨bs,e1,e2⟩:=Dp3 h hx hS hy (tg:=tg) (mo:=mo) (z:=z) hg r (i+1) l (by omega) (keepI c2') hne';refine⟨bs,e1,fin bs fun f hf rec_ hrec k hk=> ?_⟩;exact Ei3 hy h12 (show i<12 by omega) hp4 (by omega) hlb (fun hn=>absurd hn c1) (fun _ hn=>absurd hn c2) (fun _ _=>e2 f hf rec_ hrec k hk) l.length 0 f (by omega) (by omega) (by simp)
theorem Ei5(h:okM m){tg:Int}{mo:Bool}{z:Int}:∀x,x<2^m.own.length->∃bs,Fu1 m x bs/\∀f,5001+x<=f->F76 f (x:Int) m.own (m.ch.map eL) tg mo z=some (bs.map fun(b:Nat)=>(b:Int)):=by
 intro x;have h12':=p12 h.n12
 induction x using Nat.strongRecOn with
 |_ x ih=>
  intro hx;obtain⟨y,_,hy2⟩:=Hg9 h (Nat.le_refl 5000) (tg:=tg) (mo:=mo) (z:=z) (show x<4096 by omega);have hyx:=Ai9 hy2.sb;have hex:∀p,∃bs,sub p y->p≠y->Fu1 m p bs/\∀f,5001+p<=f->F76 f (p:Int) m.own (m.ch.map eL) tg mo z=some (bs.map fun(b:Nat)=>(b:Int)):=fun p=>by
   by_cases hp:sub p y/\p≠y
   ·have:=Cf2 hp.1 hp.2;obtain⟨bs,k⟩:=ih p (by omega) (by omega);exact⟨bs,fun _ _=>k⟩
   ·exact⟨[],fun a b=>absurd ⟨a,b⟩ hp⟩
  obtain⟨g,hg⟩:=Classical.axiomOfChoice hex;obtain⟨bs,e1,e2⟩:=Dp3 (tg:=tg) (mo:=mo) (z:=z) (g:=g) h (by omega) hy2 (by omega) (fun p a b=>(hg p a b).1) m.own.length 0 [] (by omega) ⟨fun b hb=>(by cases hb),.nil,fun s hs=>absurd hs (by omega)⟩ (fun s hs=>absurd hs (by omega));refine⟨bs,e1,fun f hf=> ?_⟩;obtain⟨f,rfl⟩:∃j,f=j+1:=⟨f-1,by omega⟩
  obtain⟨y',hy1',hy2'⟩:=Hg9 h (show 5000<=f by omega) (tg:=tg) (mo:=mo) (z:=z) (show x<4096 by omega);obtain rfl:=hy2'.uniq hy2;rw[F76];exact sbe hy1' (e2 f (by omega) _ (fun p a b=>(hg p a b).2 f (by have:=Cf2 a b;omega)) f (by have:=h.n12;omega))
end
end
section
theorem Db1:∀k,F11 (k+206)=some true:=by intro k;kernel_rfl
def rnd(m:Mdl)(tg:Nat)(mo:Bool)(z:Nat)(bs:List Nat)(up:Bool):Nat->List Rat
 |0=>bif up then(List.range m.own.length).map fun s=>if z.testBit s then 0 else 1 else bgn m tg
 |k+1=>nx m tg mo z bs up (rnd m tg mo z bs up k)
section
variable {m:Mdl} {tg z:Nat} {mo:Bool} {bs:List Nat}
theorem G4{up:Bool}:∀k,(rnd m tg mo z bs up k).length=m.own.length
 |0=>by unfold rnd;cases up<;>simp[bgn]
 |k+1=>by rw[rnd,Gg4]
theorem Dt3(h:okM m){k:Nat}(hk:k<=61):szs (gP m) (gP m^k) (12^k):=Gz8 (Ap6 h).1 (Ap6 h).2.1 hk
theorem Bg5(h:okM m)(hbs:∀b∈bs,b<18446744073709551616){up:Bool}:∀k,k<=61->∀x∈rnd m tg mo z bs up k,fr (gP m^k) (12^k) x
 |0,_,x,hx=>by
  unfold rnd at hx;cases up with
  |true=>
   simp only[cond_true]at hx;obtain⟨s,_,rfl⟩:=List.mem_map.1 hx;split
   ·exact Al5 (Al6 (by simp)) (by decide)
   ·exact Ds9 (by simp)
  |false=>
   simp only[cond_false]at hx;obtain⟨s,_,rfl⟩:=List.mem_map.1 hx;split
   ·exact Ds9 (by simp)
   ·exact Al5 (Al6 (by simp)) (by decide)
 |k+1,hk,x,hx=>by
  rw[rnd]at hx;have:=Gy4 (tg:=tg) (mo:=mo) (z:=z) h (G4 k) (Bg5 h hbs k (by omega)) (Dt3 h (show k<=61 by omega)) (Nat.pow_pos (by decide)) hbs x hx
  rwa [<-Nat.pow_succ,<-Nat.pow_succ']at this
theorem Aw9(h:okM m)(hbs:∀b∈bs,b<18446744073709551616){up:Bool}{k:Nat}(hk:k<=61):∀x∈rnd m tg mo z bs up k,rs x:=fun x hx=>(Ax1 (Dt3 h hk)).1 (Bg5 h hbs k hk x hx)
theorem Ds7{D B p q L:Nat}{r:Rat}(h:fr D B r)(hD:D<=10^p)(hB:B<=10^q)(hpq:p+q<L):Bv8 (L:Int) r=true:=by
 obtain⟨h1,h2⟩:=Dt1 h hD hB hpq;have e:((10^L:Nat):Int)=(10:Int)^L:=by push_cast;rfl
 refine(Ao8 (k:=L) (by omega)).2 ⟨?_,?_⟩
 ·have:=Ad7 h10 (n:=(r.num.natAbs:Int)) (by omega);have h3:=F0 h10 h1;unfold lt at h3;have:(r.num.natAbs:Int)<10^L:=Int.lt_of_lt_of_le this h3;omega
 ·have:=Ad7 h10 (n:=(r.den:Int)) (by omega);have h3:=F0 h10 h2;unfold lt at h3;rw[Int.natAbs_natCast]at h3;have:(r.den:Int)<10^L:=Int.lt_of_lt_of_le this h3;omega
theorem Dz2(h:okM m)(hbs:∀b∈bs,b<18446744073709551616){up:Bool}{k:Nat}(hk:k<=61):∀x∈rnd m tg mo z bs up k,Bv8 2000 x=true:=fun x hx=>by
 have h1:=Bg5 h hbs k hk x hx;obtain⟨a,b,_⟩:=Ap6 h;refine Ds7 (L:=2000) (p:=4*k) (q:=2*k) h1 ?_ ?_ (by omega)
 ·rw[Nat.pow_mul];exact Nat.pow_le_pow_left (by omega) _
 ·rw[Nat.pow_mul];exact Nat.pow_le_pow_left (by decide) _
theorem Cu6{l:List Rat}(hl:l.length<=1000000)(hr:∀x∈l,rs x)(hf:∀x∈l,Bv8 2000 x=true):
 ∀(r i:Nat),i+r=l.length->Ev fun f=>∀k,r<k->Ba6 f (l.map R) k (i:Int) ((l.take i).map T)=some (l.map T,true)
 |0,i,hi=>Ev.of fun f k hk=>by
  obtain⟨k,rfl⟩:∃j,k=j+1:=⟨k-1,by omega⟩
  unfold Ba6;rw[dF_ (by simp;omega),List.take_of_length_le (by omega)];rfl
 |r+1,i,hi=>by
  have hil:i<l.length:=by omega
  refine((Gt1 (hr l[i] (List.getElem_mem hil))).and (Cu6 hl hr hf r (i+1) (by omega))).mono fun f h k hk=> ?_
  obtain⟨h1,h3⟩:=h;obtain⟨k,rfl⟩:∃j,k=j+1:=⟨k-1,by omega⟩
  have hrs:=hr l[i] (List.getElem_mem hil);unfold Ba6;rw[dT_ (by simp;omega)];simp only[cond_true];refine sbe (D4 hil) (sbe (Br3 ⟨Nat.le_trans hrs.1 (by decide),Nat.le_trans hrs.2 (by decide)⟩) ?_);rw[hf _ (List.getElem_mem hil)];simp only[Bool.not_true,cond_false];refine sbe h1 (sbe (Er9 (by simp;omega)) ?_);rw[wi i (by omega)];have:=h3 k (by omega)
  rwa [List.take_add_one,List.getElem?_eq_getElem hil,Option.toList_some,List.map_append]at this
theorem Bz9{l:List Rat}(hl:l.length<=1000000)(hr:∀x∈l,rs x)(hf:∀x∈l,Bv8 2000 x=true):Ev fun f=>F41 f (l.map R)=some (l.map T,true):=by
 refine((Cu6 hl hr hf l.length 0 (by omega)).and (Ev.ge 1000001)).mono fun f h=> ?_
 obtain⟨h1,h2⟩:=h;unfold F41;refine sbe (x:=[]) ?_ (h1 f (by omega));simp only[List.length_map];unfold mkL;rw[show(decide ((0:Int)<=0)&&decide ((0:Int)<=((l.length:Nat):Int))&&decide (((l.length:Nat):Int)<=2147483648))=true by simp;omega];rfl
theorem Gr2{f:Nat}(h:10<=f):cap 10 f=10:=by
 obtain⟨k,rfl⟩:∃k,f=k+10:=⟨f-10,by omega⟩
 rfl
theorem Ho9{z i:Nat}(hz:z<18446744073709551616)(hi:i<64):i64.wrap (u64.wrap (BitVec.ofInt u64.bits 1&&& ~~~BitVec.ofInt u64.bits (Int.fdiv (z:Int) (2^(min (Int.toNat (i:Int)) u64.bits)))).toNat)=if z.testBit i then 0 else 1:=by
 have h1:Int.fdiv (z:Int) (2^(min (Int.toNat (i:Int)) u64.bits))=((z/2^i:Nat):Int):=by
  have:min (Int.toNat (i:Int)) u64.bits=i:=by simp[IntKind.bits];omega
  rw[this,Int.fdiv_eq_ediv_of_nonneg _ (by exact_mod_cast Nat.zero_le _)];norm_cast
 have hd:z/2^i<18446744073709551616:=Nat.lt_of_le_of_lt (Nat.div_le_self _ _) hz;have h2:sd 1 (z/2^i)=if z.testBit i then 0 else 1:=by
  refine Ag2 fun j=> ?_
  rw[Bg8 (by decide) hd,Nat.testBit_div_two_pow];by_cases hj:j=0
  ·subst hj;rw[Nat.zero_add];cases z.testBit i<;>rfl
  ·have:(1:Nat).testBit j=false:=by
    rw[show(1:Nat)=2^0 from rfl,Nat.testBit_two_pow];exact dF_ (by omega)
   rw[this,Bool.false_and];split
   ·rw[Nat.zero_testBit]
   ·exact this.symm
 have h3:=Ea4 1 (z/2^i);rw[h1];rw[show((1:Nat):Int)=1 from rfl]at h3;rw[h3,h2];split<;>rfl
def prs(m:Mdl)(tg:Nat)(mo:Bool)(z:Nat)(bs:List Nat):Nat->Nat->List (List A1×List A1)
 |0,_=>[]
 |n+1,i=>((rnd m tg mo z bs false i).map R,(rnd m tg mo z bs true i).map R)::prs m tg mo z bs n (i+1)
theorem Ce1(h:okM m)(hbs:∀b∈bs,b<18446744073709551616)(hbl:bs.length<=1000000)(ht:tg<18446744073709551616)(hz2:z<18446744073709551616):
 ∀(n i:Nat),i+n<=61->Ev fun f=>Bk0 f (sV m tg mo z bs) n ((rnd m tg mo z bs false i).map R) ((rnd m tg mo z bs true i).map R)=some (prs m tg mo z bs n i)
 |0,i,_=>Ev.of fun f=>rfl
 |n+1,i,hi=>by
  have hn:∀up,Ev fun f=>F79 f (sV m tg mo z bs) ((rnd m tg mo z bs up i).map R) up=some ((rnd m tg mo z bs up (i+1)).map R):=fun up=>Fm9 h (G4 i) (Bg5 h hbs i (by omega)) (Dt3 h (by omega)) hbs hbl ht hz2
  refine(((hn false).and (hn true)).and (Ce1 h hbs hbl ht hz2 n (i+1) (by omega))).mono fun f hh=> ?_
  obtain⟨⟨h1,h2⟩,h3⟩:=hh;unfold Bk0;exact sbe (sbe h1 (sbe h2 h3)) rfl
theorem Ce0(h:okM m)(hbs:∀b∈bs,b<18446744073709551616)(hbl:bs.length<=1000000)(ht:tg<18446744073709551616)(hz2:z<18446744073709551616){z0:A1}{l1:List A1}(h1:l1.length=m.own.length):
 ∀(r i:Nat),i+r=m.own.length->Ev fun f=>∀k,r<k->Ba4 f (sV m tg mo z bs) l1 k (i:Int) (fil (fun s=>R (if z.testBit s then 0 else 1)) z0 m.own.length i) (fil (fun s=>R (if tg.testBit s then 1 else 0)) z0 m.own.length i)=some (prs m tg mo z bs 10 0)
 |0,i,hi=>by
  refine((Ce1 (mo:=mo) h hbs hbl ht hz2 10 0 (by omega)).and (Ev.ge 10)).mono fun f hh k hk=> ?_
  obtain⟨k,rfl⟩:∃j,k=j+1:=⟨k-1,by omega⟩
  obtain rfl:i=m.own.length:=by omega
  unfold Ba4;rw[dF_ (by simp[h1]),El0,El0,Gr2 hh.2];simp only[cond_false];have:=hh.1;simp only[rnd,bgn,cond_true,cond_false,List.map_map]at this;exact this
 |r+1,i,hi=>by
  have hil:i<m.own.length:=by omega
  have h12:=h.n12;refine((Gm2.and He4).and (Ce0 h hbs hbl ht hz2 (z0:=z0) h1 r (i+1) (by omega))).mono fun f hh k hk=> ?_
  obtain⟨⟨e0,e1⟩,h3⟩:=hh;obtain⟨k,rfl⟩:∃j,k=j+1:=⟨k-1,by omega⟩
  have g1:(fil (fun s=>R (if tg.testBit s then 1 else 0)) z0 m.own.length i).set (0+Int.toNat (i:Int)) (R (if tg.testBit i then 1 else 0))=fil (fun s=>R (if tg.testBit s then 1 else 0)) z0 m.own.length (i+1):=by rw[tn];exact Bd6 hil
  have g2:(fil (fun s=>R (if z.testBit s then 0 else 1)) z0 m.own.length i).set (0+Int.toNat (i:Int)) (R (if z.testBit i then 0 else 1))=fil (fun s=>R (if z.testBit s then 0 else 1)) z0 m.own.length (i+1):=by rw[tn];exact Bd6 hil
  unfold Ba4;rw[dT_ (by simp[h1];omega)];simp only[cond_true];rw[show(sV m tg mo z bs).target=(tg:Int) from rfl,show(sV m tg mo z bs).zero=(z:Int) from rfl,E1 (dT_ (by omega)),T2 ht (by omega)];refine sbe (x:=R (if tg.testBit i then 1 else 0)) ?_ ?_
  ·cases hbit:tg.testBit i with
   |true=>exact e1
   |false=>exact e0
  rw[E1 (dT_ (by omega)),Ho9 hz2 (by omega)];refine sbe (x:=R (if z.testBit i then 0 else 1)) ?_ (sbe (Az0 hil) (sbe rfl (sbe (Az0 hil) (sbe rfl ?_))))
  ·cases hbit:z.testBit i with
   |true=>exact e0
   |false=>exact e1
  ·rw[g1,g2,wi i (by omega)];exact h3 k (by omega)
theorem Dz4(h:okM m)(hbs:∀b∈bs,b<18446744073709551616)(hbl:bs.length<=1000000)(ht:tg<18446744073709551616)(hz2:z<18446744073709551616):Ev fun f=>F39 f (sV m tg mo z bs)=some (prs m tg mo z bs 10 0):=by
 have h12:=h.n12;refine((Ce0 (mo:=mo) h hbs hbl ht hz2 (z0:=(⟨(⟨false,[]⟩:A3),(⟨false,[]⟩:A3)⟩:A1)) (l1:=List.replicate m.own.length (⟨(⟨false,[]⟩:A3),(⟨false,[]⟩:A3)⟩:A1)) (by simp) m.own.length 0 (by omega)).and (Ev.ge 13)).mono fun f hh=> ?_
 obtain⟨h1,h2⟩:=hh;unfold F39;simp only[List.length_map,show(sV m tg mo z bs).Model.Owner=m.own from rfl];refine sbe (Bf2 (by omega) _) (sbe (Bf2 (by omega) _) ?_);have:=h1 f (by omega)
 rwa [Ek9,Ek9]at this
theorem Cw4{l:List Int}(hl:l.length<=1000000)(h0:∀x∈l,x=0):∀(r i k:Nat),i+r=l.length->r<k->Ak1 l 1 k (i:Int)=some (-1)
 |0,i,k,hi,hk=>by
  obtain⟨k,rfl⟩:∃j,k=j+1:=⟨k-1,by omega⟩
  unfold Ak1;rw[dF_ (by simp;omega)];rfl
 |r+1,i,k,hi,hk=>by
  obtain⟨k,rfl⟩:∃j,k=j+1:=⟨k-1,by omega⟩
  have hil:i<l.length:=by omega
  unfold Ak1;rw[dT_ (by simp;omega)];simp only[cond_true];refine sbe (C7 hil) ?_;rw[h0 _ (List.getElem_mem hil),wi i (by omega)];exact Cw4 hl h0 r (i+1) k (by omega) (by omega)
theorem Du6(h:okM m)(h0:∀x∈m.own,x=0):Ev fun f=>F62 f (eM m)=some true:=by
 have h12:=h.n12;refine((Cc0 h).and (Ev.ge 13)).mono fun f hh=> ?_
 unfold F62 Gj7 Gk0;refine sbe (sbe hh.1 ?_) rfl;rw[show(eM m).Owner=m.own from rfl];simp only[show((0:Int)==0)=true from rfl,cond_true];have:=Cw4 (by omega) h0 m.own.length 0 f (by omega) (by omega);rw[show((0:Nat):Int)=0 from rfl]at this;rw[this];rfl
theorem Cz6(h:okM m)(h0:∀x∈m.own,x=0)(ht:tg<2^m.own.length):Ev fun f=>F34 f (eM m) (tg:Int)=some 0:=by
 have h12:=h.n12;refine((Cc0 h).and (Du6 h h0)).mono fun f hh=> ?_
 unfold F34;refine sbe hh.1 ?_;simp only[show((0:Int) !=0)=false from rfl,cond_false];refine sbe hh.2 ?_;simp only[Bool.not_true,cond_false];rw[List.length_map,show(eM m).Owner=m.own from rfl,E1 (dT_ (by omega))];have h1:Int.fdiv (tg:Int) (2^(min (Int.toNat (m.own.length:Int)) u64.bits))=0:=by
  have:min (Int.toNat (m.own.length:Int)) u64.bits=m.own.length:=by simp[IntKind.bits];omega
  rw[this,Int.fdiv_eq_ediv_of_nonneg _ (by exact_mod_cast Nat.zero_le _)];have:((tg:Int)/2^m.own.length)=((tg/2^m.own.length:Nat):Int):=by norm_cast
  rw[this,Nat.div_eq_of_lt ht];rfl
 rw[h1];rfl
structure okV(m:Mdl)(tg:Nat)(mo:Bool)(z:Nat)(bs:List Nat):Prop where
 zr:Shr m.own.length (kpZ m mo) (sd (2^m.own.length-1) tg) z
 cm:mo=true->Fu1 m (sd (2^m.own.length-1) (tg|||z)) bs
 nb:mo=false->bs=[]
theorem Au6(h:okM m){x:Nat}(hx:x<18446744073709551616):sd (2^m.own.length-1) x<2^m.own.length:=by
 have hp:=p12 h.n12;have h0:0<2^m.own.length:=Nat.pow_pos (by decide);refine Bm8 fun i hi=> ?_
 rw[Bg8 (by omega) hx,Br4]at hi;simp at hi;exact hi.1
theorem Cy1(h:okM m)(hv:okV m tg mo z bs)(ht:tg<2^m.own.length):z<2^m.own.length/\∀b∈bs,b<2^m.own.length:=by
 have hp:=p12 h.n12;have hz:z<2^m.own.length:=Nat.lt_of_le_of_lt (Ai9 hv.zr.sb) (Au6 h (by omega));refine⟨hz,fun b hb=> ?_⟩;cases hmo:mo with
 |true=>
  have:=(hv.cm hmo).sb b hb;refine Nat.lt_of_le_of_lt (Ai9 this) (Au6 h ?_);have:=Nat.or_lt_two_pow ht hz;omega
 |false=>rw[hv.nb hmo]at hb;cases hb
theorem Fn3(h:okM m)(hv:okV m tg mo z bs)(ht:tg<2^m.own.length):bs.length<=1000000:=by
 have hp:=p12 h.n12;have hz:=(Cy1 h hv ht).1;cases hmo:mo with
 |true=>
  have hr:=Au6 h (x:=tg|||z) (by have:=Nat.or_lt_two_pow ht hz;omega);have hc:=hv.cm hmo;have:=Bq2 bs _ (Nat.lt_of_lt_of_le hr (by omega)) (fun b hb=>⟨hc.sb b hb,(hc.cs b hb).ne⟩) hc.dj;omega
 |false=>rw[hv.nb hmo];decide
theorem Ea2(h:okM m)(mo:Bool)(ht:tg<2^m.own.length):∃z bs,okV m tg mo z bs/\Ev fun f=>F38 f (eM m) (tg:Int) mo=some (sV m tg mo z bs):=by
 have hp:=p12 h.n12;obtain⟨z,hz1,hz2⟩:=Db8 h (f:=5000) (Nat.le_refl _) (mo:=mo) (z:=0) (show tg<4096 by omega);have hz:∀f,5000<=f->Fs0 f m.own (m.ch.map eL) (tg:Int) mo 0=some (z:Int):=fun f hf=>by
  obtain⟨y,h1,h2⟩:=Db8 h hf (mo:=mo) (z:=0) (show tg<4096 by omega);rw[h1,h2.uniq hz2]
 have hzl:z<2^m.own.length:=Nat.lt_of_le_of_lt (Ai9 hz2.sb) (Au6 h (by omega));cases hmo:mo with
 |false=>
  subst hmo;refine⟨z,[],⟨hz2,fun e=>(by cases e),fun _=>rfl⟩,Ev.from_ 5000 fun f hf=> ?_⟩;unfold F38;refine sbe (hz f hf) rfl
 |true=>
  subst hmo;have hol:=Nat.or_lt_two_pow ht hzl;obtain⟨bs,hb1,hb2⟩:=Ei5 h (tg:=(tg:Int)) (mo:=true) (z:=(z:Int)) (sd (2^m.own.length-1) (tg|||z)) (Au6 h (by omega));refine⟨z,bs,⟨hz2,fun _=>hb1,fun e=>(by cases e)⟩,Ev.from_ 20000 fun f hf=> ?_⟩;unfold F38;refine sbe (hz f (by omega)) ?_;simp only[cond_true];refine sbe (Cv1 h) ?_;rw[Fn4 (by omega) (by omega),Ea4];have hr:=Au6 h (x:=tg|||z) (by omega);exact sbe (hb2 f (by omega)) rfl
theorem Cs8(h:okM m)(hbs:∀b∈bs,b<18446744073709551616):∀(n i k:Nat),i+n<=61->k<n->Ev fun f=>Am8 f (prs m tg mo z bs n i) (k:Int)=some ((rnd m tg mo z bs false (i+k)).map T,(rnd m tg mo z bs true (i+k)).map T,0)
 |0,_,_,_,hk=>absurd hk (by omega)
 |n+1,i,0,hi,_=>by
  have h12:=h.n12;have ht:∀up,Ev fun f=>F41 f ((rnd m tg mo z bs up i).map R)=some ((rnd m tg mo z bs up i).map T,true):=fun up=>Bz9 (by rw[G4];omega) (Aw9 h hbs (by omega)) (Dz2 h hbs (by omega))
  refine((ht false).and (ht true)).mono fun f hh=> ?_
  unfold Am8 prs;exact sbe hh.1 (sbe hh.2 rfl)
 |n+1,i,k+1,hi,hk=>by
  refine(Cs8 h hbs n (i+1) k (by omega) (by omega)).mono fun f hh=> ?_
  unfold Am8 prs;show(bif ((k+1:Nat):Int)==0 then _ else Am8 f (prs m tg mo z bs n (i+1)) (i64.wrap (((k+1:Nat):Int)-1)))=_;rw[beq_false_of_ne (show((k+1:Nat):Int)≠0 by omega)];simp only[cond_false];rw[E7 (i:=((k+1:Nat):Int)-1) (by omega) (by omega),show((k+1:Nat):Int)-1=(k:Int) by omega,hh,show i+1+k=i+(k+1) by omega]
end
end
section
theorem Fp2{n:Nat}{b:Int}(hn:n<62)(h0:0<=b)(h1:b<18446744073709551616):∃tg:Nat,tg<2^n/\F20 (n:Int) b=some (tg:Int):=by
 have h2:0<2^n:=Nat.pow_pos (by decide);have h3:2^n<=2^62:=Nat.pow_le_pow_right (by decide) (by omega);obtain⟨c,rfl⟩:∃c:Nat,b=(c:Int):=⟨b.toNat,by omega⟩
 refine⟨c&&&(2^n-1),Nat.lt_of_le_of_lt Nat.and_le_right (by omega),?_⟩;unfold F20;rw[E1 (dT_ (by omega)),Cm6 hn,O1 (i:=(c:Int)) (by omega) h1,Er8 (by omega) (by omega)]
theorem Ex5{l:List (List UInt8)}(hl:l.length<=1000):∀(r i k:Nat),i+r=l.length->r<k->Ba3 l l k (i:Int)=some true
 |_,_,0,_,h=>absurd h (by omega)
 |0,i,k+1,hi,_=>by
  unfold Ba3;rw[dF_ (by simp;omega)];rfl
 |r+1,i,k+1,hi,hk=>by
  have hil:i<l.length:=by omega
  unfold Ba3;rw[dT_ (by simp;omega)];simp only[cond_true];refine sbe (C7 hil) (sbe (C7 hil) ?_);simp only[beq_self_eq_true,Bool.not_true,cond_false];rw[wi i (by omega)];exact Ex5 hl r (i+1) k (by omega) (by omega)
theorem Ea1{l:List (List UInt8)}{f:Nat}(hl:l.length<=1000)(hf:1000<f):F30 f l l=some true:=by
 unfold F30;simp only[bne_self_eq_false,cond_false];exact Ex5 hl l.length 0 f (by omega) (by omega)
theorem Dg5{d:B1}(hd:Ae7 d):∃m,okM m/\m.own.length<=5/\(∀x∈m.own,x=0)/\Ev fun f=>F17 f d=some (eM m):=by
 obtain⟨h1,h2,h3,h4,h5⟩:=hd;obtain⟨m,hm,hE⟩:=Ej0 (d:=⟨d.States,0,d.Grain,d.Cents,d.Picks⟩) ⟨h1,(⟨by decide,by decide⟩:(0:Int)<=0/\(0:Int)<256),h3,h4,h5⟩;refine⟨m,hm.ok,?_,fun x hx=> ?_,hE.mono fun f h=> ?_⟩
 ·rw[hm.own];simp only[Bv9,List.length_map,List.length_range];exact(Aw2 _).2
 ·rw[hm.own]at hx;obtain⟨s,_,rfl⟩:=List.mem_map.1 hx;rw[if_neg];show¬(Int.toNat 0).testBit s=true;rw[show Int.toNat 0=0 from rfl,Nat.zero_testBit];decide
 ·unfold F17;exact sbe h rfl
end
section
abbrev at0(v:List Rat)(s:Nat):Rat:=v.getD s 0
section
variable {m:Mdl} {tg z s:Nat} {mo:Bool} {bs:List Nat} {v w:List Rat} {c:Cho}
theorem lo0(hs:s<m.own.length):at0 (rnd m tg mo z bs false 0) s=if tg.testBit s then 1 else 0:=by
 unfold rnd at0 bgn;simp only[cond_false];rw[List.getD_eq_getElem?_getD,List.getElem?_map,List.getElem?_range hs];rfl
theorem hi0(hs:s<m.own.length):at0 (rnd m tg mo z bs true 0) s=if z.testBit s then 0 else 1:=by
 unfold rnd at0;simp only[cond_true];rw[List.getD_eq_getElem?_getD,List.getElem?_map,List.getElem?_range hs];rfl
end
end
section
theorem Fp6{d:List UInt8}{c:UInt8}:((c::d).drop (Int.toNat 1)).take (Int.toNat (((c::d).length:Int)-1))=d:=by
 rw[show Int.toNat 1=1 from rfl,List.drop_succ_cons,List.drop_zero,List.take_of_length_le (by rw[List.length_cons];omega)]
theorem Et0{c:UInt8}(h:48<=c.toNat/\c.toNat<=57):decide ((c.toNat:Int)<48)=false/\decide ((c.toNat:Int)>57)=false:=by
 obtain⟨h1,h2⟩:=h;exact⟨dF_ (by omega),dF_ (by omega)⟩
theorem Gi2{c:UInt8}{d:List UInt8}(hc:∀c∈d,48<=c.toNat/\c.toNat<=57)(hl:d.length<=2000000000):∀(r i k:Nat),i+r=d.length->r<k->Aj8 (c::d) k (i:Int)=some true
 |_,_,0,_,h=>absurd h (by omega)
 |0,i,k+1,hi,_=>by
  unfold Aj8;rw[Fp6,dF_ (by omega)];rfl
 |r+1,i,k+1,hi,hk=>by
  have hil:i<d.length:=by omega
  have hd:=Et0 (hc d[i] (List.getElem_mem hil));unfold Aj8;rw[Fp6,dT_ (by omega),C7 hil];simp only[cond_true,sb,hd.1,hd.2,cond_false];rw[wi i (by omega)];exact Gi2 hc hl r (i+1) k (by omega) (by omega)
theorem Gi3{d:List UInt8}(hc:∀c∈d,48<=c.toNat/\c.toNat<=57)(hl:d.length<=2000000000):∀(r i k:Nat),i+r=d.length->r<k->Aj9 d k (i:Int)=some true
 |_,_,0,_,h=>absurd h (by omega)
 |0,i,k+1,hi,_=>by
  unfold Aj9;rw[dF_ (by omega)];rfl
 |r+1,i,k+1,hi,hk=>by
  have hil:i<d.length:=by omega
  have hd:=Et0 (hc d[i] (List.getElem_mem hil));unfold Aj9;rw[dT_ (by omega),C7 hil];simp only[cond_true,sb,hd.1,hd.2,cond_false];rw[wi i (by omega)];exact Gi3 hc hl r (i+1) k (by omega) (by omega)
theorem Ex2{fuel:Nat}{n:Int}(hl:lt n<=100000000)(hf:2000000010<fuel):Fq8 fuel (tx n)=some true:=by
 have hlen:=K9 n;have hne:∀{c:UInt8} {b:Nat},b<48->48<=c.toNat->((c.toNat:Int)==(b:Int))=false:=fun h1 h2=>beq_false_of_ne (by omega)
 by_cases h0:n=0
 ·subst h0;rfl
 ·unfold Fq8;rw[Hh2,dF_ h0];simp only[cond_false];by_cases h1:n<0
  ·obtain⟨c,s,hcs,hc1,hc2⟩:=Ao2 (show 0< -n by omega);have ht:tx n=45::c::s:=by unfold tx;rw[if_pos h1,hcs]
   rw[ht]at hlen;have hch:=G9 (show 0<=-n by omega);rw[hcs]at hch;simp only[List.length_cons]at hlen;rw[ht,Fp6];rw[dT_ (by simp only[List.length_cons];omega),show C6 (45::c::s) 0=some 45 from rfl];simp only[cond_true,sb];rw[show(((45:UInt8).toNat:Int)==45)=true from rfl];simp only[cond_true];rw[E1 (by simp only[List.length_cons,Bool.and_eq_true,decide_eq_true_eq];omega)];rw[beq_false_of_ne (show((((c::s).length:Nat):Int))≠0 by simp only[List.length_cons];omega),show C6 (c::s) 0=some c from rfl];simp only[cond_false,sb];rw[beq_false_of_ne (show((c.toNat:Nat):Int)≠48 by omega)];simp only[cond_false];exact Gi2 (d:=c::s) hch (by simp only[List.length_cons];omega) (c::s).length 0 fuel (by omega) (by simp only[List.length_cons];omega)
  ·obtain⟨c,s,hcs,hc1,hc2⟩:=Ao2 (show 0<n by omega);have ht:tx n=c::s:=by unfold tx;rw[if_neg h1,hcs]
   rw[ht]at hlen;have hch:=G9 (show 0<=n by omega);rw[hcs]at hch;simp only[List.length_cons]at hlen;rw[ht];rw[dT_ (by simp only[List.length_cons];omega),show C6 (c::s) 0=some c from rfl];simp only[cond_true,sb];rw[beq_false_of_ne (show((c.toNat:Nat):Int)≠45 by omega)];simp only[cond_false];rw[beq_false_of_ne (show((((c::s).length:Nat):Int))≠0 by simp only[List.length_cons];omega)];simp only[cond_false];rw[beq_false_of_ne (show((c.toNat:Nat):Int)≠48 by omega),sb];simp only[cond_false];exact Gi3 (d:=c::s) hch (by simp only[List.length_cons];omega) (c::s).length 0 fuel (by omega) (by simp only[List.length_cons];omega)
theorem Gi1{fuel:Nat}{r:Rat}(h:rs r)(hf:2000000010+r.den<fuel):F91 fuel (T r)=some true:=by
 have hd:=r.den_pos;unfold F91;rw[He0 h (by decide) (by omega),sb];simp only;rw[Ex2 (Nat.le_trans h.1 (by decide)) (by omega),Ex2 (Nat.le_trans h.2 (by decide)) (by omega)];simp only[sb,Bool.not_true,cond_false];by_cases h1:r.den=1
 ·rw[dF_ (by omega)];rfl
 ·rw[dT_ h1];simp only[Bool.not_true,cond_false];rw[show([49]:List UInt8)=tx 1 from rfl,Hg7 (Nat.le_trans h.2 (by decide)) (by decide) (by omega),sb,show R5 (r.den:Int) 1=1 by unfold R5;rw[if_neg (by omega),if_pos (by omega)]];simp only[show decide ((1:Int)>0)=true from rfl,cond_true];rw[Hg2 (Nat.le_trans h.1 (by decide)) (Nat.le_trans h.2 (by decide)) (by omega),sb,show((Int.gcd r.num (r.den:Int):Nat):Int)=1 by
   rw[show Int.gcd r.num (r.den:Int)=1 from r.reduced];rfl]
  rfl
theorem Fi4{x:Rat}(hx:rs x):Ev fun f=>F91 f (T x)=some true:=Ev.from_ (2000000010+x.den+1) fun n h=>Gi1 hx (by omega)
theorem Dq3{n:Int}(hn:lt n<=1999):∃k:Nat,k<=2000/\Fq9 (tx n)=some (k:Int):=by
 unfold Fq9 tx;have hl:∀{x:Int},0<=x->lt x=lt n->(dtx x).length<=2000:=fun{x} h0 h1=>by
  rcases Int.lt_or_eq_of_le h0 with h|h
  ·rw[Al3 h];unfold lt at h1 hn;rw[show((x.natAbs:Nat):Int)=x by omega]at h1;omega
  ·subst h;decide
 by_cases h:n<0
 ·have:=hl (show 0<=-n by omega) (Cx2 n);rw[if_pos h];refine⟨(dtx (-n)).length,this,?_⟩;show Option.bind (some (45:UInt8)) _=_;rw[sb,show(((45:UInt8).toNat:Int)==45)=true from rfl];simp only[cond_true,List.length_cons];rw[E7 (by omega) (by omega)];congr 1;omega
 ·have:=hl (show 0<=n by omega) rfl;rw[if_neg h];refine⟨(dtx n).length,this,?_⟩;have hc:=G9 (show 0<=n by omega);cases hd:dtx n with
  |nil=>
   rcases Int.lt_or_eq_of_le (show 0<=n by omega) with h'|h'
   ·obtain⟨c,t,e,_⟩:=Ao2 h';rw[hd]at e;cases e
   ·subst h';cases hd
  |cons c t=>
   rw[hd]at hc;have h48:=(hc c List.mem_cons_self).1;show Option.bind (some c) _=_;rw[sb,beq_false_of_ne (show((c.toNat:Nat):Int)≠45 by omega)];rfl
theorem Gb2{r:Rat}(h:rsz 1999 r):Ev fun f=>F48 f (T r)=some 0:=by
 have hr:rs r:=⟨Nat.le_trans h.1 (by decide),Nat.le_trans h.2 (by decide)⟩
 refine((Fi4 hr).and (Ev.ge 2000000011)).mono fun f hh=> ?_
 obtain⟨k,hk,ek⟩:=Dq3 h.1;obtain⟨j,hj,ej⟩:=Dq3 h.2;unfold F48 F92;refine sbe hh.1 ?_;simp only[Bool.not_true,cond_false];refine sbe (x:=true) (sbe (Bm9 hr (by decide) (by omega)) (sbe (x:=true) (sbe ek ?_) rfl)) rfl;rw[dT_ (by omega)];simp only[cond_true];refine sbe ej ?_;rw[dT_ (by omega)]
section
variable {l w:List Rat}
theorem Ev3(hl:l.length<=1000)(hr:∀x∈l,rsz 1999 x):∀(r i:Nat),i+r=l.length->Ev fun f=>∀k,r<k->Bb0 f (l.map T) k (i:Int)=some (-1)
 |0,i,hi=>Ev.of fun f k hk=>by
  obtain⟨k,rfl⟩:∃j,k=j+1:=⟨k-1,by omega⟩
  unfold Bb0;rw[dF_ (by simp;omega)];rfl
 |r+1,i,hi=>by
  have hil:i<l.length:=by omega
  refine((Gb2 (hr l[i] (List.getElem_mem hil))).and (Ev3 hl hr r (i+1) (by omega))).mono fun f h k hk=> ?_
  obtain⟨h1,h2⟩:=h;obtain⟨k,rfl⟩:∃j,k=j+1:=⟨k-1,by omega⟩
  unfold Bb0;rw[dT_ (by simp;omega)];simp only[cond_true];refine sbe (D4 hil) (sbe (x:=false) (by unfold F47;exact sbe h1 rfl) ?_);simp only[cond_false];rw[wi i (by omega)];exact h2 k (by omega)
theorem Cc6(hl:l.length<=1000)(hr:∀x∈l,rsz 1999 x):Ev fun f=>F22 f (l.map T)=some true:=by
 refine((Ev3 hl hr l.length 0 (by omega)).and (Ev.ge 2000)).mono fun f h=> ?_
 unfold F22 F46 F90;have:=h.1 f (by have:=h.2;omega);rw[show((0:Nat):Int)=0 from rfl]at this;exact sbe (sbe this rfl) rfl
end
section
variable {m:Mdl} {tg z:Nat} {mo:Bool} {bs:List Nat}
theorem Ex3(h:okM m)(hbs:∀b∈bs,b<18446744073709551616){up:Bool}{k:Nat}(hk:k<=61):∀x∈rnd m tg mo z bs up k,rsz 1999 x:=fun x hx=>by
 have h1:=Bg5 h hbs k hk x hx;obtain⟨a,b,_⟩:=Ap6 h;refine Dt1 (p:=4*k) (q:=2*k) h1 ?_ ?_ (by omega)
 ·rw[Nat.pow_mul];exact Nat.pow_le_pow_left (by omega) _
 ·rw[Nat.pow_mul];exact Nat.pow_le_pow_left (by decide) _
end
end
section
theorem Bt0(r:Rat):(-r).num= -r.num/\(-r).den=r.den:=⟨rfl,rfl⟩
theorem Ex4{y:Rat}(h:rs y):rs (-y):=⟨by rw[(Bt0 y).1,Cx2];exact h.1,by rw[(Bt0 y).2];exact h.2⟩
theorem Hl7{x y:Rat}(hx:rs x)(hy:rs y):Ev fun f=>F80 f (R x) (R y)=some (R (x-y)):=by
 refine((He2 hx (Ex4 hy)).and (Ev.ge 2000000)).mono fun f h=> ?_
 have h1:=(X5 hy).1;unfold F80 Gj9;refine sbe (x:=R (-y)) (sbe (x:=W (-y.num)) ?_ rfl) (sbe h.1 ?_)
 ·exact Gg1 (by omega) (by omega)
 ·rw[Rat.sub_eq_add_neg]
theorem Ho5{fuel:Nat}{y:Rat}(hy:rs y)(hf:2000000010+y.den<fuel):F56 fuel (T y)=some (T (-y)):=by
 have hd:=y.den_pos;unfold F56;rw[Bm9 hy (by decide) (by omega),sb,Hg4 (Nat.le_trans hy.1 (by decide)) (by omega),sb,Fm3 (by omega) (by rw[Cx2];exact Nat.le_trans hy.1 (by decide)) (Nat.le_trans hy.2 (by decide)) (by omega),sb];have:Rat.divInt (-y.num) (y.den:Int)= -y:=by
  have h2:=Rat.num_divInt_den (-y);rw[(Bt0 y).1,(Bt0 y).2]at h2;exact h2
 rw[this]
theorem Gs8{y:Rat}(hy:rs y):Ev fun f=>F56 f (T y)=some (T (-y)):=Ev.from_ (2000000010+y.den+1) fun n h=>Ho5 hy (by omega)
theorem Gt0{x y:Rat}(hx:rs x)(hy:rs y):Ev fun f=>F28 f (T x) (T y)=some (T (x-y)):=by
 refine((Gs6 hx (Ex4 hy)).and (Gs8 hy)).mono fun f h=> ?_
 unfold F28;refine sbe h.2 (sbe h.1 ?_);rw[Rat.sub_eq_add_neg]
def Ac2(e:Rat)(l w:List Rat):Nat->Nat->Bool
 |0,_=>true
 |r+1,i=>decide (at0 w i-at0 l i<=e)&&Ac2 e l w r (i+1)
section
variable {l w:List Rat} {e:Rat}
theorem Ev6{x y:Rat}:decide (y<x)= !decide (x<=y):=by
 by_cases h:x<=y
 ·rw[dT_ h,dF_ (Rat.not_lt.2 h)];rfl
 ·rw[dF_ h,dT_ (Rat.not_le.1 h)];rfl
theorem Ew1(hlw:l.length=w.length)(hl:l.length<=1000)(hr:∀x∈l,rs x)(hw:∀x∈w,rs x)(hd:∀x∈l,∀y∈w,rs (y-x))(he:rs e):∀(r i:Nat),i+r=l.length->Ev fun f=>∀k,r<k->Ba5 f (l.map R) (w.map R) (R e) k (i:Int)=some (Ac2 e l w r i)
 |0,i,hi=>Ev.of fun f k hk=>by
  obtain⟨k,rfl⟩:∃j,k=j+1:=⟨k-1,by omega⟩
  unfold Ba5;rw[dF_ (by simp;omega)];rfl
 |r+1,i,hi=>by
  have hil:i<l.length:=by omega
  have hiw:i<w.length:=by omega
  have ml:=List.getElem_mem hil;have mw:=List.getElem_mem hiw;refine(((Hl7 (hw _ mw) (hr _ ml)).and (He3 (hd _ ml _ mw) he)).and (Ew1 hlw hl hr hw hd he r (i+1) (by omega))).mono fun f h k hk=> ?_
  obtain⟨⟨h1,h2⟩,h3⟩:=h;obtain⟨k,rfl⟩:∃j,k=j+1:=⟨k-1,by omega⟩
  have e1:at0 w i=w[i]:=by unfold at0;rw[List.getD_eq_getElem?_getD,List.getElem?_eq_getElem hiw];rfl
  have e2:at0 l i=l[i]:=by unfold at0;rw[List.getD_eq_getElem?_getD,List.getElem?_eq_getElem hil];rfl
  unfold Ba5 Ac2;rw[dT_ (by simp;omega),e1,e2];simp only[cond_true];refine sbe (D4 hil) (sbe (D4 hiw) (sbe h1 (sbe h2 ?_)));rw[Ct4,Ev6];by_cases hx:w[i]-l[i]<=e
  ·rw[dT_ hx];simp only[Bool.not_true,cond_false,Bool.true_and];rw[wi i (by omega)];exact h3 k (by omega)
  ·rw[dF_ hx];rfl
theorem Fm8(hlw:l.length=w.length)(hl:l.length<=1000)(hr:∀x∈l,rs x)(hw:∀x∈w,rs x)(hd:∀x∈l,∀y∈w,rs (y-x))(he:rs e):Ev fun f=>F40 f (l.map R) (w.map R) (R e)=some (Ac2 e l w l.length 0):=by
 refine((Ew1 hlw hl hr hw hd he l.length 0 (by omega)).and (Ev.ge 2000)).mono fun f h=> ?_
 unfold F40;exact h.1 f (by have:=h.2;omega)
theorem Ex8(hlw:l.length=w.length)(hl:l.length<=1000)(hr:∀x∈l,rs x)(hw:∀x∈w,rs x)(hd:∀x∈l,∀y∈w,rs (y-x))(he:rs e){i:Nat}(hil:i<l.length):Ev fun f=>∀(a:Bool) (v:Int),v=(i:Int)->(bif a then(Option.bind (C6 (w.map T) v) fun y135=>Option.bind (C6 (l.map T) v) fun y136=>Option.bind (F28 f y135 y136) fun y137=>Option.bind (F25 f y137 (T e)) fun y138=>some (decide (y138<=0))) else some false)=some (a&&decide (at0 w i-at0 l i<=e)):=by
 have hiw:i<w.length:=by omega
 have ml:=List.getElem_mem hil;have mw:=List.getElem_mem hiw;refine((Gt0 (hw _ mw) (hr _ ml)).and (Gs7 (hd _ ml _ mw) he)).mono fun f h a v hv=> ?_
 subst hv;have e1:at0 w i=w[i]:=by unfold at0;rw[List.getD_eq_getElem?_getD,List.getElem?_eq_getElem hiw];rfl
 have e2:at0 l i=l[i]:=by unfold at0;rw[List.getD_eq_getElem?_getD,List.getElem?_eq_getElem hil];rfl
 cases a with
 |false=>rfl
 |true=>
  simp only[cond_true,Bool.true_and];refine sbe (D4 hiw) (sbe (D4 hil) (sbe h.1 (sbe h.2 ?_)));rw[e1,e2];have h3:= @Ct4 (w[i]-l[i]) e;rw[Ev6]at h3;have h4:decide (By6 (w[i]-l[i]) e<=0)= !decide (By6 (w[i]-l[i]) e>0):=by
   by_cases hc:By6 (w[i]-l[i]) e<=0
   ·rw[dT_ hc,dF_ (by omega)];rfl
   ·rw[dF_ hc,dT_ (by omega)];rfl
  rw[h4,h3,Bool.not_not]
end
section
variable {m:Mdl} {tg z:Nat} {mo:Bool} {bs:List Nat} {e:Rat}
abbrev nr(m:Mdl)(tg:Nat)(mo:Bool)(z:Nat)(bs:List Nat)(e:Rat)(k:Nat):Bool:=Ac2 e (rnd m tg mo z bs false k) (rnd m tg mo z bs true k) m.own.length 0
theorem Co2(h:okM m)(hbs:∀b∈bs,b<18446744073709551616){k:Nat}(hk:k<=61):∀x∈rnd m tg mo z bs false k,∀y∈rnd m tg mo z bs true k,rs (y-x):=fun x hx y hy=>by
 have h1:=Ds8 (Bg5 h hbs k hk y hy) (Ge8 (Bg5 h hbs k hk x hx));obtain⟨a,b,_⟩:=Ap6 h;rw[Rat.sub_eq_add_neg];refine Dt0 (p:=4*k) (q:=2*k+1) h1 ?_ ?_ (by omega)
 ·rw[Nat.pow_mul];exact Nat.pow_le_pow_left (by omega) _
 ·rw[Nat.pow_succ,Nat.pow_mul];have:12^k<=(10^2)^k:=Nat.pow_le_pow_left (by decide) _;omega
def By5(m:Mdl)(tg:Nat)(mo:Bool)(z:Nat)(bs:List Nat)(e:Rat)(n:Nat):Nat->Nat->List (List UInt8)×List (List UInt8)×Int×Int
 |0,_=>([],[],0,4)
 |r+1,i=>if nr m tg mo z bs e i then((rnd m tg mo z bs false i).map T,(rnd m tg mo z bs true i).map T,(i:Int),0) else if i=n then([],[],0,4) else By5 m tg mo z bs e n r (i+1)
theorem Dp2(h:okM m)(hbs:∀b∈bs,b<18446744073709551616)(he:rs e){n:Nat}(hn:n<=60):∀(r i:Nat),i+r<=61->i<=n->n<i+r->Ev fun f=>Av5 f (n:Int) (R e) (prs m tg mo z bs r i) (i:Int)=some (By5 m tg mo z bs e n r i)
 |0,_,_,h1,h2=>absurd h1 (by omega)
 |r+1,i,hi,h1,h2=>by
  have h12:=h.n12;have ht:∀up,Ev fun f=>F41 f ((rnd m tg mo z bs up i).map R)=some ((rnd m tg mo z bs up i).map T,true):=fun up=>Bz9 (by rw[G4];omega) (Aw9 h hbs (by omega)) (Dz2 h hbs (by omega))
  have hnr:Ev fun f=>F40 f ((rnd m tg mo z bs false i).map R) ((rnd m tg mo z bs true i).map R) (R e)=some (nr m tg mo z bs e i):=by
   have:=Fm8 (by rw[G4,G4]) (by rw[G4];omega) (Aw9 (up:=false) (tg:=tg) (mo:=mo) (z:=z) h hbs (show i<=61 by omega)) (Aw9 (up:=true) h hbs (show i<=61 by omega)) (Co2 h hbs (by omega)) he
   rwa [G4]at this
  have ih:Ev fun f=>i≠n->Av5 f (n:Int) (R e) (prs m tg mo z bs r (i+1)) ((i+1:Nat):Int)=some (By5 m tg mo z bs e n r (i+1)):=by
   by_cases hin:i=n
   ·exact Ev.of fun f hx=>absurd hin hx
   ·exact(Dp2 h hbs he hn r (i+1) (by omega) (by omega) (by omega)).mono fun f hx _=>hx
  refine(((ht false).and (ht true)).and (hnr.and ih)).mono fun f hh=> ?_
  obtain⟨⟨t1,t2⟩,h3,h4⟩:=hh;unfold Av5 prs By5;refine sbe h3 ?_;cases hb:nr m tg mo z bs e i with
  |true=>exact sbe t1 (sbe t2 rfl)
  |false=>
   simp only[cond_false,Bool.false_eq_true,if_false];by_cases hin:i=n
   ·subst hin;rw[if_pos rfl,beq_self_eq_true];rfl
   ·rw[if_neg hin,beq_false_of_ne (by omega)];simp only[cond_false];rw[wi i (by omega)];exact h4 hin
theorem Bl5{n:Nat}:∀(r i:Nat),i<=n->n<i+r->(∃j,i<=j/\j<=n/\nr m tg mo z bs e j=true/\(∀k,i<=k->k<j->nr m tg mo z bs e k=false)/\By5 m tg mo z bs e n r i=((rnd m tg mo z bs false j).map T,(rnd m tg mo z bs true j).map T,(j:Int),0))\/((∀k,i<=k->k<=n->nr m tg mo z bs e k=false)/\By5 m tg mo z bs e n r i=([],[],0,4))
 |0,_,h1,h2=>absurd h1 (by omega)
 |r+1,i,h1,h2=>by
  rw[By5];cases hb:nr m tg mo z bs e i with
  |true=>exact .inl ⟨i,Nat.le_refl _,h1,hb,fun k a b=>absurd a (by omega),by rw[if_pos rfl]⟩
  |false=>
   rw[if_neg (by decide)];by_cases hin:i=n
   ·subst hin;rw[if_pos rfl];refine .inr ⟨fun k a b=> ?_,rfl⟩
    rwa [show k=i by omega]
   ·rw[if_neg hin];rcases Bl5 (n:=n) r (i+1) (by omega) (by omega) with⟨j,a,b,c,d,hE⟩|⟨a,hE⟩
    ·refine .inl ⟨j,by omega,b,c,fun k k1 k2=> ?_,hE⟩;rcases Nat.lt_or_eq_of_le k1 with hlt|rfl
     ·exact d k (by omega) k2
     ·exact hb
    ·refine .inr ⟨fun k k1 k2=> ?_,hE⟩;rcases Nat.lt_or_eq_of_le k1 with hlt|rfl
     ·exact a k (by omega) k2
     ·exact hb
theorem Ei0(h:okM m)(h0:∀x∈m.own,x=0)(ht:tg<2^m.own.length)(mo:Bool):∃z bs,okV m tg mo z bs/\(∀k:Nat,k<10->Ev fun f=>F14 f (eM m) (tg:Int) mo (k:Int)=some ((rnd m tg mo z bs false k).map T,(rnd m tg mo z bs true k).map T,0))/\∀(e:Rat) (n:Nat),rs e->0<e->Bv8 2000 e=true->n<10->Ev fun f=>F13 f (eM m) (tg:Int) mo (T e) (n:Int)=some (By5 m tg mo z bs e n 10 0):=by
 have hp:=p12 h.n12;obtain⟨z,bs,hv,hE⟩:=Ea2 h mo ht;obtain⟨hz,hb⟩:=Cy1 h hv ht;have hbs:∀b∈bs,b<18446744073709551616:=fun b hb'=>by have:=hb b hb';omega
 have hR:=Dz4 (mo:=mo) h hbs (Fn3 h hv ht) (show tg<_ by omega) (show z<_ by omega);refine⟨z,bs,hv,fun k hk=> ?_,fun e n he he0 hef hn=> ?_⟩
 ·refine(((Cz6 h h0 ht).and hE).and (hR.and (Cs8 (tg:=tg) (z:=z) (mo:=mo) h hbs 10 0 k (by omega) hk))).mono fun f hh=> ?_
  obtain⟨⟨h1,h2⟩,h3,h4⟩:=hh;unfold F14;refine sbe h1 ?_;simp only[show((0:Int) !=0)=false from rfl,cond_false];rw[dF_ (by omega),dF_ (by omega)];simp only[cond_false,sb];refine sbe h2 (sbe h3 ?_);rw[Nat.zero_add]at h4;exact h4
 ·have hT:=Ff2 he;obtain⟨y,hy,hyE⟩:=Dy2 (q:=T e) (by omega);have hy0:y.e=0:=by
   rcases hy with⟨_,h2⟩|⟨r,h1,h2,h3⟩
   ·exact absurd ⟨e,rfl⟩ h2
   ·rw[<-At0 h1,if_pos hef]at h3;rw[h3]
  refine(((Cz6 h h0 ht).and hE).and ((hR.and (Dp2 (tg:=tg) (z:=z) (mo:=mo) h hbs he (n:=n) (by omega) 10 0 (by omega) (by omega) (by omega))).and (hyE.and (Gc0 he)))).mono fun f hh=> ?_
  obtain⟨⟨h1,h2⟩,⟨h3,h4⟩,h5,h6⟩:=hh;unfold F13;refine sbe h1 ?_;simp only[show((0:Int) !=0)=false from rfl,cond_false];refine sbe h5 ?_;rw[hy0];simp only[show((0:Int) !=0)=false from rfl,cond_false];refine sbe h6 (sbe (x:=false) (sbe Em8 ?_) (sbe h2 (sbe h3 h4)));rw[dF_ (by
   have:By6 e 0=1:=by unfold By6;rw[if_neg (by grind),if_pos he0]
   omega),dF_ (by omega),dF_ (by omega)]
  rfl
theorem Cv4{l w:List Rat}{v6:Int}{y5:List (List UInt8)×List (List UInt8)×Int×Int}(hn:l.length<=12)(hlw:l.length=w.length)(hr:∀x∈l,rs x)(hw:∀x∈w,rs x)(hd:∀x∈l,∀y∈w,rs (y-x))(he:rs e)(hv:(v6==y5.2.2.1)=Ac2 e l w l.length 0)(hs:Ac2 e l w l.length 0=true->y5.1=l.map T/\y5.2.1=w.map T):
 ∀(r i:Nat),i+r=l.length->Ev fun f=>∀(k:Nat) (a:Bool) (cL:Int->Option Bool) (res:Option Bool),r<k->(a&&Ac2 e l w r i)=Ac2 e l w l.length 0->cL (i64.wrap (v6+1))=res->Ci2 f v6 (T e) y5 (l.map T,w.map T,0) cL k a (i:Int)=res
 |0,i,hi=>(Ev.ge 2000).mono fun f hf k a cL res hk ha hres=>by
  obtain⟨k,rfl⟩:∃j,k=j+1:=⟨k-1,by omega⟩
  unfold Ci2;rw[dF_ (by simp;omega)];simp only[cond_false];rw[Ac2,Bool.and_true]at ha;subst ha;rw[hv,beq_self_eq_true];simp only[Bool.not_true,cond_false];refine sbe (x:=false) ?_ hres;cases hb:Ac2 e l w l.length 0 with
  |false=>rfl
  |true=>
   obtain⟨e1,e2⟩:=hs hb;simp only[cond_true];rw[e1,e2];unfold F16;rw[Ea1 (by rw[List.length_map];omega) (by omega),sb];simp only[cond_true];rw[Ea1 (by rw[List.length_map];omega) (by omega)];rfl
 |r+1,i,hi=>by
  have hil:i<l.length:=by omega
  refine((Ex8 hlw (by omega) hr hw hd he hil).and (Cv4 hn hlw hr hw hd he hv hs r (i+1) (by omega))).mono fun f h k a cL res hk ha hres=> ?_
  obtain⟨h1,h2⟩:=h;obtain⟨k,rfl⟩:∃j,k=j+1:=⟨k-1,by omega⟩
  rw[Ac2,<-Bool.and_assoc]at ha;unfold Ci2;rw[dT_ (by simp;omega)];simp only[cond_true];refine sbe (h1 a _ rfl) ?_;rw[wi i (by omega)];exact h2 k _ _ _ (by omega) ha hres
theorem Cv6{l w:List Rat}{v6:Int}{y5:List (List UInt8)×List (List UInt8)×Int×Int}(hn:l.length<=12)(hlw:l.length=w.length)(hr:∀x∈l,rs x)(hw:∀x∈w,rs x)(hd:∀x∈l,∀y∈w,rs (y-x))(he:rs e)(hv:Ac2 e l w l.length 0=false):
 ∀(r i:Nat),i+r=l.length->Ev fun f=>∀(k:Nat) (a:Bool) (cL:Int->Option Bool) (res:Option Bool),r<k->(a&&Ac2 e l w r i)=false->cL (i64.wrap (v6+1))=res->Ci3 f v6 (T e) y5 (l.map T,w.map T,0) cL k a (i:Int)=res
 |0,i,hi=>Ev.of fun f k a cL res hk ha hres=>by
  obtain⟨k,rfl⟩:∃j,k=j+1:=⟨k-1,by omega⟩
  unfold Ci3;rw[dF_ (by simp;omega)];simp only[cond_false];rw[Ac2,Bool.and_true]at ha;subst ha;exact hres
 |r+1,i,hi=>by
  have hil:i<l.length:=by omega
  refine((Ex8 hlw (by omega) hr hw hd he hil).and (Cv6 (y5:=y5) (v6:=v6) hn hlw hr hw hd he hv r (i+1) (by omega))).mono fun f h k a cL res hk ha hres=> ?_
  obtain⟨h1,h2⟩:=h;obtain⟨k,rfl⟩:∃j,k=j+1:=⟨k-1,by omega⟩
  rw[Ac2,<-Bool.and_assoc]at ha;unfold Ci3;rw[dT_ (by simp;omega)];simp only[cond_true];refine sbe (h1 a _ rfl) ?_;rw[wi i (by omega)];exact h2 k _ _ _ (by omega) ha hres
end
end
section
section
variable {m:Mdl} {tg z:Nat} {mo:Bool} {bs:List Nat} {e:Rat}
theorem Cv3(h:okM m)(hv:okV m tg mo z bs)(ht:tg<2^m.own.length)(hB:∀k:Nat,k<10->Ev fun f=>F14 f (eM m) (tg:Int) mo (k:Int)=some ((rnd m tg mo z bs false k).map T,(rnd m tg mo z bs true k).map T,0))(he:rs e){j:Nat}(hj:j<10)(hj1:nr m tg mo z bs e j=true)(hj0:∀k,k<j->nr m tg mo z bs e k=false):
 ∀(r i:Nat),i+r=j+1->Ev fun f=>∀k,r<k->Bw2 f mo (eM m) (tg:Int) (T e) ((rnd m tg mo z bs false j).map T,(rnd m tg mo z bs true j).map T,(j:Int),0) k (i:Int)=some true
 |0,i,hi=>Ev.of fun f k hk=>by
  obtain⟨k,rfl⟩:∃j,k=j+1:=⟨k-1,by omega⟩
  unfold Bw2;rw[dF_ (show¬(i:Int)<=(j:Int) by omega)];rfl
 |r+1,i,hi=>by
  have h12:=h.n12;have hp:=p12 h12;have hbs:∀b∈bs,b<18446744073709551616:=fun b hb=>by have:=(Cy1 h hv ht).2 b hb;omega
  have hnum:∀up,Ev fun f=>F22 f ((rnd m tg mo z bs up i).map T)=some true:=fun up=>Cc6 (by rw[G4];omega) (Ex3 h hbs (by omega))
  have hnr:Ac2 e (rnd m tg mo z bs false i) (rnd m tg mo z bs true i) (rnd m tg mo z bs false i).length 0=nr m tg mo z bs e i:=by rw[G4]
  have h2:=Cv4 (l:=rnd m tg mo z bs false i) (w:=rnd m tg mo z bs true i) (e:=e) (v6:=(i:Int)) (y5:=((rnd m tg mo z bs false j).map T,(rnd m tg mo z bs true j).map T,(j:Int),0)) (by rw[G4];exact h12) (by rw[G4,G4]) (Aw9 h hbs (by omega)) (Aw9 h hbs (by omega)) (Co2 h hbs (by omega)) he (by
   rw[hnr];by_cases hij:i=j
   ·subst hij;rw[hj1,beq_self_eq_true]
   ·rw[hj0 i (by omega),beq_false_of_ne (show(i:Int)≠(j:Int) by omega)]) (fun ht'=>by
   rw[hnr]at ht';by_cases hij:i=j
   ·subst hij;exact⟨rfl,rfl⟩
   ·rw[hj0 i (by omega)]at ht';cases ht') m.own.length 0 (by rw[G4];omega)
  refine(((hB i (by omega)).and ((hnum false).and (hnum true))).and ((h2.and (Ev.ge 13)).and (Cv3 h hv ht hB he hj hj1 hj0 r (i+1) (by omega)))).mono fun f hh k hk=> ?_
  obtain⟨⟨b1,n1,n2⟩,⟨h3,h4⟩,h5⟩:=hh;obtain⟨k,rfl⟩:∃j,k=j+1:=⟨k-1,by omega⟩
  unfold Bw2;rw[dT_ (show(i:Int)<=(j:Int) by omega)];simp only[cond_true];refine sbe b1 (sbe (x:=false) ?_ ?_)
  ·simp only[show((0:Int) !=0)=false from rfl,cond_false,List.length_map,G4,show(eM m).Owner=m.own from rfl,bne_self_eq_false];rw[n1,sb];simp only[Bool.not_true,cond_false];rw[n2];rfl
  ·simp only[cond_false];refine h3 f true _ _ (by omega) ?_ ?_
   ·rw[G4,Bool.true_and]
   ·rw[wi i (by omega)];exact h5 k (by omega)
theorem Cv5(h:okM m)(hv:okV m tg mo z bs)(ht:tg<2^m.own.length)(hB:∀k:Nat,k<10->Ev fun f=>F14 f (eM m) (tg:Int) mo (k:Int)=some ((rnd m tg mo z bs false k).map T,(rnd m tg mo z bs true k).map T,0))(he:rs e){n:Int}{j:Nat}{y5:List (List UInt8)×List (List UInt8)×Int×Int}(hn:i64.wrap (Int.tmod n 6)=(j:Int))(hj:j<10)(hj0:∀k,k<=j->nr m tg mo z bs e k=false):
 ∀(r i:Nat),i+r=j+1->Ev fun f=>∀k,r<k->Bw3 f mo n (eM m) (tg:Int) (T e) y5 k (i:Int)=some true
 |0,i,hi=>Ev.of fun f k hk=>by
  obtain⟨k,rfl⟩:∃j,k=j+1:=⟨k-1,by omega⟩
  unfold Bw3;rw[hn,dF_ (by omega)];rfl
 |r+1,i,hi=>by
  have h12:=h.n12;have hp:=p12 h12;have hbs:∀b∈bs,b<18446744073709551616:=fun b hb=>by have:=(Cy1 h hv ht).2 b hb;omega
  have hnum:∀up,Ev fun f=>F22 f ((rnd m tg mo z bs up i).map T)=some true:=fun up=>Cc6 (by rw[G4];omega) (Ex3 h hbs (by omega))
  have hnr:Ac2 e (rnd m tg mo z bs false i) (rnd m tg mo z bs true i) (rnd m tg mo z bs false i).length 0=false:=by rw[G4];exact hj0 i (by omega)
  have h2:=Cv6 (l:=rnd m tg mo z bs false i) (w:=rnd m tg mo z bs true i) (e:=e) (v6:=(i:Int)) (y5:=y5) (by rw[G4];exact h12) (by rw[G4,G4]) (Aw9 h hbs (by omega)) (Aw9 h hbs (by omega)) (Co2 h hbs (by omega)) he hnr m.own.length 0 (by rw[G4];omega);refine(((hB i (by omega)).and ((hnum false).and (hnum true))).and ((h2.and (Ev.ge 13)).and (Cv5 h hv ht hB he hn hj hj0 r (i+1) (by omega) (y5:=y5)))).mono fun f hh k hk=> ?_
  obtain⟨⟨b1,n1,n2⟩,⟨h3,h4⟩,h5⟩:=hh;obtain⟨k,rfl⟩:∃j,k=j+1:=⟨k-1,by omega⟩
  unfold Bw3;rw[hn,dT_ (show(i:Int)<=(j:Int) by omega)];simp only[cond_true];refine sbe b1 (sbe (x:=false) ?_ ?_)
  ·simp only[show((0:Int) !=0)=false from rfl,cond_false,List.length_map,G4,show(eM m).Owner=m.own from rfl,bne_self_eq_false];rw[n1,sb];simp only[Bool.not_true,cond_false];rw[n2];rfl
  ·simp only[cond_false];refine h3 f true _ _ (by omega) ?_ ?_
   ·rw[Bool.true_and];exact hj0 i (by omega)
   ·rw[wi i (by omega)];exact h5 k (by omega)
end
theorem Df8{d:B1}{b n a0 a1:Int}(mo:Bool)(hd:Ae7 d)(b0:0<=b)(b1:b<65536)(ha0:u8 a0)(ha1:u8 a1)(hn:0<=n):∃fuel,F7 fuel d b mo ⟨a0,a1⟩ n=some true:=by
 obtain⟨m,hM,_,h0,hE⟩:=Dg5 hd;have h12:=hM.n12;have hp:=p12 h12;obtain⟨tg,htg,hset⟩:=Fp2 (n:=m.own.length) (b:=b) (by omega) b0 (by omega);obtain⟨k,hk⟩:∃k:Nat,n%6=(k:Int):=⟨(n%6).toNat,by omega⟩
 obtain⟨z,bs,hv,hB,hC⟩:=Ei0 hM h0 htg mo;obtain⟨p,hp0⟩:∃p:Nat,1+a0=(p:Int):=⟨(1+a0).toNat,by have:=ha0.1;omega⟩
 obtain⟨q,hq0⟩:∃q:Nat,1+a1=(q:Int):=⟨(1+a1).toNat,by have:=ha1.1;omega⟩
 have:=ha0.1;have:=ha0.2;have:=ha1.1;have:=ha1.2;have hfr:fr q 256 (Rat.divInt (p:Int) (q:Int)):=⟨by omega,(p:Int),rfl,by rw[Int.natAbs_natCast];have:256*1<=256*q:=Nat.mul_le_mul_left _ (by omega);omega⟩
 have he:rs (Rat.divInt (p:Int) (q:Int)):=Dt0 hfr (p:=3) (q:=3) (by omega) (by decide) (by decide);have he0:0<Rat.divInt (p:Int) (q:Int):=Cu0 (by omega) (by omega);have hef:Bv8 2000 (Rat.divInt (p:Int) (q:Int))=true:=Ds7 (L:=2000) (p:=3) (q:=3) hfr (by omega) (by decide) (by decide);have hO:=Gs9 (n:=(p:Int)) (d:=(q:Int)) (by omega) (by omega) (by omega) (by omega);have hk6:i64.wrap (Int.tmod n 6)=(k:Int):=by rw[(tdm hn).2,hk,E7 (i:=(k:Int)) (by omega) (by omega)]
 have hop:i64.wrap (1+i64.wrap a0)=(p:Int):=by rw[E7 (i:=a0) (by omega) (by omega),hp0,E7 (i:=(p:Int)) (by omega) (by omega)]
 have hoq:i64.wrap (1+i64.wrap a1)=(q:Int):=by rw[E7 (i:=a1) (by omega) (by omega),hq0,E7 (i:=(q:Int)) (by omega) (by omega)]
 rcases Bl5 (m:=m) (tg:=tg) (mo:=mo) (z:=z) (bs:=bs) (e:=Rat.divInt (p:Int) (q:Int)) (n:=k) 10 0 (by omega) (by omega) with⟨j,_,hjk,hj1,hj0,hcl⟩|⟨hj0,hcl⟩
 ·obtain⟨f,hf⟩:=(((hE.and hO).and (hC _ k he he0 hef (by omega))).and ((Cv3 hM hv htg hB he (by omega) hj1 (fun i hi=>hj0 i (by omega) hi) (j+1) 0 (by omega)).and (Ev.ge 2000))).ex;obtain⟨⟨⟨h1,h2⟩,h3⟩,h4,h5⟩:=hf;refine⟨f,?_⟩;have hw:=Db1 (f-206);rw[show f-206+206=f by omega]at hw;rw[hcl]at h3;unfold F7;rw[hw,sb];simp only[Bool.not_true,cond_false];rw[h1,sb,List.length_map,show(eM m).Owner=m.own from rfl,hset,sb];rw[hop,hoq,h2,sb,hk6,h3,sb];simp only[show((0:Int) !=0)=false from rfl,cond_false];rw[dF_ (show¬(j:Int)<0 by omega),dF_ (show¬(j:Int)>(k:Int) by omega)];simp only[cond_false,sb,show((0:Int)==0)=true from rfl,cond_true];exact h4 f (by omega)
 ·obtain⟨f,hf⟩:=(((hE.and hO).and (hC _ k he he0 hef (by omega))).and ((Cv5 (y5:=([],[],0,4)) hM hv htg hB he hk6 (by omega) (fun i hi=>hj0 i (by omega) hi) (k+1) 0 (by omega)).and (Ev.ge 2000))).ex;obtain⟨⟨⟨h1,h2⟩,h3⟩,h4,h5⟩:=hf;refine⟨f,?_⟩;have hw:=Db1 (f-206);rw[show f-206+206=f by omega]at hw;rw[hcl]at h3;unfold F7;rw[hw,sb];simp only[Bool.not_true,cond_false];rw[h1,sb,List.length_map,show(eM m).Owner=m.own from rfl,hset,sb];rw[hop,hoq,h2,sb,hk6,h3,sb];simp only[show((4:Int) !=0)=true from rfl,show((4:Int) !=4)=false from rfl,show((0:Int) !=0)=false from rfl,cond_false,cond_true];rw[dF_ (show¬(0:Int)<0 by omega),dF_ (show¬(0:Int)>(k:Int) by omega)];simp only[cond_false,sb,show((4:Int)==0)=false from rfl];exact h4 f (by omega)
end
end Go.Proofs.YtdlnalepibeibaaGreatDoor
end
section
namespace Go.Proofs.YtdlnalepibeibaaGreatDoor.sandwichFirst
open Go.ChangeShapes Go.WideShapes Go.ChangeAt Go.RowKit Kx
open Go.ChangeMaps (open_string shut_string)
set_option linter.unusedVariables false
set_option maxRecDepth 100000
section
def wf5(x:Int):Prop:=(Lit.int .u8 x).wf=true
theorem Dd7{n:Nat}{ds:List Dat}(h:Fit Tryz.prog (n+1) 5 ds):∃x:Int,ds=[.int .u8 x]/\wf5 x:=by
 exact Dm9 Tryz.underlying5 h
def Hh5(x:Di4):Prop:=wf5 x.a0/\wf5 x.a1/\wf5 x.a2
theorem Gr8{n:Nat}{ds:List Dat}(h:Fit Tryz.prog (n+2) 94 ds):∃x:Di4,ds=[.int .u8 x.a0,.int .u8 x.a1,.int .u8 x.a2]/\Hh5 x:=by
 have h0:=Bw5 Tryz.underlying94 h;obtain⟨_,r0,rfl,g0,h1⟩:=h0;obtain⟨x0,rfl,w0⟩:=Dd7 (n:=n+0) g0;obtain⟨_,r1,rfl,g1,h2⟩:=h1;obtain⟨x1,rfl,w1⟩:=Dd7 (n:=n+0) g1;obtain⟨_,r2,rfl,g2,h3⟩:=h2;obtain⟨x2,rfl,w2⟩:=Dd7 (n:=n+0) g2;cases (show r2=[] from h3);exact⟨⟨x0,x1,x2⟩,rfl,⟨w0,w1,w2⟩⟩
def Ha2(x:Bj7):Prop:=wf5 x.a0/\wf5 x.a1
theorem Gb6{n:Nat}{ds:List Dat}(h:Fit Tryz.prog (n+2) 62 ds):∃x:Bj7,ds=[.int .u8 x.a0,.int .u8 x.a1]/\Ha2 x:=by
 have h0:=Bw5 Tryz.underlying62 h;obtain⟨_,r0,rfl,g0,h1⟩:=h0;obtain⟨x0,rfl,w0⟩:=Dd7 (n:=n+0) g0;obtain⟨_,r1,rfl,g1,h2⟩:=h1;obtain⟨x1,rfl,w1⟩:=Dd7 (n:=n+0) g1;cases (show r1=[] from h2);exact⟨⟨x0,x1⟩,rfl,⟨w0,w1⟩⟩
def Ha3(x:D1):Prop:=wf5 x.State/\wf5 x.Act/\wf5 x.Gain/\Hh5 x.To/\Ha2 x.Part
theorem Gr9{n:Nat}{ds:List Dat}(h:Fit Tryz.prog (n+3) 96 ds):∃x:D1,ds=[.int .u8 x.State,.int .u8 x.Act,.int .u8 x.Gain,.int .u8 x.To.a0,.int .u8 x.To.a1,.int .u8 x.To.a2,.int .u8 x.Part.a0,.int .u8 x.Part.a1]/\Ha3 x:=by
 have h0:=Bk7 Tryz.underlying96 h;obtain⟨_,r0,rfl,g0,h1⟩:=h0;obtain⟨x0,rfl,w0⟩:=Dd7 (n:=n+1) g0;obtain⟨_,r1,rfl,g1,h2⟩:=h1;obtain⟨x1,rfl,w1⟩:=Dd7 (n:=n+1) g1;obtain⟨_,r2,rfl,g2,h3⟩:=h2;obtain⟨x2,rfl,w2⟩:=Dd7 (n:=n+1) g2;obtain⟨_,r3,rfl,g3,h4⟩:=h3;obtain⟨x3,rfl,w3⟩:=Gr8 (n:=n+0) g3;obtain⟨_,r4,rfl,g4,h5⟩:=h4;obtain⟨x4,rfl,w4⟩:=Gb6 (n:=n+0) g4;cases (show r4=[] from h5);exact⟨⟨x0,x1,x2,x3,x4⟩,rfl,⟨w0,w1,w2,w3,w4⟩⟩
def Hh3(x:List D1):Prop:=x.length<=maxLen/\∀y∈x,Ha3 y
theorem Gr5{n:Nat}{ds:List Dat}(h:Fit Tryz.prog (n+4) 45 ds):∃x:List D1,ds=[.sl 8 (x.map B8)]/\Hh3 x:=by
 obtain⟨es,rfl,hl,he⟩:=Dn0 Tryz.underlying45 (sz:=8) (by kernel_rfl) h;obtain⟨l,rfl,hq⟩:=Cr2 (en:=B8) (Q:=Ha3) (fun x hx=>Gr9 hx) es he;exact⟨l,rfl,by simpa using hl,hq⟩
def Ha1(x:B1):Prop:=wf5 x.States/\wf5 x.Owners/\wf5 x.Grain/\wf5 x.Cents/\Hh3 x.Picks
theorem Gr6{n:Nat}{ds:List Dat}(h:Fit Tryz.prog (n+5) 47 ds):∃x:B1,ds=[.int .u8 x.States,.int .u8 x.Owners,.int .u8 x.Grain,.int .u8 x.Cents,.sl 8 (x.Picks.map B8)]/\Ha1 x:=by
 have h0:=Bk7 Tryz.underlying47 h;obtain⟨_,r0,rfl,g0,h1⟩:=h0;obtain⟨x0,rfl,w0⟩:=Dd7 (n:=n+3) g0;obtain⟨_,r1,rfl,g1,h2⟩:=h1;obtain⟨x1,rfl,w1⟩:=Dd7 (n:=n+3) g1;obtain⟨_,r2,rfl,g2,h3⟩:=h2;obtain⟨x2,rfl,w2⟩:=Dd7 (n:=n+3) g2;obtain⟨_,r3,rfl,g3,h4⟩:=h3;obtain⟨x3,rfl,w3⟩:=Dd7 (n:=n+3) g3;obtain⟨_,r4,rfl,g4,h5⟩:=h4;obtain⟨x4,rfl,w4⟩:=Gr5 (n:=n+0) g4;cases (show r4=[] from h5);exact⟨⟨x0,x1,x2,x3,x4⟩,rfl,⟨w0,w1,w2,w3,w4⟩⟩
def Hh4(x:Int):Prop:=(Lit.int .u16 x).wf=true
theorem Gr7{n:Nat}{ds:List Dat}(h:Fit Tryz.prog (n+1) 50 ds):∃x:Int,ds=[.int .u16 x]/\Hh4 x:=by
 exact Dm9 Tryz.underlying50 h
def wf4(x:Bool):Prop:=True
theorem Hl3{n:Nat}{ds:List Dat}(h:Fit Tryz.prog (n+1) 4 ds):∃x:Bool,ds=[.bool x]/\wf4 x:=by
 obtain⟨b,e⟩:=Eg4 Tryz.underlying4 h;exact⟨b,e,trivial⟩
theorem Gg8{d:B1}(h:Ha1 d):Ae7 d:=
 ⟨Cj7 h.1,Cj7 h.2.1,Cj7 h.2.2.1,Cj7 h.2.2.2.1,fun p hp=>by
  obtain⟨h1,h2,h3,⟨h4,h5,h6⟩,h7,h8⟩:=h.2.2.2.2.2 p hp;exact⟨Cj7 h1,Cj7 h2,Cj7 h3,Cj7 h4,Cj7 h5,Cj7 h6,Cj7 h7,Cj7 h8⟩⟩
theorem law(x0:B1)(x1:Int)(x2:Bool)(x3:Bj7)(x4:Int)(h0:Ha1 x0)(h1:Hh4 x1)(h2:wf4 x2)(h3:Ha2 x3)(h4:wf5 x4):∃fuel,F7 fuel x0 x1 x2 x3 x4=some true:=
 Df8 x2 (Gg8 h0) (Ga5 h1).1 (Ga5 h1).2 (Cj7 h3.1) (Cj7 h3.2) (Cj7 h4).1
theorem own:ownKnob Tryz.prog.godebug=none:=by kernel_rfl
theorem Be8:laidOutB Tryz.prog=true:=by kernel_rfl
theorem Ho2{W:World}(h0:laidMetH Tryz.prog Rows.sandwichFirstRow.laid W)(hs:W.ShapedOpen Tryz.prog):GlA (K1 W) W:=by
 have h:laidMet Tryz.prog Rows.sandwichFirstRow.laid W:=by
  rw[MakeChecks.laidMetH_plain _ _ _ (by kernel_rfl)]at h0;exact h0
 have all:∀n cs,gl n=some cs->(∃us,X6 (K1 W) n 0 us/\D3 (K1 W) cs us)/\∃c e z,W.heap[n]? =some (.cells c e z)/\c.size=cs.length:=fun n cs e=>by
  refine Cw2 (Q:=fun n cs=>(∃us,X6 (K1 W) n 0 us/\D3 (K1 W) cs us)/\∃c e z,W.heap[n]? =some (.cells c e z)/\c.size=cs.length) ?_ e;show _/\_/\_/\_/\_/\True;exact⟨Dt6 h 0 (g:=4) (t:=340) (e:=5) rfl (by kernel_rfl) (by kernel_rfl) Tryz.underlying340 (by kernel_rfl) (by kernel_rfl) (by kernel_rfl) (by kernel_rfl),
   Dt6 h 1 (g:=5) (t:=341) (e:=5) rfl (by kernel_rfl) (by kernel_rfl) Tryz.underlying341 (by kernel_rfl) (by kernel_rfl) (by kernel_rfl) (by kernel_rfl),
   Dt6 h 2 (g:=3) (t:=320) (e:=32) rfl (by kernel_rfl) (by kernel_rfl) Tryz.underlying320 (by kernel_rfl) (by kernel_rfl) (by kernel_rfl) (by kernel_rfl),
   Eu9 h 4 (g:=1) (t:=189) rfl (by kernel_rfl) (by kernel_rfl) (by kernel_rfl) rfl,
   Eu9 h 3 (g:=2) (t:=189) rfl (by kernel_rfl) (by kernel_rfl) (by kernel_rfl) rfl,
   trivial⟩
 refine⟨⟨fun n cs e=>(all n cs e).1,fun n k e=> ?_⟩,fun n cs e=>(all n cs e).2⟩
 ·simp only[gxT,List.mem_cons,List.mem_nil_iff,or_false,Prod.mk.injEq]at e;obtain⟨rfl,rfl⟩:=e;exact Ho1 hs (zero:= #[.int .i64 0]) (t:=3) (of_decide_eq_true (by kernel_rfl)) (by kernel_rfl) (by kernel_rfl) (by kernel_rfl) Tryz.underlying3 (by kernel_rfl)
theorem Gf6(os:Os)(started:os.Started)(H:Type)(enc:TypeId×Value->H):
 ReturnsInHanded {} Tryz.checked os 7 .any (fun w args=>(Rows.sandwichFirstSpec.pre enc Tryz.prog Tryz.f7 Rows.sandwichFirstRow.domain false w args/\laidMetH Tryz.prog Rows.sandwichFirstRow.laid w)/\sizedMet enc Tryz.prog Tryz.f7 (OpenSpec.ofChange Rows.sandwichFirstSpec) false w args)
  (Rows.sandwichFirstSpec.post enc Tryz.prog Tryz.f7 false true false false):=by
 refine Ac4 (C:=Tryz.checked) (X:=fun w _=>laidMetH Tryz.prog Rows.sandwichFirstRow.laid w) (fun _ _ _ hh h=>h.of_heap hh) own started (by kernel_rfl) Tryz.func7
  (ChangeSpec.witness_shaped (enc:=enc) (C:=Tryz.checked) (os:=os) (X:=fun w _=>laidMetH Tryz.prog Rows.sandwichFirstRow.laid w) false (World.laidAll Tryz.prog os Rows.sandwichFirstRow.laid) #[.agg #[.int .u8 0,.int .u8 0,.int .u8 0,.int .u8 0,.slice none 0 0],.int .u16 0,.bool false,.agg #[.int .u8 0,.int .u8 0],.int .u8 0] 8 (World.laidAll_os _ _ _)
   (World.shaped_of_ZipB (by kernel_rfl) (by kernel_rfl)) (by kernel_rfl) (by kernel_rfl) (by kernel_rfl)
   (by rw[MakeChecks.laidMetH_plain _ _ _ (by kernel_rfl)];exact laidMet_laidAll _ (by kernel_rfl) (by kernel_rfl))) ?_
 intro W base args ds gs before hval0 hW hcnd hlaid hshape;have hgl:GlA (K1 W) W:=Ho2 hlaid hshape;have hval:∀(j:Nat) t v,Tryz.f7.params[j]? =some t->args[j]? =some v->Value.okWide Tryz.prog W .any base t v:=hval0;have hW':=hW;obtain⟨p,q,hA0,hV,rfl,hfz,hnd⟩:=hW;have hA:DataW.TrodAll enc Tryz.prog W 0 (fun _=>true) true Tryz.f7.params.toList args.toList ds p:=hA0;rw[Tryz.params7]at hA hval;obtain⟨v0,vs0,d0,ds0,p0,q0,hargs,rfl,rfl,h0,r0⟩:=trodAll_cons hA;obtain⟨v1,vs1,d1,ds1,p1,q1,rfl,rfl,rfl,h1,r1⟩:=trodAll_cons r0;obtain⟨v2,vs2,d2,ds2,p2,q2,rfl,rfl,rfl,h2,r2⟩:=trodAll_cons r1;obtain⟨v3,vs3,d3,ds3,p3,q3,rfl,rfl,rfl,h3,r3⟩:=trodAll_cons r2;obtain⟨v4,vs4,d4,ds4,p4,q4,rfl,rfl,rfl,h4,r4⟩:=trodAll_cons r3;obtain⟨rfl,rfl,rfl⟩:=trodAll_nil r4;obtain rfl:args= #[v0,v1,v2,v3,v4]:=by cases args;simp_all
 obtain⟨rfl,rfl⟩:=trodVars_none hV;have k0:=h0;have lt0:∀x∈p0,x.block<W.heap.size:=by obtain⟨m,hm⟩:=k0;exact DataW.trod_lt m _ _ _ hm
 obtain⟨c0,rfl⟩:=Gg6 Tryz.underlying47 (hval 0 47 v0 rfl rfl);obtain⟨m0,hm0⟩:=k0;obtain⟨ds0,hr0,hf0⟩:=W4 5 47 m0 _ _ (by kernel_rfl) hm0;obtain⟨x0,rfl,wf0_⟩:=Gr6 (n:=0) hf0;have rel0:C0 (K1 W) noR (.agg (dV [.int .u8 x0.States,.int .u8 x0.Owners,.int .u8 x0.Grain,.int .u8 x0.Cents,.sl 8 (x0.Picks.map B8)])) _:=Cd7 hr0;have k1:=h1;have lt1:∀x∈p1,x.block<W.heap.size:=by obtain⟨m,hm⟩:=k1;exact DataW.trod_lt m _ _ _ hm
 obtain⟨a1,rfl,rfl,rfl,w1⟩:=open_int Tryz.underlying50 (hval 1 50 v1 rfl rfl) h1;obtain⟨m1,hm1⟩:=k1;obtain⟨ds1,hr1,hf1⟩:=W4 1 50 m1 _ _ (by kernel_rfl) hm1;obtain⟨x1,rfl,wf1_⟩:=Gr7 (n:=0) hf1;have Go1:C0 (K1 W) noR (.d (.int .u16 x1)) _:=Bt8 hr1;have k2:=h2;have lt2:∀x∈p2,x.block<W.heap.size:=by obtain⟨m,hm⟩:=k2;exact DataW.trod_lt m _ _ _ hm
 obtain⟨a2,rfl,rfl,rfl⟩:=open_bool Tryz.underlying4 (hval 2 4 v2 rfl rfl) h2;obtain⟨m2,hm2⟩:=k2;obtain⟨ds2,hr2,hf2⟩:=W4 1 4 m2 _ _ (by kernel_rfl) hm2;obtain⟨x2,rfl,wf2_⟩:=Hl3 (n:=0) hf2;have Gz1:C0 (K1 W) noR (.d (.bool x2)) _:=Bt8 hr2;have k3:=h3;have lt3:∀x∈p3,x.block<W.heap.size:=by obtain⟨m,hm⟩:=k3;exact DataW.trod_lt m _ _ _ hm
 obtain⟨c3,rfl⟩:=Gg5 Tryz.underlying62 (hval 3 62 v3 rfl rfl);obtain⟨m3,hm3⟩:=k3;obtain⟨ds3,hr3,hf3⟩:=W4 2 62 m3 _ _ (by kernel_rfl) hm3;obtain⟨x3,rfl,wf3_⟩:=Gb6 (n:=0) hf3;have rel3:C0 (K1 W) noR (.agg (dV [.int .u8 x3.a0,.int .u8 x3.a1])) _:=Cd7 hr3;have k4:=h4;have lt4:∀x∈p4,x.block<W.heap.size:=by obtain⟨m,hm⟩:=k4;exact DataW.trod_lt m _ _ _ hm
 obtain⟨a4,rfl,rfl,rfl,w4⟩:=open_int Tryz.underlying5 (hval 4 5 v4 rfl rfl) h4;obtain⟨m4,hm4⟩:=k4;obtain⟨ds4,hr4,hf4⟩:=W4 1 5 m4 _ _ (by kernel_rfl) hm4;obtain⟨x4,rfl,wf4_⟩:=Dd7 (n:=0) hf4;have rel4:C0 (K1 W) noR (.d (.int .u8 x4)) _:=Bt8 hr4;obtain⟨fuel,hF⟩:=law x0 x1 x2 x3 x4 wf0_ wf1_ wf2_ wf3_ wf4_;clear hA0 hval0;refine(Gp0 hF (K1 W) W [_,_,_,_,_] (Dc3 W) hgl (by simp only[B5];exact⟨_,_,rfl,rel0,⟨_,_,rfl,Go1,⟨_,_,rfl,Gz1,⟨_,_,rfl,rel3,⟨_,_,rfl,rel4,rfl⟩⟩⟩⟩⟩)).mono fun e W' hE=> ?_
 obtain⟨u,M',rfl,hext,hv⟩:=hE;have bel:=hext.below;have hv:=H2 hv;cases hv;exact⟨_,rfl,_,_,_,[],_,[],hW',trodAll_mk1 (shut_bool Tryz.underlying4 _),(trodAll_cons_mk (Below.trod Be8 (by kernel_rfl) (of_decide_eq_true (by kernel_rfl)) ⟨_,hm0⟩ bel lt0) (trodAll_cons_mk (Below.trod Be8 (by kernel_rfl) (of_decide_eq_true (by kernel_rfl)) ⟨_,hm1⟩ bel lt1) (trodAll_cons_mk (Below.trod Be8 (by kernel_rfl) (of_decide_eq_true (by kernel_rfl)) ⟨_,hm2⟩ bel lt2) (trodAll_cons_mk (Below.trod Be8 (by kernel_rfl) (of_decide_eq_true (by kernel_rfl)) ⟨_,hm3⟩ bel lt3) (trodAll_cons_mk (Below.trod Be8 (by kernel_rfl) (of_decide_eq_true (by kernel_rfl)) ⟨_,hm4⟩ bel lt4) trodAll_mk0))))),rfl,bel.frame _,fun h=>by cases h⟩
theorem Dx0:(Rows.sandwichFirstRow.inPlace==Tryz.pinned.checked.prog.inPlace 7)=true:=by kernel_rfl
theorem Cc7:(Rows.sandwichFirstRow.unfollowed==Tryz.pinned.checked.prog.unfollowed 7)=true:=by kernel_rfl
theorem Dg4:(Rows.sandwichFirstRow.recurses==Tryz.pinned.checked.prog.recurses 7)=true:=by kernel_rfl
theorem Fn1:(Rows.sandwichFirstRow.named==Tryz.pinned.checked.prog.varsNamed 7)=true:=by kernel_rfl
theorem Fh2:joinedFacts Tryz.pinned.checked.prog 7 Tryz.f7 Rows.sandwichFirstSpec Rows.sandwichFirstRow=true:=by
 unfold joinedFacts;rw[Dx0,Cc7,Dg4,Fn1];kernel_rfl
theorem Ho6:Rows.sandwichFirstRow.holds Tryz.pinned (OpenSpec.ofChange Rows.sandwichFirstSpec):=
 OpenClaim.holds_of_wide 7 Tryz.f7 rfl rfl rfl rfl rfl rfl rfl ⟨rfl,rfl,rfl,rfl,rfl⟩ rfl rfl rfl rfl rfl (by kernel_rfl) Tryz.func7 Fh2
  (of_decide_eq_true (by kernel_rfl)) (by unfold Func.isWrapper;first|(rw[if_pos (by decide+kernel)];kernel_rfl)|(rw[if_neg (by decide+kernel)];exact⟨rfl,rfl⟩))
  (fun os started H enc _=>Gf6 os started H enc)
theorem proved:Rows.SandwichFirstCardSaid:=
 Claim7.holds_tied_plain_at .later [] [.data,.data,.data,.sentinel,.sentinel] true (true, "576ca53fc8fd8aa78b63b083a81e19658d4bc94738a8f63b5d4a81637d3c6a55") true Ho6 (fun _ h=>by cases h) (by kernel_rfl) (fun _ h=>by cases h) sandwichFirst_row_tie rfl ⟨rfl,rfl⟩ (by kernel_rfl) rfl
  (fun f fn hf hfn=>by
   obtain rfl:f=7:=Option.some.inj ((show Tryz.prog.funcNamed "croupier/croupierlaw22.SandwichFirst" =some 7 by kernel_rfl).symm.trans hf)|>.symm;obtain rfl:fn=Tryz.f7:=(Option.some.inj (Tryz.func7.symm.trans hfn)).symm;exact⟨by kernel_rfl,fun j t ht=>by
    rw[Tryz.params7]at ht;have hm:t∈[47,50,4,62,5]:=by simpa using Array.mem_of_getElem? ht
    have hall:([47,50,4,62,5].all fun u=> !Tryz.prog.wantsStandIn u)=true:=by kernel_rfl
    exact(show Tryz.prog.wantsStandIn t=false by simpa using List.all_eq_true.1 hall t hm)⟩)
  (by kernel_rfl)
#print axioms proved
end
end Go.Proofs.YtdlnalepibeibaaGreatDoor.sandwichFirst
end
