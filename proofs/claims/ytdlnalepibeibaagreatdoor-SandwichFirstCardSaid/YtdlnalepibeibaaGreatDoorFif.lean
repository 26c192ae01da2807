/- One part of the texts that lead to the theorem; it claims nothing by itself. -/
import Derived.Test.YtdlnalepibeibaaGreatDoorFie
section
namespace Go.Proofs.YtdlnalepibeibaaGreatDoor
open Go Go.RowKit Kx Go.IntKind
set_option maxRecDepth 100000
section
theorem Ca9{l:List Int}{p i:Nat}(h:p+i<l.length):C6 (l.drop p) (i:Int)=some l[p+i]:=by
 rw[Ab9,List.getElem?_drop,List.getElem?_eq_getElem h]
theorem Ev8{p:Nat}{o:List Int}{t:Int}(ho:dig 1000000000 o)(t0:0<=t)(t1:t<1000000000)(hb:o.length<=1073741824):∀(r i k:Nat) (c bo:Int) (l:List Int),i+r=o.length+1->r<k->0<=c->c<1000000000->(r=0->c=0)->(bo=0\/bo=1)->dig 1000000000 l->p+o.length<l.length->
 ∃l' bo',O9 p o t k c bo (i:Int) l=some (decide (bo'>0),l')/\dig 1000000000 l'/\l'.length=l.length/\l'.take p=l.take p/\l'.drop (p+o.length+1)=l.drop (p+o.length+1)/\(bo'=0\/bo'=1)/\val 1000000000 l'=val 1000000000 l-(t*val 1000000000 (o.drop i)+c+bo)*1000000000^(p+i)+bo'*1000000000^(p+o.length+1)
 |0,i,0,_,_,_,_,h,_,_,_,_,_,_=>absurd h (by omega)
 |r+1,i,0,_,_,_,_,h,_,_,_,_,_,_=>absurd h (by omega)
 |0,i,k+1,c,bo,l,hi,_,c0,c1,hc,hbo,hd,hl=>by
  unfold O9;rw[List.length_map,E7 (i:=(o.length:Int)+1) (by omega) (by omega),dF_ (by omega)];simp only[cond_false];refine⟨l,bo,rfl,hd,rfl,rfl,rfl,hbo,?_⟩;rw[O4 (by omega:o.length<=i),hc rfl,show p+i=p+o.length+1 by omega];simp
 |r+1,i,k+1,c,bo,l,hi,hk,c0,c1,hc,hbo,hd,hl=>by
  have hb0:0<=bo/\bo<=1:=by omega
  obtain⟨x0,x1⟩:=Ar4 hd (show p+i<l.length by omega);have hset:∀z:Int,(l.set (0+p+i) z)=l.set (p+i) z:=fun z=>by rw[Nat.zero_add]
  --one step:the Gn8 y of the product,the next carry
  have step:∀(N Y c':Int),0<=N->N/1000000000<1000000000->(r=0->N/1000000000=0)->c'=N/1000000000->t*val 1000000000 (o.drop i)+c=N+1000000000*(t*val 1000000000 (o.drop (i+1)))->Y=N%1000000000->
   ∃l' bo',(bif decide (l[p+i]-Y-bo<0) then Option.bind (some (l.set (p+i) (l[p+i]-Y-bo+1000000000))) (fun l11=>O9 p o t k c' 1 ((i+1:Nat):Int) l11) else Option.bind (some (l.set (p+i) (l[p+i]-Y-bo))) (fun l12=>O9 p o t k c' 0 ((i+1:Nat):Int) l12))=some (decide (bo'>0),l')/\dig 1000000000 l'/\l'.length=l.length/\l'.take p=l.take p/\l'.drop (p+o.length+1)=l.drop (p+o.length+1)/\(bo'=0\/bo'=1)/\val 1000000000 l'=val 1000000000 l-(t*val 1000000000 (o.drop i)+c+bo)*1000000000^(p+i)+bo'*1000000000^(p+o.length+1):=by
   intro N Y c' hN hN1 hN2 hc' hv hY;have hq:=Int.emod_add_mul_ediv N 1000000000;have hY0:0<=Y:=by omega
   have hY1:Y<1000000000:=by omega
   have fin:∀(z b1:Int),0<=z->z<1000000000->(b1=0\/b1=1)->z=l[p+i]-Y-bo+1000000000*b1->∃l' bo',Option.bind (some (l.set (p+i) z)) (fun l11=>O9 p o t k c' b1 ((i+1:Nat):Int) l11)=some (decide (bo'>0),l')/\dig 1000000000 l'/\l'.length=l.length/\l'.take p=l.take p/\l'.drop (p+o.length+1)=l.drop (p+o.length+1)/\(bo'=0\/bo'=1)/\val 1000000000 l'=val 1000000000 l-(t*val 1000000000 (o.drop i)+c+bo)*1000000000^(p+i)+bo'*1000000000^(p+o.length+1):=by
    intro z b1 z0 z1 hb1 hz;obtain⟨l',bo',e1,e2,e3,e4,e5,e6,e7⟩:=Ev8 ho t0 t1 hb r (i+1) k c' b1 (l.set (p+i) z) (by omega) (by omega) (by omega) (by omega) (fun h=>by rw[hc'];exact hN2 h) hb1 (Al2 hd _ ⟨z0,z1⟩) (by simpa using hl);refine⟨l',bo',e1,e2,by simpa using e3,by rw[e4,List.take_set_of_le (by omega)],by rw[e5,List.drop_set_of_lt (by omega)],e6,?_⟩;rw[e7,Am4 _ _ (by omega),show p+(i+1)=p+i+1 by omega,Int.pow_succ,hv,hz,hc',hY];generalize N/1000000000=Q at*;generalize N%1000000000=R at*;generalize (1000000000:Int)^(p+i)=X at*;generalize bo'*1000000000^(p+o.length+1)=Z at*;grind
   by_cases hn:l[p+i]-Y-bo<0
   ·rw[dT_ hn];exact fin _ 1 (by omega) (by omega) (.inr rfl) (by omega)
   ·rw[dF_ hn];exact fin _ 0 (by omega) (by omega) (.inl rfl) (by omega)
  unfold O9;rw[List.length_map,E7 (i:=(o.length:Int)+1) (by omega) (by omega),dT_ (by omega)];simp only[cond_true];rw[Ca9 (by omega),wi i (by omega)];simp only[sb];rw[show p+Int.toNat (i:Int)=p+i by omega,E7 (i:=l[p+i]) (by omega) (by omega)];by_cases hio:i<o.length
  ·obtain⟨y0,y1⟩:=Ar4 ho hio;obtain⟨p1,p2⟩:=Cc4 t0 t1 y0 y1;rw[dT_ (by omega),C7 hio];simp only[cond_true,sb];rw[O1 (i:=o[i]) (by omega) (by omega),O1 (i:=t*o[i]) (by omega) (by omega),O1 (i:=c+t*o[i]) (by omega) (by omega),(tdm (show 0<=c+t*o[i] by omega)).1,(tdm (show 0<=c+t*o[i] by omega)).2,O1 (i:=(c+t*o[i])/1000000000) (by omega) (by omega),E7 (i:=(c+t*o[i])%1000000000) (by omega) (by omega),E7 (i:=l[p+i]-(c+t*o[i])%1000000000) (by omega) (by omega),E7 (i:=l[p+i]-(c+t*o[i])%1000000000-bo) (by omega) (by omega)];have hx:∀z:Int,-9223372036854775808<=z->z<9223372036854775808->i64.wrap z=z:=fun z h h'=>E7 h h'
   have hstep:=step (c+t*o[i]) _ _ (by omega) (by omega) (fun h=>by omega) rfl (by rw[Ah5 hio,Int.mul_add];grind) rfl;by_cases hn:l[p+i]-(c+t*o[i])%1000000000-bo<0
   ·rw[dT_ hn]at hstep⊢;simp only[cond_true]at hstep⊢;rw[E7 (by omega) (by omega),Ar5 (by omega) (by omega)];exact hstep
   ·rw[dF_ hn]at hstep⊢;simp only[cond_false]at hstep⊢;rw[Ar5 (by omega) (by omega)];exact hstep
  ·rw[dF_ (by omega)];simp only[cond_false];rw[(tdm c0).1,(tdm c0).2,O1 (i:=c/1000000000) (by omega) (by omega),E7 (i:=c%1000000000) (by omega) (by omega),E7 (i:=l[p+i]-c%1000000000) (by omega) (by omega),E7 (i:=l[p+i]-c%1000000000-bo) (by omega) (by omega)];have hstep:=step c _ _ (by omega) (by omega) (fun h=>by omega) rfl (by rw[O4 (by omega:o.length<=i),O4 (by omega:o.length<=i+1)];omega) rfl;by_cases hn:l[p+i]-c%1000000000-bo<0
   ·rw[dT_ hn]at hstep⊢;simp only[cond_true]at hstep⊢;rw[E7 (by omega) (by omega),Ar5 (by omega) (by omega)];exact hstep
   ·rw[dF_ hn]at hstep⊢;simp only[cond_false]at hstep⊢;rw[Ar5 (by omega) (by omega)];exact hstep
theorem Eu3{p:Nat}{o:List Int}(ho:dig 1000000000 o)(hb:o.length<=1073741824):∀(r i k:Nat) (c:Int) (l:List Int),i+r=o.length+1->r<k->(c=0\/c=1)->dig 1000000000 l->p+o.length<l.length->
 ∃l' c',Z9 p o k c (i:Int) l=some l'/\dig 1000000000 l'/\l'.length=l.length/\l'.take p=l.take p/\l'.drop (p+o.length+1)=l.drop (p+o.length+1)/\(c'=0\/c'=1)/\val 1000000000 l'=val 1000000000 l+(val 1000000000 (o.drop i)+c)*1000000000^(p+i)-c'*1000000000^(p+o.length+1)
 |0,i,0,_,_,_,h,_,_,_=>absurd h (by omega)
 |r+1,i,0,_,_,_,h,_,_,_=>absurd h (by omega)
 |0,i,k+1,c,l,hi,_,hc,hd,hl=>by
  unfold Z9;rw[List.length_map,E7 (i:=(o.length:Int)+1) (by omega) (by omega),dF_ (by omega)];simp only[cond_false];refine⟨l,c,rfl,hd,rfl,rfl,rfl,hc,?_⟩;rw[O4 (by omega:o.length<=i),show p+i=p+o.length+1 by omega,Int.zero_add];omega
 |r+1,i,k+1,c,l,hi,hk,hc,hd,hl=>by
  obtain⟨x0,x1⟩:=Ar4 hd (show p+i<l.length by omega);have step:∀(y:Int),0<=y->y<1000000000->val 1000000000 (o.drop i)=y+1000000000*val 1000000000 (o.drop (i+1))->
   ∃l' c',Z9 p o k ((l[p+i]+c+y)/1000000000) ((i+1:Nat):Int) (l.set (p+i) ((l[p+i]+c+y)%1000000000))=some l'/\dig 1000000000 l'/\l'.length=l.length/\l'.take p=l.take p/\l'.drop (p+o.length+1)=l.drop (p+o.length+1)/\(c'=0\/c'=1)/\val 1000000000 l'=val 1000000000 l+(val 1000000000 (o.drop i)+c)*1000000000^(p+i)-c'*1000000000^(p+o.length+1):=by
   intro y y0 y1 hv;obtain⟨l',c',e1,e2,e3,e4,e5,e6,e7⟩:=Eu3 ho hb r (i+1) k ((l[p+i]+c+y)/1000000000) (l.set (p+i) ((l[p+i]+c+y)%1000000000)) (by omega) (by omega) (by omega) (Al2 hd _ ⟨by omega,by omega⟩) (by simpa using hl);refine⟨l',c',e1,e2,by simpa using e3,by rw[e4,List.take_set_of_le (by omega)],by rw[e5,List.drop_set_of_lt (by omega)],e6,?_⟩;have hq:=Int.emod_add_mul_ediv (l[p+i]+c+y) 1000000000;rw[e7,Am4 _ _ (by omega),show p+(i+1)=p+i+1 by omega,Int.pow_succ,hv];generalize (l[p+i]+c+y)/1000000000=Q at*;generalize (l[p+i]+c+y)%1000000000=R at*;generalize (1000000000:Int)^(p+i)=X at*;generalize c'*1000000000^(p+o.length+1)=Z at*;grind
  unfold Z9;rw[List.length_map,E7 (i:=(o.length:Int)+1) (by omega) (by omega),dT_ (by omega)];simp only[cond_true];rw[Ca9 (by omega),wi i (by omega)];simp only[sb];rw[show p+Int.toNat (i:Int)=p+i by omega,Ar5 (i:=l[p+i]+c) (by omega) (by omega)];by_cases hio:i<o.length
  ·obtain⟨y0,y1⟩:=Ar4 ho hio;rw[dT_ (by omega),C7 hio];simp only[cond_true,sb];rw[Ar5 (i:=l[p+i]+c+o[i]) (by omega) (by omega),(tdm (show 0<=l[p+i]+c+o[i] by omega)).1,(tdm (show 0<=l[p+i]+c+o[i] by omega)).2,Ar5 (by omega) (by omega)];exact step _ y0 y1 (Ah5 hio)
  ·rw[dF_ (by omega)];simp only[cond_false];rw[(tdm (show 0<=l[p+i]+c by omega)).1,(tdm (show 0<=l[p+i]+c by omega)).2,Ar5 (by omega) (by omega)];have:=step 0 (by omega) (by omega) (by rw[O4 (by omega:o.length<=i),O4 (by omega:o.length<=i+1)];rfl);rw[Int.add_zero]at this;exact this
theorem Fm2{fuel p:Nat}{o l:List Int}{t:Int}(ho:dig 1000000000 o)(t0:0<=t)(t1:t<1000000000)(hb:o.length<=1073741824)(hd:dig 1000000000 l)(hl:p+o.length<l.length)(hf:o.length+1<fuel):
 ∃l' bo',Fr4 fuel p o t l=some (decide (bo'>0),l')/\dig 1000000000 l'/\l'.length=l.length/\l'.take p=l.take p/\l'.drop (p+o.length+1)=l.drop (p+o.length+1)/\(bo'=0\/bo'=1)/\val 1000000000 l'=val 1000000000 l-t*val 1000000000 o*1000000000^p+bo'*1000000000^(p+o.length+1):=by
 have:=Ev8 ho t0 t1 hb (o.length+1) 0 fuel 0 0 l (by omega) hf (by omega) (by omega) (fun _=>rfl) (.inl rfl) hd hl;rw[List.drop_zero]at this;unfold Fr4;simpa using this
theorem Fl4{fuel p:Nat}{o l:List Int}(ho:dig 1000000000 o)(hb:o.length<=1073741824)(hd:dig 1000000000 l)(hl:p+o.length<l.length)(hf:o.length+1<fuel):
 ∃l' c',Fw1 fuel p o l=some l'/\dig 1000000000 l'/\l'.length=l.length/\l'.take p=l.take p/\l'.drop (p+o.length+1)=l.drop (p+o.length+1)/\(c'=0\/c'=1)/\val 1000000000 l'=val 1000000000 l+val 1000000000 o*1000000000^p-c'*1000000000^(p+o.length+1):=by
 have:=Eu3 ho hb (o.length+1) 0 fuel 0 l (by omega) hf (.inl rfl) hd hl;rw[List.drop_zero]at this;unfold Fw1;simpa using this
end
section
theorem El4{A b T3 al bl X g h:Int}(hA:A=T3*X+al)(hb:b=h*X+bl)(hX:0<X)(al0:0<=al)(_:al<X)(bl0:0<=bl)(bl1:bl<X)(g0:0<=g)(g1:g<1000000000)(hh:1000000000<=h)(he:g*h<=T3):g<=A/b+1:=by
 have hb0:0<b:=by
  have:=Int.mul_le_mul_of_nonneg_right (show 1<=h by omega) (Int.le_of_lt hX);omega
 have h1:(g-1)*b<=A:=by
  have e1:=Int.mul_le_mul_of_nonneg_right he (Int.le_of_lt hX);have e2:=Int.mul_le_mul_of_nonneg_left (Int.le_of_lt bl1) g0;have e3:=Int.mul_le_mul_of_nonneg_right (show g<=h by omega) (Int.le_of_lt hX);have e4:(g-1)*b=g*h*X+g*bl-b:=by rw[hb];grind
  omega
 have:=Int.le_ediv_of_mul_le hb0 h1;omega
theorem El5{A b T3 al bl X g h:Int}(hA:A=T3*X+al)(hb:b=h*X+bl)(hX:0<X)(al1:al<X)(bl0:0<=bl)(g0:0<=g)(hb0:0<b)(he:T3<g*h):A/b<g:=by
 have h1:A<g*b:=by
  have e1:=Int.mul_le_mul_of_nonneg_right (show T3+1<=g*h by omega) (Int.le_of_lt hX);have e2:=Int.mul_nonneg g0 bl0;have e3:g*b=g*h*X+g*bl:=by rw[hb];grind
  have e4:(T3+1)*X=T3*X+X:=by grind
  omega
 exact Int.ediv_lt_of_lt_mul hb0 h1
theorem Bd9{A b top al2 Y b1:Int}(hA:A=top*Y+al2)(al1:al2<Y)(hY:0<Y)(hb:b1*Y<=b)(hb1:0<b1)(hA0:0<=A):A/b<=top/b1:=by
 have hb0:0<b:=by
  have:=Int.mul_le_mul_of_nonneg_right (show 1<=b1 by omega) (Int.le_of_lt hY);omega
 have hq:=Int.ediv_mul_le A (show b≠0 by omega);have hq0:0<=A/b:=Int.ediv_nonneg hA0 (by omega);generalize A/b=Q at*;refine Int.le_ediv_of_mul_le hb1 ?_;have e1:=Int.mul_le_mul_of_nonneg_left hb hq0;have e2:Q*(b1*Y)=Q*b1*Y:=by grind
 by_cases h:Q*b1<=top
 ·exact h
 ·exfalso;have e3:=Int.mul_le_mul_of_nonneg_right (show top+1<=Q*b1 by omega) (Int.le_of_lt hY);have e4:(top+1)*Y=top*Y+Y:=by grind
  omega
theorem Ar1(l:List Int)(i:Nat)(h:i<=l.length):val 1000000000 l=val 1000000000 (l.take i)+1000000000^i*val 1000000000 (l.drop i):=U8 l i h
theorem vlt{l:List Int}(h:dig 1000000000 l):val 1000000000 l<1000000000^l.length:=Ar2 (by decide) h
theorem vnn{l:List Int}(h:dig 1000000000 l):0<=val 1000000000 l:=M5 (by decide) h
theorem p9(n:Nat):(0:Int)<1000000000^n:=R8 (by decide) n
theorem vtl{l:List Int}(h:dig 1000000000 l)(i:Nat)(hi:i<=l.length):val 1000000000 (l.take i)<1000000000^i:=by
 have:=vlt (F9 h i)
 rwa [List.length_take,Nat.min_eq_left hi]at this
theorem Bv1{l:List Int}(h:dig 1000000000 l){n:Nat}(hn:n<=l.length)(hv:val 1000000000 l<1000000000^n):val 1000000000 (l.drop n)=0:=by
 rw[Ar1 l n hn]at hv;have h1:=vnn (F9 h n);have h2:=vnn (L8 h n);by_cases h0:val 1000000000 (l.drop n)=0
 ·exact h0
 ·exfalso;have:=Int.mul_le_mul_of_nonneg_left (show 1<=val 1000000000 (l.drop n) by omega) (Int.le_of_lt (p9 n));omega
theorem Gh2{al bl:List Int}{i:Nat}(ha:dig 1000000000 al)(hb:dig 1000000000 bl)(hn:2<=bl.length)(hi:i+bl.length<al.length)(hA:val 1000000000 (al.drop (i+1))<val 1000000000 bl):
 ∃X lo lob:Int,0<X/\0<=lo/\lo<X/\0<=lob/\lob<X/\val 1000000000 bl=(bl[bl.length-1]*1000000000+bl[bl.length-2])*X+lob/\
  val 1000000000 (al.drop i)=((al[i+bl.length]*1000000000+al[i+bl.length-1])*1000000000+al[i+bl.length-2])*X+lo/\
  val 1000000000 (al.drop (i+bl.length+1))=0/\val 1000000000 (al.drop i)<val 1000000000 bl*1000000000:=by
 have hz:val 1000000000 (al.drop (i+bl.length+1))=0:=by
  have:=Bv1 (L8 ha (i+1)) (n:=bl.length) (by rw[List.length_drop];omega) (Int.lt_trans hA (vlt hb))
  rwa [List.drop_drop,show i+1+bl.length=i+bl.length+1 by omega]at this
 refine⟨1000000000^(bl.length-2),val 1000000000 ((al.drop i).take (bl.length-2)),val 1000000000 (bl.take (bl.length-2)),p9 _,vnn (F9 (L8 ha i) _),vtl (L8 ha i) _ (by rw[List.length_drop];omega),vnn (F9 hb _),vtl hb _ (by omega),?_,?_,hz,?_⟩
 ·have e1:=Ar1 bl (bl.length-2) (by omega);have e2:=Ah5 (l:=bl) (i:=bl.length-2) (by omega);have e3:=Ah5 (l:=bl) (i:=bl.length-2+1) (by omega);have e4:=O4 (l:=bl) (i:=bl.length-2+1+1) (by omega);have e5:bl[bl.length-2+1]=bl[bl.length-1]:=by congr 1;omega
  rw[e5]at e3;rw[e1,e2,e3,e4];generalize (1000000000:Int)^(bl.length-2)=X;grind
 ·have e1:=Ar1 (al.drop i) (bl.length-2) (by rw[List.length_drop];omega);rw[List.drop_drop]at e1;have e2:=Ah5 (l:=al) (i:=i+(bl.length-2)) (by omega);have e3:=Ah5 (l:=al) (i:=i+(bl.length-2)+1) (by omega);have e4:=Ah5 (l:=al) (i:=i+(bl.length-2)+1+1) (by omega);have e5:al[i+(bl.length-2)]=al[i+bl.length-2]:=by congr 1;omega
  have e6:al[i+(bl.length-2)+1]=al[i+bl.length-1]:=by congr 1;omega
  have e7:al[i+(bl.length-2)+1+1]=al[i+bl.length]:=by congr 1;omega
  rw[show i+(bl.length-2)+1+1+1=i+bl.length+1 by omega,hz,e7]at e4;rw[e6]at e3;rw[e5]at e2;rw[e1,e2,e3,e4];generalize (1000000000:Int)^(bl.length-2)=X;grind
 ·have e1:=Ah5 (l:=al) (i:=i) (by omega);have e2:=(Ar4 ha (show i<al.length by omega)).2;rw[e1];omega
theorem Fp3{α:Type}{l:List α}{n:Nat}(h:n<=l.length):slc l 0 (n:Int)=some (l.take n):=by
 unfold slc;simp only[Int.le_refl,decide_true,Bool.true_and,dT_ (Int.natCast_nonneg n),dT_ (show(n:Int)<=(l.length:Int) by omega),cond_true];simp
set_option maxHeartbeats 4000000 in
theorem Gn8{fuel:Nat}{bl ql:List Int}{rec_:Int->List Int->List Int->Option (List Int×List Int)}{al:List Int}{i:Nat}(hf:bl.length+1<fuel)(ha:dig 1000000000 al)(hb:dig 1000000000 bl)(hn:2<=bl.length)(hi:i+bl.length<al.length)(hlen:al.length<=1073741824)(hq:i<ql.length)(hA:val 1000000000 (al.drop (i+1))<val 1000000000 bl)(hb1:0<bl[bl.length-1]):
 ∃al',dig 1000000000 al'/\al'.length=al.length/\val 1000000000 al'=val 1000000000 al-val 1000000000 (al.drop i)/val 1000000000 bl*val 1000000000 bl*1000000000^i/\val 1000000000 (al'.drop i)<val 1000000000 bl/\
  ∀(k:Nat) (g:Int),0<=g->g.toNat<k->g<1000000000->g*bl[bl.length-1]<=al[i+bl.length]*1000000000+al[i+bl.length-1]->val 1000000000 (al.drop i)/val 1000000000 bl<=g->
   As6 fuel bl ql al (i:Int) al[i+bl.length] al[i+bl.length-1] rec_ k g=rec_ ((i:Int)-1) (ql.set i (val 1000000000 (al.drop i)/val 1000000000 bl)) al':=by
 obtain⟨X,lo,lob,hX,lo0,lo1,lb0,lb1,eb,eA,ez,hAB⟩:=Gh2 ha hb hn hi hA;obtain⟨t0,t1⟩:=Ar4 ha hi;obtain⟨s0,s1⟩:=Ar4 ha (show i+bl.length-1<al.length by omega);obtain⟨u0,u1⟩:=Ar4 ha (show i+bl.length-2<al.length by omega);obtain⟨b0,b1⟩:=Ar4 hb (show bl.length-2<bl.length by omega);obtain⟨c0,c1⟩:=Ar4 hb (show bl.length-1<bl.length by omega);have hbp:0<val 1000000000 bl:=by
  have:=Int.mul_le_mul_of_nonneg_right (show 1<=bl[bl.length-1]*1000000000+bl[bl.length-2] by omega) (Int.le_of_lt hX);omega
 have hA0:=vnn (L8 ha i);have hQ0:0<=val 1000000000 (al.drop i)/val 1000000000 bl:=Int.ediv_nonneg hA0 (by omega);have hQ1:val 1000000000 (al.drop i)/val 1000000000 bl<1000000000:=Int.ediv_lt_of_lt_mul hbp (by rw[Int.mul_comm];exact hAB);have hqr:=Int.emod_add_mul_ediv (val 1000000000 (al.drop i)) (val 1000000000 bl);have hr0:=Int.emod_nonneg (val 1000000000 (al.drop i)) (show val 1000000000 bl≠0 by omega);have hr1:=Int.emod_lt_of_pos (val 1000000000 (al.drop i)) hbp;have hW:val 1000000000 (al.drop i)<1000000000^(bl.length+1):=by
  have:=Int.mul_le_mul_of_nonneg_right (Int.le_of_lt (vlt hb)) (show(0:Int)<=1000000000 by decide);rw[Int.pow_succ];omega
 have hbl:val 1000000000 bl<1000000000^(bl.length+1):=by
  have:=vlt hb;have:=p9 bl.length;rw[Int.pow_succ];omega
 --the window's value
 have win:∀l:List Int,dig 1000000000 l->l.length=al.length->l.take i=al.take i->l.drop (i+bl.length+1)=al.drop (i+bl.length+1)->val 1000000000 l=val 1000000000 (al.take i)+1000000000^i*val 1000000000 (l.drop i)/\0<=val 1000000000 (l.drop i)/\val 1000000000 (l.drop i)<1000000000^(bl.length+1):=by
  intro l hd hl h1 h2;refine⟨by rw[<-h1];exact Ar1 l i (by omega),vnn (L8 hd i),?_⟩;rw[Ar1 (l.drop i) (bl.length+1) (by rw[List.length_drop];omega),List.drop_drop,show i+(bl.length+1)=i+bl.length+1 by omega,h2,ez];have:=vtl (L8 hd i) (bl.length+1) (by rw[List.length_drop];omega);omega
 have canc:∀{x y:Int},1000000000^i*x=1000000000^i*y->x=y:=fun{x y} h=>Int.eq_of_mul_eq_mul_left (show(1000000000:Int)^i≠0 by have:=p9 i;omega) h
 have hal:=(win al ha rfl rfl rfl).1;have epow:(1000000000:Int)^(i+bl.length+1)=1000000000^i*1000000000^(bl.length+1):=by rw[Nat.add_assoc,Int.pow_add]
 --what losing g times comes to
 have lose1:∀g:Int,0<=g->g<1000000000->∃l' bo',Fr4 fuel i bl g al=some (decide (bo'>0),l')/\dig 1000000000 l'/\l'.length=al.length/\l'.take i=al.take i/\l'.drop (i+bl.length+1)=al.drop (i+bl.length+1)/\(bo'=0\/bo'=1)/\val 1000000000 (l'.drop i)=val 1000000000 (al.drop i)-g*val 1000000000 bl+bo'*1000000000^(bl.length+1):=by
  intro g g0 g1;obtain⟨l',bo',e1,e2,e3,e4,e5,e6,e7⟩:=Fm2 (p:=i) hb g0 g1 (by omega) ha hi hf;refine⟨l',bo',e1,e2,e3,e4,e5,e6,canc ?_⟩;have:=(win l' e2 e3 e4 e5).1;rw[epow]at e7;generalize (1000000000:Int)^(bl.length+1)=Y at*;generalize (1000000000:Int)^i=Z at*;grind
 --what is right with the true Gn8
 obtain⟨l1,bo1,e1,e2,e3,e4,e5,e6,e7⟩:=lose1 _ hQ0 hQ1;have hbo1:bo1=0:=by
  rcases e6 with h|h
  ·exact h
  ·exfalso;have:=(win l1 e2 e3 e4 e5).2.2;rw[e7,h,Int.mul_comm _ (val 1000000000 bl)]at this;omega
 have hl1:val 1000000000 (l1.drop i)=val 1000000000 (al.drop i)%val 1000000000 bl:=by
  rw[e7,hbo1,Int.mul_comm _ (val 1000000000 bl)];omega
 have uniq:∀l:List Int,dig 1000000000 l->l.length=al.length->l.take i=al.take i->l.drop (i+bl.length+1)=al.drop (i+bl.length+1)->val 1000000000 (l.drop i)=val 1000000000 (l1.drop i)->l=l1:=by
  intro l hd hl h1 h2 h3;have:∀(x y:List Int),dig 1000000000 x->dig 1000000000 y->x.length=y.length->val 1000000000 x=val 1000000000 y->x=y:=by
   intro x
   induction x with
   |nil=>intro y _ _ hl _;cases y with|nil=>rfl|cons _ _=>simp at hl
   |cons a x ih=>
    intro y hx hy hl hv;cases y with
    |nil=>simp at hl
    |cons b y=>
     have hx:=E3.1 hx;have hy:=E3.1 hy;rw[Cf7,Cf7]at hv;have e1:a=b:=by omega
     have e2:val 1000000000 x=val 1000000000 y:=by omega
     rw[e1,ih y hx.2 hy.2 (by simpa using hl) e2]
  refine this l l1 hd e2 (by omega) ?_;rw[(win l hd hl h1 h2).1,(win l1 e2 e3 e4 e5).1,h3]
 refine⟨l1,e2,e3,?_,by rw[hl1];exact hr1,?_⟩
 ·have:=(win l1 e2 e3 e4 e5).1;rw[this,hal,e7,hbo1];generalize val 1000000000 (al.drop i)/val 1000000000 bl*val 1000000000 bl=Q;generalize (1000000000:Int)^i=Z;grind
 intro k
 induction k with
 |zero=>intro g _ h;omega
 |succ k ih=>
  intro g g0 gk g1 hg1 hgQ;unfold As6;have hT:=Cc4 g0 g1 c0 c1;have hU:=Cc4 g0 g1 b0 b1;rw[List.length_map];rw[E7 (i:=(bl.length:Int)-2) (by omega) (by omega),E7 (i:=(bl.length:Int)-1) (by omega) (by omega),E7 (i:=(i:Int)+(bl.length:Int)) (by omega) (by omega),E7 (i:=(i:Int)+(bl.length:Int)-2) (by omega) (by omega)];rw[show(bl.length:Int)-2=((bl.length-2:Nat):Int) by omega,show(bl.length:Int)-1=((bl.length-1:Nat):Int) by omega,show(i:Int)+(bl.length:Int)-2=((i+bl.length-2:Nat):Int) by omega,C7 (l:=bl) (show bl.length-2<bl.length by omega),C7 (l:=bl) (show bl.length-1<bl.length by omega),C7 (l:=al) (show i+bl.length-2<al.length by omega)];simp only[sb];rw[O1 (i:=bl[bl.length-2]) (by omega) (by omega),O1 (i:=bl[bl.length-1]) (by omega) (by omega),O1 (i:=al[i+bl.length]) (by omega) (by omega),O1 (i:=al[i+bl.length-1]) (by omega) (by omega),O1 (i:=al[i+bl.length-2]) (by omega) (by omega),O1 (i:=g*bl[bl.length-2]) (by omega) (by omega),O1 (i:=g*bl[bl.length-1]) (by omega) (by omega),O1 (i:=al[i+bl.length]*1000000000) (by omega) (by omega),O1 (i:=al[i+bl.length]*1000000000+al[i+bl.length-1]) (by omega) (by omega),O1 (i:=al[i+bl.length]*1000000000+al[i+bl.length-1]-g*bl[bl.length-1]) (by omega) (by omega)]
  --the three upmost limbs
  have hcond:∀w:Int,(al[i+bl.length]*1000000000+al[i+bl.length-1]-g*bl[bl.length-1]<1000000000->w=(al[i+bl.length]*1000000000+al[i+bl.length-1]-g*bl[bl.length-1])*1000000000+al[i+bl.length-2])->
   (bif decide (g*bl[bl.length-2]>w) then some (decide (al[i+bl.length]*1000000000+al[i+bl.length-1]-g*bl[bl.length-1]<1000000000)) else some false)=some (decide (¬g*(bl[bl.length-1]*1000000000+bl[bl.length-2])<=(al[i+bl.length]*1000000000+al[i+bl.length-1])*1000000000+al[i+bl.length-2])):=by
   intro w hw;have em:g*(bl[bl.length-1]*1000000000+bl[bl.length-2])=g*bl[bl.length-1]*1000000000+g*bl[bl.length-2]:=by grind
   rw[em];by_cases hs:al[i+bl.length]*1000000000+al[i+bl.length-1]-g*bl[bl.length-1]<1000000000
   ·rw[hw hs,dT_ hs];by_cases hc:g*bl[bl.length-2]>(al[i+bl.length]*1000000000+al[i+bl.length-1]-g*bl[bl.length-1])*1000000000+al[i+bl.length-2]
    ·rw[dT_ hc,dT_ (by omega)];rfl
    ·rw[dF_ hc,dF_ (by omega)];rfl
   ·rw[dF_ hs,dF_ (show¬¬(g*bl[bl.length-1]*1000000000+g*bl[bl.length-2]<=(al[i+bl.length]*1000000000+al[i+bl.length-1])*1000000000+al[i+bl.length-2]) by omega)];cases decide (g*bl[bl.length-2]>w)<;>rfl
  rw[hcond _ (fun hs=>by rw[O1 (i:=(al[i+bl.length]*1000000000+al[i+bl.length-1]-g*bl[bl.length-1])*1000000000) (by omega) (by omega),O1 (by omega) (by omega)])];simp only[sb];by_cases hd:g*(bl[bl.length-1]*1000000000+bl[bl.length-2])<=(al[i+bl.length]*1000000000+al[i+bl.length-1])*1000000000+al[i+bl.length-2]
  ·rw[dF_ (by simpa using hd)];simp only[cond_false];have hle:=El4 eA eb hX lo0 lo1 lb0 lb1 g0 g1 (by omega) hd;rw[E1 (by simp;omega)];rw[show 0+Int.toNat (i:Int)=i by omega];have hqg:C6 ql (i:Int)=some ql[i]:=C7 hq;by_cases hgq:g=val 1000000000 (al.drop i)/val 1000000000 bl
   ·rw[hgq,e1,sb];dsimp only;rw[hbo1];simp only[show decide ((0:Int)>0)=false from rfl,cond_false];simp only[hqg,sb];rw[Ar5 (by omega) (by omega),wip i (by omega)]
   ·have hgq1:g=val 1000000000 (al.drop i)/val 1000000000 bl+1:=by omega
    obtain⟨l2,bo2,f1,f2,f3,f4,f5,f6,f7⟩:=lose1 g g0 g1;have hmul:g*val 1000000000 bl=val 1000000000 bl*(val 1000000000 (al.drop i)/val 1000000000 bl)+val 1000000000 bl:=by
     rw[hgq1];generalize val 1000000000 (al.drop i)/val 1000000000 bl=Q;grind
    have hbo2:bo2=1:=by
     rcases f6 with h|h
     ·exfalso;have:=(win l2 f2 f3 f4 f5).2.1;rw[f7,h,hmul]at this;omega
     ·exact h
    rw[f1,sb];dsimp only;rw[hbo2];simp only[show decide ((1:Int)>0)=true from rfl,cond_true];rw[E1 (by simp;omega)];obtain⟨l3,c3,g1',g2,g3,g4,g5,g6,g7⟩:=Fl4 (fuel:=fuel) (p:=i) hb (by omega) f2 (by omega) hf;have hl3:l3=l1:=by
     refine uniq l3 g2 (by omega) (by rw[g4,f4]) (by rw[g5,f5]) ?_;have h3:=win l3 g2 (by omega) (by rw[g4,f4]) (by rw[g5,f5]);have h2:=win l2 f2 f3 f4 f5;have hv:val 1000000000 (l3.drop i)=val 1000000000 (l2.drop i)+val 1000000000 bl-c3*1000000000^(bl.length+1):=by
      refine canc ?_;have h3':=h3.1;have h2':=h2.1;rw[epow]at g7;generalize (1000000000:Int)^(bl.length+1)=Y at*;generalize (1000000000:Int)^i=Z at*;grind
     rw[hl1];rw[f7,hbo2,hmul]at hv;rcases g6 with h|h<;>rw[h]at hv<;>omega
    simp only[g1',sb,hl3,hqg];rw[O1 (i:=g-1) (by omega) (by omega),Ar5 (i:=g-1) (by omega) (by omega),wip i (by omega),hgq1,show val 1000000000 (al.drop i)/val 1000000000 bl+1-1=val 1000000000 (al.drop i)/val 1000000000 bl by omega]
  ·rw[dT_ hd];simp only[cond_true];have hlt:=El5 eA eb hX lo1 lb0 g0 hbp (show _<g*_ by omega);have hm:(g-1)*bl[bl.length-1]=g*bl[bl.length-1]-bl[bl.length-1]:=by grind
   rw[O1 (i:=g-1) (by omega) (by omega)];exact ih (g-1) (by omega) (by omega) (by omega) (by omega) (by omega)
end
end Go.Proofs.YtdlnalepibeibaaGreatDoor
end
section
namespace Go.Proofs.YtdlnalepibeibaaGreatDoor
open Go Go.RowKit Kx Go.IntKind
set_option maxRecDepth 100000
set_option maxHeartbeats 4000000 in
section
theorem Et2{fuel:Nat}{bl:List Int}{y4 V u:Int}(hb:dig 1000000000 bl)(hn:2<=bl.length)(hb1:0<bl[bl.length-1])(hy0:0<=y4)(hy1:y4<1000000000)(hu:u=1000000000/(y4+1))(hu0:0<u)(hu1:u<1000000000):
 ∀(m k:Nat) (ql al:List Int),m<k->al.length+1000000000<fuel->dig 1000000000 al->dig 1000000000 ql->al.length<=1073741824->m+bl.length<=al.length->ql.length<=1073741824->m<=ql.length->ql.take m=List.replicate m 0->val 1000000000 (al.drop m)<val 1000000000 bl->val 1000000000 bl*val 1000000000 ql+val 1000000000 al=V->
 ∃q r,Z6 fuel bl y4 k ((m:Int)-1) ql al=some (q,r)/\dig 1000000000 q/\dig 1000000000 r/\q.length=ql.length/\r.length<=al.length/\val 1000000000 q=V/val 1000000000 bl/\val 1000000000 r=V%val 1000000000 bl/u
 |0,0,_,_,h,_,_,_,_,_,_,_,_,_,_=>absurd h (by omega)
 |m+1,0,_,_,h,_,_,_,_,_,_,_,_,_,_=>absurd h (by omega)
 |0,k+1,ql,al,_,hf,ha,hq,hal,hl,hql,_,_,hA,hV=>by
  rw[List.drop_zero]at hA;unfold Z6;rw[dF_ (by omega)];simp only[cond_false];rw[List.length_map,Fp3 (by omega),sb];have hz:=Bv1 ha (n:=bl.length) (by omega) (Int.lt_trans hA (vlt hb));have hv:val 1000000000 (al.take bl.length)=val 1000000000 al:=by rw[Ar1 al bl.length (by omega),hz];omega
  have hv0:=vnn ha;rw[N8 (F9 ha _) (by rw[List.length_take];omega) (by rw[List.length_take];omega),sb,hv,Gq2 hv0];dsimp only;rw[O1 (i:=y4) (by omega) (by omega),O1 (i:=y4+1) (by omega) (by omega),(tdm (show(0:Int)<=1000000000 by decide)).1,<-hu,O1 (by omega) (by omega),Ar5 (by omega) (by omega)];have hlen:(dg 1000000000 (val 1000000000 al)).length<=al.length:=G8 hB1 (vlt ha);obtain⟨q,e1,e2,e3,e4⟩:=Cz7 (fuel:=fuel) (H6 hB1 _ hv0) (by omega) hu0 hu1 (by omega);rw[e1,sb];have hpos:0<val 1000000000 bl:=by omega
  have d1:V/val 1000000000 bl=val 1000000000 ql:=by rw[<-hV,Int.mul_add_ediv_left _ _ (by omega),Int.ediv_eq_zero_of_lt hv0 hA];omega
  have d2:V%val 1000000000 bl=val 1000000000 al:=by rw[<-hV,Int.mul_add_emod_self_left];exact Int.emod_eq_of_lt hv0 hA
  exact⟨ql,q,rfl,hq,e2,rfl,by omega,d1.symm,by rw[e4,I9 hB1 _ hv0,d2]⟩
 |m+1,k+1,ql,al,hk,hf,ha,hq,hal,hl,hql,hmq,hz,hA,hV=>by
  unfold Z6;rw[show(((m+1:Nat):Int)-1)=(m:Int) by omega,dT_ (by omega)];simp only[cond_true];obtain⟨al',e1,e2,e3,e4,e5⟩:=Gn8 (fuel:=fuel) (rec_:=Z6 fuel bl y4 k) (ql:=ql) (i:=m) (by omega) ha hb hn (by omega) hal (by omega) hA hb1;obtain⟨t0,t1⟩:=Ar4 ha (show m+bl.length<al.length by omega);obtain⟨s0,s1⟩:=Ar4 ha (show m+bl.length-1<al.length by omega);obtain⟨c0,c1⟩:=Ar4 hb (show bl.length-1<bl.length by omega);obtain⟨X,lo,lob,hX,lo0,lo1,lb0,lb1,eb,eA,ez,hAB⟩:=Gh2 ha hb hn (show m+bl.length<al.length by omega) hA;rw[List.length_map,E7 (i:=(m:Int)+(bl.length:Int)) (by omega) (by omega),E7 (i:=(m:Int)+(bl.length:Int)-1) (by omega) (by omega),E7 (i:=(bl.length:Int)-1) (by omega) (by omega)];rw[show(m:Int)+(bl.length:Int)=((m+bl.length:Nat):Int) by omega,show((m+bl.length:Nat):Int)-1=((m+bl.length-1:Nat):Int) by omega,show(bl.length:Int)-1=((bl.length-1:Nat):Int) by omega,C7 (show m+bl.length<al.length by omega),C7 (show m+bl.length-1<al.length by omega),C7 (show bl.length-1<bl.length by omega)];simp only[sb];have hT0:0<=al[m+bl.length]*1000000000+al[m+bl.length-1]:=by omega
  have hg0:0<=(al[m+bl.length]*1000000000+al[m+bl.length-1])/bl[bl.length-1]:=Int.ediv_nonneg hT0 (by omega);have hg1:(al[m+bl.length]*1000000000+al[m+bl.length-1])/bl[bl.length-1]<=al[m+bl.length]*1000000000+al[m+bl.length-1]:=Int.ediv_le_self _ hT0;rw[O1 (i:=bl[bl.length-1]) (by omega) (by omega),E1 (by simp;omega),O1 (i:=al[m+bl.length]) (by omega) (by omega),O1 (i:=al[m+bl.length-1]) (by omega) (by omega),O1 (i:=al[m+bl.length]*1000000000) (by omega) (by omega),O1 (i:=al[m+bl.length]*1000000000+al[m+bl.length-1]) (by omega) (by omega),(tdm hT0).1,O1 hg0 (by omega)];have hbp:0<val 1000000000 bl:=by
   have:=Int.mul_le_mul_of_nonneg_right (show 1<=bl[bl.length-1]*1000000000+bl[bl.length-2] by have:=(Ar4 hb (show bl.length-2<bl.length by omega)).1;omega) (Int.le_of_lt hX);omega
  have hA0:=vnn (L8 ha m);have hQ0:0<=val 1000000000 (al.drop m)/val 1000000000 bl:=Int.ediv_nonneg hA0 (by omega);have hQ1:val 1000000000 (al.drop m)/val 1000000000 bl<1000000000:=Int.ediv_lt_of_lt_mul hbp (by rw[Int.mul_comm];exact hAB);have hfirst:val 1000000000 (al.drop m)/val 1000000000 bl<=(al[m+bl.length]*1000000000+al[m+bl.length-1])/bl[bl.length-1]:=by
   refine Bd9 (al2:=al[m+bl.length-2]*X+lo) (Y:=1000000000*X) ?_ ?_ (by omega) ?_ (by omega) hA0
   ·rw[eA];grind
   ·have:=Int.mul_le_mul_of_nonneg_right (show al[m+bl.length-2]<=999999999 by have:=(Ar4 ha (show m+bl.length-2<al.length by omega)).2;omega) (Int.le_of_lt hX);omega
   ·rw[eb];have:=Int.mul_nonneg (Ar4 hb (show bl.length-2<bl.length by omega)).1 (Int.le_of_lt hX);have e:(bl[bl.length-1]*1000000000+bl[bl.length-2])*X=bl[bl.length-1]*(1000000000*X)+bl[bl.length-2]*X:=by grind
    omega
  have hmul:=Int.ediv_mul_le (al[m+bl.length]*1000000000+al[m+bl.length-1]) (show bl[bl.length-1]≠0 by omega);have hgl:∀g:Int,g=(bif decide (999999999<(al[m+bl.length]*1000000000+al[m+bl.length-1])/bl[bl.length-1]) then 999999999 else(al[m+bl.length]*1000000000+al[m+bl.length-1])/bl[bl.length-1])->0<=g/\g<1000000000/\g*bl[bl.length-1]<=al[m+bl.length]*1000000000+al[m+bl.length-1]/\val 1000000000 (al.drop m)/val 1000000000 bl<=g:=by
   intro g hg;by_cases hc:999999999<(al[m+bl.length]*1000000000+al[m+bl.length-1])/bl[bl.length-1]
   ·rw[dT_ hc]at hg;simp only[cond_true]at hg;have:=Int.mul_le_mul_of_nonneg_right (show g<=(al[m+bl.length]*1000000000+al[m+bl.length-1])/bl[bl.length-1] by omega) c0;exact⟨by omega,by omega,by omega,by omega⟩
   ·rw[dF_ hc]at hg;simp only[cond_false]at hg;rw[hg];exact⟨by omega,by omega,hmul,hfirst⟩
  obtain⟨g0,g1,g2,g3⟩:=hgl _ rfl;rw[e5 fuel _ g0 (by omega) g1 g2 g3];have hqm:ql[m]=0:=by
   have:=congrArg (fun l=>l[m]?) hz;simp only[List.getElem?_take_of_lt (show m<m+1 by omega)]at this;rw[List.getElem?_eq_getElem (by omega),List.getElem?_replicate,if_pos (by omega)]at this;exact Option.some.inj this
  obtain⟨q,r,f1,f2,f3,f4,f5,f6,f7⟩:=Et2 (fuel:=fuel) (V:=V) hb hn hb1 hy0 hy1 hu hu0 hu1 m k (ql.set m (val 1000000000 (al.drop m)/val 1000000000 bl)) al' (by omega) (by omega) e1 (Al2 hq _ ⟨hQ0,hQ1⟩) (by omega) (by omega) (by simpa using hql) (by simp;omega) (by
   rw[List.take_set_of_le (Nat.le_refl _)];have:=congrArg (List.take m) hz;rw[List.take_take,Nat.min_eq_left (by omega),List.take_replicate,Nat.min_eq_left (by omega)]at this;exact this) e4 (by
   rw[Am4 _ _ (by omega),e3,hqm,<-hV];generalize val 1000000000 (al.drop m)/val 1000000000 bl=Q;generalize (1000000000:Int)^m=Z;grind)
  exact⟨q,r,f1,f2,f3,by simpa using f4,by omega,f6,f7⟩
theorem dg1{y:Int}(h0:0<y)(h1:y<1000000000):dg 1000000000 y=[y]:=by
 have:=Ck5 hB1 (x:=y) (v:=0) ⟨by omega,h1⟩ (Int.le_refl _) (by omega);rw[Int.mul_zero,Int.add_zero]at this;rw[this,E9 (Int.le_refl _)]
set_option maxHeartbeats 4000000 in
theorem Bl9{fuel:Nat}{a b:Int}(ha:0<=a)(hb:0<b)(hla:(dg 1000000000 a).length<=1073741820)(hlb:(dg 1000000000 b).length<=1073741820)(hf:(dg 1000000000 a).length+(dg 1000000000 b).length+1000000010<fuel):
 ∃q r,Ep1 fuel (dg 1000000000 a) (dg 1000000000 b)=some (q,r)/\dig 1000000000 q/\dig 1000000000 r/\q.length<=(dg 1000000000 a).length+1/\r.length<=(dg 1000000000 a).length+1/\val 1000000000 q=a/b/\val 1000000000 r=a%b:=by
 have da:=H6 hB1 a ha;have db:=H6 hB1 b (by omega);have va:=I9 hB1 a ha;have vb:=I9 hB1 b (by omega);unfold Ep1;rw[Ag3 ha (by omega) (by omega) (by omega) (by omega),sb];by_cases hab:a<b
 ·rw[D8 hab];refine⟨[],dg 1000000000 a,rfl,J2,da,by simp,by omega,?_,?_⟩
  ·rw[Int.ediv_eq_zero_of_lt ha hab];rfl
  ·rw[va,Int.emod_eq_of_lt ha hab]
 ·have h0:decide (R5 a b<0)=false:=by
   apply dF_;unfold R5;rw[if_neg hab];split<;>omega
  rw[h0];simp only[cond_false];rw[List.length_map];have hbne:=Bi9 hB1 hb;have hbl:=List.length_pos_iff.2 hbne;by_cases h1:(dg 1000000000 b).length=1
  ·rw[show(((dg 1000000000 b).length:Int)==1)=true by rw[h1];rfl];simp only[cond_true];have hb9:b<1000000000:=by
    have:=Ad7 hB1 (show 0<=b by omega);rw[h1]at this;simpa using this
   rw[dg1 hb hb9];rw[show C6 [b] 0=some b from rfl,sb];obtain⟨q,e1,e2,e3,e4⟩:=Cz7 (fuel:=fuel) da (by omega) hb hb9 (by omega);rw[e1,sb];rw[va]at e4;have hr0:=Int.emod_nonneg a (show b≠0 by omega);have hr1:=Int.emod_lt_of_pos a hb;refine⟨q,[a%b],by rw[va],e2,E3.2 ⟨⟨hr0,by omega⟩,J2⟩,by omega,by simp,e4,by simp[val]⟩
  ·rw[show(((dg 1000000000 b).length:Int)==1)=false by simp;omega];simp only[cond_false];obtain⟨l0,y4,el,hy0,hy1⟩:=At7 hB1 hb;have hl0:(dg 1000000000 b).length=l0.length+1:=by rw[el];simp
   have hg:C6 (dg 1000000000 b) (((dg 1000000000 b).length:Int)-1)=some y4:=by
    rw[show((dg 1000000000 b).length:Int)-1=((l0.length:Nat):Int) by omega,Ab9,el];simp
   have hu0:0<1000000000/(y4+1):=by
    have:=Int.le_ediv_of_mul_le (show 0<y4+1 by omega) (show 1*(y4+1)<=1000000000 by omega);omega
   have hu1:1000000000/(y4+1)<1000000000:=Int.ediv_lt_of_lt_mul (by omega) (by omega);have huy:=Int.ediv_mul_le 1000000000 (show y4+1≠0 by omega);rw[E7 (i:=((dg 1000000000 b).length:Int)-1) (by omega) (by omega),hg];simp only[sb];rw[O1 (i:=y4) (by omega) (by omega),O1 (i:=y4+1) (by omega) (by omega),E1 (by simp;omega),(tdm (show(0:Int)<=1000000000 by decide)).1,O1 (i:=1000000000/(y4+1)) (by omega) (by omega),Ar5 (i:=1000000000/(y4+1)) (by omega) (by omega)];rw[Dh2];obtain⟨u,hu⟩:∃u,u=1000000000/(y4+1):=⟨_,rfl⟩
   rw[<-hu]at hu0 hu1 huy⊢;obtain⟨al,p1,p2,p3,p4⟩:=Ce6 (fuel:=fuel) da (by omega) (by omega) hu1 (by omega);obtain⟨bl',r1,r2,r3,r4⟩:=Ce6 (fuel:=fuel) db (by omega) (by omega) hu1 (by omega);rw[p1,sb,r1,sb,List.length_map,Fp3 (by omega),sb];rw[va]at p4;rw[vb]at r4
   --the divisor,scaled:its upmost Gn8 is 0
   have hbU:b<(y4+1)*1000000000^l0.length:=by
    have h1:=vb;rw[el,Am3]at h1;have h2:=Ar2 (show(0:Int)<1000000000 by decide) (Al1.1 (el▸db)).1;have h3:val 1000000000 [y4]=y4:=by simp[val]
    rw[h3]at h1;have h4:(y4+1)*1000000000^l0.length=1000000000^l0.length*y4+1000000000^l0.length:=by grind
    omega
   have hbuP:b*u<1000000000^(dg 1000000000 b).length:=by
    have h1:=Int.mul_lt_mul_of_pos_right hbU hu0;have h2:=Int.mul_le_mul_of_nonneg_right huy (Int.le_of_lt (p9 l0.length));have h3:(y4+1)*1000000000^l0.length*u=u*(y4+1)*1000000000^l0.length:=by grind
    rw[hl0,Int.pow_succ];have h4:(1000000000:Int)^l0.length*1000000000=1000000000*1000000000^l0.length:=by grind
    omega
   have hbL:1000000000^l0.length<=b:=by
    have:=Ei7 hB1 hb
    rwa [hl0,Nat.add_sub_cancel]at this
   have hbz:=Bv1 r2 (n:=(dg 1000000000 b).length) (by omega) (by rw[r4];exact hbuP);have hvb:val 1000000000 (bl'.take (dg 1000000000 b).length)=b*u:=by
    rw[<-r4,Ar1 bl' (dg 1000000000 b).length (by omega),hbz];omega
   obtain⟨bl,ebl⟩:∃bl,bl=bl'.take (dg 1000000000 b).length:=⟨_,rfl⟩
   rw[<-ebl]at hvb⊢;have hbll:bl.length=(dg 1000000000 b).length:=by rw[ebl,List.length_take];omega
   have hbld:dig 1000000000 bl:=by rw[ebl];exact F9 r2 _
   have hbu:b<=b*u:=by
    have:=Int.mul_le_mul_of_nonneg_left (show 1<=u by omega) (show 0<=b by omega);omega
   have hb1:0<bl[bl.length-1]'(by omega):=by
    have e1:=Ar1 bl (bl.length-1) (by omega);have e2:=Ah5 (l:=bl) (i:=bl.length-1) (by omega);have e3:=O4 (l:=bl) (i:=bl.length-1+1) (by omega);have e4:=vtl hbld (bl.length-1) (by omega);have e5:=(Ar4 hbld (show bl.length-1<bl.length by omega)).1;by_cases h0:bl[bl.length-1]'(by omega)=0
    ·exfalso;rw[h0,e3]at e2;rw[e2,hvb]at e1;rw[show bl.length-1=l0.length by omega]at e1 e4;omega
    ·omega
   have hla0:(dg 1000000000 b).length<=(dg 1000000000 a).length:=by
    rcases Nat.lt_or_ge (dg 1000000000 a).length (dg 1000000000 b).length with h|h
    ·have:=K3 hB1 ha (show 0<=b by omega) h;omega
    ·exact h
   rw[List.length_map,E7 (by omega) (by omega),show(al.length:Int)-(bl.length:Int)=((al.length-bl.length:Nat):Int) by omega,Bf2 (by omega),sb,wip _ (by omega)];obtain⟨q,r,f1,f2,f3,f4,f5,f6,f7⟩:=Et2 (fuel:=fuel) (V:=a*u) hbld (by omega) hb1 (by omega) hy1 hu hu0 hu1 (al.length-bl.length) fuel (List.replicate (al.length-bl.length) 0) al (by omega) (by omega) p2 (Ao1 (by decide) _) (by omega) (by omega) (by simp;omega) (by simp) (by simp) (by
    --the upmost limbs are less than the divisor
    have e1:=Ar1 al (al.length-bl.length) (by omega);have e2:=vnn (F9 p2 (al.length-bl.length));have e3:=Ad7 hB1 ha;have e5:=Int.mul_lt_mul_of_pos_right e3 hu0;have e6:(1000000000:Int)^(dg 1000000000 a).length=1000000000^(al.length-bl.length)*1000000000^l0.length:=by rw[<-Int.pow_add];congr 1;omega
    have e7:=Int.mul_le_mul_of_nonneg_right hbL (Int.le_of_lt hu0);rw[hvb];have e8:1000000000^(al.length-bl.length)*val 1000000000 (al.drop (al.length-bl.length))<1000000000^(al.length-bl.length)*(1000000000^l0.length*u):=by
     rw[e6]at e5;have:(1000000000:Int)^(al.length-bl.length)*1000000000^l0.length*u=1000000000^(al.length-bl.length)*(1000000000^l0.length*u):=Int.mul_assoc ..;omega
    have e9:=Int.lt_of_mul_lt_mul_left e8 (Int.le_of_lt (p9 _));omega) (by rw[Ar3,p4];omega)
   rw[f1];refine⟨q,r,rfl,f2,f3,by simp at f4;omega,by omega,?_,?_⟩
   ·rw[f6,hvb,Int.mul_ediv_mul_of_pos_left _ _ hu0]
   ·rw[f7,hvb,Int.mul_comm a u,Int.mul_comm b u,Int.mul_emod_mul_of_pos _ _ hu0,Int.mul_comm u,Int.mul_ediv_cancel _ (by omega)]
end
end Go.Proofs.YtdlnalepibeibaaGreatDoor
end
section
namespace Go.Proofs.YtdlnalepibeibaaGreatDoor
open Go Go.RowKit Kx Go.IntKind
set_option maxRecDepth 100000
section
theorem Hg3:ln 0=0:=by unfold ln;rw[show(((0:Int).natAbs:Nat):Int)=0 from rfl,E9 (Int.le_refl _)];rfl
theorem Dv3(n:Int):(n.natAbs:Int)<1000000000^ln n:=Ad7 hB1 (by omega)
theorem Dg0{n:Int}{L:Nat}(h:(n.natAbs:Int)<1000000000^L):ln n<=L:=G8 hB1 h
theorem Dv4{a b:Int}(h:a.natAbs<=b.natAbs):ln a<=ln b:=Dg0 (Int.lt_of_le_of_lt (by omega) (Dv3 b))
theorem Bf1(a b:Int):ln (a*b)<=ln a+ln b:=Dg0 (by
 rw[Int.natAbs_mul,Int.natCast_mul,Int.pow_add];have h1:=Dv3 a;have h2:=Dv3 b;have:=p9 (ln a);have:=p9 (ln b);have h3:=Int.mul_le_mul (Int.le_of_lt h1) (Int.le_of_lt h2) (by omega) (by omega);rcases Int.lt_or_eq_of_le h3 with h|h
 ·exact h
 ·exfalso;have h4:=Int.mul_lt_mul_of_pos_left h2 (show(0:Int)<1000000000^ln a by omega);have h5:=Int.mul_le_mul_of_nonneg_right (Int.le_of_lt h1) (show(0:Int)<=(b.natAbs:Int) by omega);omega)
theorem Gf7(a b:Int):ln (a+b)<=max (ln a) (ln b)+1:=Dg0 (by
 have h1:=Dv3 a;have h2:=Dv3 b;have h3:=F0 hB1 (Nat.le_max_left (ln a) (ln b));have h4:=F0 hB1 (Nat.le_max_right (ln a) (ln b));rw[Int.pow_succ];omega)
theorem Em0{a:Int}(h:(a.natAbs:Int)<1000000000000000000):ln a<=2:=Dg0 (by
 have:(1000000000:Int)^2=1000000000000000000:=by decide
 omega)
theorem Et3{fuel:Nat}{a b:Int}(hb:b≠0)(hd:b∣a)(ha:ln a<=1073741800)(hlb:ln b<=1073741800)(hf:ln a+ln b+1000000010<fuel):Ep3 fuel (W a) (W b)=some (W (a/b),W 0):=by
 unfold ln at*;obtain⟨q,r,e1,e2,e3,e4,e5,e6,e7⟩:=Bl9 (fuel:=fuel) (a:=(a.natAbs:Int)) (b:=(b.natAbs:Int)) (by omega) (by omega) (by omega) (by omega) (by omega);have hdn:(b.natAbs:Int)∣(a.natAbs:Int):=by exact_mod_cast Int.natAbs_dvd_natAbs.2 hd
 have hr:(a.natAbs:Int)%(b.natAbs:Int)=0:=Int.emod_eq_zero_of_dvd hdn;unfold Ep3;show Option.bind (Ep1 fuel (dg 1000000000 (a.natAbs:Int)) (dg 1000000000 (b.natAbs:Int))) _=_;rw[e1,sb];dsimp only;rw[N8 e2 (by omega) (by omega),sb,N8 e3 (by omega) (by omega),sb,e6,e7,hr];have h0:sg (W a).neg 0=0:=by unfold sg;cases (W a).neg<;>rfl
 rw[h0,Cp2,sb,J1];simp only[bne_self_eq_false,cond_false,sb];congr 2;congr 1;show sg (!(decide (a<0)==decide (b<0))) _=_;obtain⟨c,rfl⟩:=hd;rw[Int.mul_ediv_cancel_left _ hb];have hc:((b*c).natAbs:Int)/(b.natAbs:Int)=(c.natAbs:Int):=by
  rw[Int.natAbs_mul];push_cast;exact Int.mul_ediv_cancel_left _ (by omega)
 rw[hc];unfold sg;by_cases hc0:c=0
 ·subst hc0;simp
 by_cases h1:b<0<;>by_cases h2:c<0
 ·have:=Int.mul_pos_of_neg_of_neg h1 h2;rw[dF_ (show¬b*c<0 by omega),dT_ h1];simp;omega
 ·have:=Int.mul_neg_of_neg_of_pos h1 (show 0<c by omega);rw[dT_ (show b*c<0 by omega),dT_ h1];simp;omega
 ·have:=Int.mul_neg_of_pos_of_neg (show 0<b by omega) h2;rw[dT_ (show b*c<0 by omega),dF_ h1];simp;omega
 ·have:=Int.mul_pos (show 0<b by omega) (show 0<c by omega);rw[dF_ (show¬b*c<0 by omega),dF_ h1];simp;omega
theorem Ec3{m:List Int}(hm:dig 1000000000 m):∀(i:Nat) (v:Int),i<=m.length->0<=v->v*1000000000^i+val 1000000000 (m.take i)<18446744073709551616->Ac9 (Bj4 m i) v=some (v*1000000000^i+val 1000000000 (m.take i))
 |0,v,_,_,_=>by
  unfold Bj4 Ac9;simp[val]
 |i+1,v,hi,hv,hb=>by
  obtain⟨a1,a2⟩:=Ar4 hm (show i<m.length by omega);unfold Bj4 Ac9;rw[Gf1 (by omega)];dsimp only;rw[Fq2 (show i<m.length by omega)]at hb⊢;have e:v*1000000000^(i+1)+(val 1000000000 (m.take i)+m[i]*1000000000^i)=(v*1000000000+m[i])*1000000000^i+val 1000000000 (m.take i):=by
   rw[Int.pow_succ];grind
  rw[e]at hb⊢;have h1:=vnn (F9 hm i);have h2:=Int.mul_le_mul_of_nonneg_left (show(1:Int)<=1000000000^i by have:=p9 i;omega) (show 0<=v*1000000000+m[i] by omega);rw[O1 (i:=v*1000000000) (by omega) (by omega),O1 (i:=m[i]) (by omega) (by omega),O1 (i:=v*1000000000+m[i]) (by omega) (by omega)];exact Ec3 hm i _ (by omega) (by omega) hb
theorem Db0{fuel:Nat}{a:Int}(ha:0<=a)(h:a<18446744073709551616)(hf:10<fuel):Fr2 fuel (dg 1000000000 a)=some a:=by
 have hl:(dg 1000000000 a).length<=3:=G8 hB1 (by
  have:(1000000000:Int)^3=1000000000000000000000000000:=by decide
  omega)
 unfold Fr2 Fr5;have hv:=I9 hB1 a ha;rw[sb,Do4 (by omega) (by omega),sb,Ec3 (H6 hB1 a ha) _ 0 (Nat.le_refl _) (Int.le_refl _) (by rw[List.take_length,hv];omega),List.take_length,hv];congr 1;omega
theorem Ao9{a b:Int}(ha:0<=a)(hb:0<=b):Int.gcd a b=Int.gcd b (a%b):=by
 obtain⟨m,rfl⟩:=Int.eq_ofNat_of_zero_le ha;obtain⟨n,rfl⟩:=Int.eq_ofNat_of_zero_le hb;rw[<-Int.natCast_emod,Int.gcd_natCast_natCast,Int.gcd_natCast_natCast,Nat.gcd_comm,Nat.gcd_rec,Nat.gcd_comm]
theorem Gf0:∀(v:Int),0<=v->v<18446744073709551616->∀(k:Nat) (acc:List Int),(dg 1000000000 v).length<k->acc.length+(dg 1000000000 v).length<=2147483648->Ac6 k v acc=some ⟨false,acc++dg 1000000000 v⟩:=by
 intro v hv h64 k acc hk hl;have e:∀(k:Nat) (v:Int) (acc:List Int),Ac6 k v acc=V5 0 k v acc:=by
  intro k
  induction k with
  |zero=>intro v acc;rfl
  |succ k ih=>
   intro v acc;unfold Ac6 V5;have:Ac6 k=V5 0 k:=by funext v acc;exact ih v acc
   rw[this];rfl
 rw[e,Bu8 v hv h64 k acc hk hl];rfl
theorem Hb9{v:Int}(h:0<=v):W v=⟨false,dg 1000000000 v⟩:=by
 unfold W;rw[dF_ (by omega),show((v.natAbs:Nat):Int)=v by omega]
theorem Eu5{fuel:Nat}(hf:10<fuel):∀(k:Nat) (x y:Int),y.toNat<k->0<=x->0<=y->x<18446744073709551616->y<18446744073709551616->Ar9 fuel k x y=some (W (Int.gcd x y))
 |0,_,_,h,_,_,_,_=>absurd h (by omega)
 |k+1,x,y,hk,hx,hy,hx1,hy1=>by
  unfold Ar9;by_cases h:y>0
  ·rw[dT_ h,E1 (by simp;omega)];simp only[cond_true];have h1:=Int.emod_nonneg x (show y≠0 by omega);have h2:=Int.emod_lt_of_pos x h;rw[(tdm hx).2,Eu5 hf k y (x%y) (by omega) hy h1 hy1 (by omega),<-Ao9 hx hy]
  ·rw[dF_ h];simp only[cond_false];have:y=0:=by omega
   subst this;have hl:(dg 1000000000 x).length<=3:=G8 hB1 (by
    have:(1000000000:Int)^3=1000000000000000000000000000:=by decide
    omega)
   rw[Gf0 x hx hx1 fuel [] (by omega) (by simp;omega),Int.gcd_zero_right,Hb9 (by omega),show((x.natAbs:Nat):Int)=x by omega];rfl
theorem Eu4{fuel:Nat}{L:Nat}(hL:L<=536870900)(hf:18446744073709551616+L<fuel):∀(k:Nat) (a b:Int),b.toNat<k->0<=a->0<=b->(dg 1000000000 a).length<=L->(dg 1000000000 b).length<=L->Aj5 fuel k (dg 1000000000 a) (dg 1000000000 b)=some (W (Int.gcd a b))
 |0,_,_,h,_,_,_,_=>absurd h (by omega)
 |k+1,a,b,hk,ha,hb,hla,hlb=>by
  unfold Aj5;rw[List.length_map];by_cases h0:b=0
  ·subst h0;have hl:(dg 1000000000 (0:Int)).length=0:=by rw[E9 (Int.le_refl _)];rfl
   rw[hl,dF_ (by omega),Int.gcd_zero_right];simp only[cond_false];rw[show(((0:Nat):Int)==0)=true from rfl];simp only[cond_true];rw[N8 (H6 hB1 a ha) (by omega) (by omega),sb,I9 hB1 a ha];unfold sg;simp only[cond_false];rw[show((a.natAbs:Nat):Int)=a by omega]
  ·have hbp:0<b:=by omega
   have h1:=Int.emod_nonneg a (show b≠0 by omega);have h2:=Int.emod_lt_of_pos a hbp;obtain⟨q,r,e1,e2,e3,e4,e5,e6,e7⟩:=Bl9 (fuel:=fuel) ha hbp (by omega) (by omega) (by omega);have hw:Bi0 fuel false r=some ⟨false,dg 1000000000 (a%b)⟩:=by
    rw[N8 e3 (by omega) (by omega),e7,Gq2 h1];rfl
   have hlr:(dg 1000000000 (a%b)).length<=(dg 1000000000 b).length:=by
    rcases Nat.lt_or_ge (dg 1000000000 b).length (dg 1000000000 (a%b)).length with h|h
    ·have:=K3 hB1 hb h1 h;omega
    ·exact h
   by_cases hc:(dg 1000000000 b).length>2
   ·rw[dT_ (by omega)];simp only[cond_true];rw[e1,sb];dsimp only;rw[hw,sb];dsimp only;rw[Eu4 hL hf k b (a%b) (by omega) hb h1 hlb (by omega),<-Ao9 ha hb]
   ·rw[dF_ (by omega)];simp only[cond_false];have hne:=List.length_pos_iff.2 (Bi9 hB1 hbp);rw[show(((dg 1000000000 b).length:Int)==0)=false by rw[beq_eq_false_iff_ne];omega];simp only[cond_false];have hb18:b<1000000000000000000:=by
     have:=Ad7 hB1 hb;have h3:=F0 hB1 (show(dg 1000000000 b).length<=2 by omega);have:(1000000000:Int)^2=1000000000000000000:=by decide
     omega
    rw[e1,sb,Db0 hb (by omega) (by omega),sb];dsimp only;rw[hw,sb];dsimp only;rw[Db0 h1 (by omega) (by omega),sb,Eu5 (by omega) fuel b (a%b) (by omega) hb h1 (by omega) (by omega),<-Ao9 ha hb]
theorem Eu6{fuel:Nat}{a b:Int}(ha:ln a<=536870900)(hb:ln b<=536870900)(hf:18446744073709551616+536870900+b.natAbs<fuel):Ez3 fuel (W a) (W b)=some (W (Int.gcd a b)):=by
 unfold Ez3;show Aj5 fuel fuel (dg 1000000000 (a.natAbs:Int)) (dg 1000000000 (b.natAbs:Int))=_;unfold ln at*;rw[Eu4 (L:=536870900) (Nat.le_refl _) (by omega) fuel (a.natAbs:Int) (b.natAbs:Int) (by omega) (by omega) (by omega) ha hb];congr 2
def R(r:Rat):A1:=⟨W r.num,W (r.den:Int)⟩
def nsz(L:Nat)(r:Rat):Prop:=ln r.num<=L/\ln (r.den:Int)<=L
theorem Cn3{fuel:Nat}{n d:Int}(hd:0<d)(ha:ln n<=536870900)(hb:ln d<=536870900)(hf:18446744073709551616+10000000000+d.natAbs<fuel):Ef0 fuel (W n) (W d)=some (R (Rat.divInt n d)):=by
 have hg0:0<Int.gcd n d:=Int.gcd_pos_of_ne_zero_right _ (by omega);have hgn:((Int.gcd n d:Nat):Int)∣n:=Int.gcd_dvd_left ..;have hgd:((Int.gcd n d:Nat):Int)∣d:=Int.gcd_dvd_right ..;have hgle:((Int.gcd n d:Nat):Int)<=d:=Int.le_of_dvd hd hgd;have hR:R (Rat.divInt n d)=⟨W (n/(Int.gcd n d:Nat)),W (d/(Int.gcd n d:Nat))⟩:=by
  unfold R;rw[Rat.num_divInt,Rat.den_divInt,if_neg (by omega),Int.sign_eq_one_of_pos hd,Int.one_mul,Int.gcd_comm];congr 2;push_cast;rw[show((d.natAbs:Nat):Int)=d by omega]
 have hlg:ln ((Int.gcd n d:Nat):Int)<=ln d:=Dv4 (by omega);unfold Ef0;rw[Eu6 ha hb (by omega),sb];have hdn:(W d).neg=false:=dF_ (by omega);rw[hdn];simp only[cond_false];have hwn:(W ((Int.gcd n d:Nat):Int)).neg=false:=dF_ (show¬((Int.gcd n d:Nat):Int)<0 by omega);have hwm:(W ((Int.gcd n d:Nat):Int)).mag=dg 1000000000 ((Int.gcd n d:Nat):Int):=by rw[Hb9 (by omega)]
 rw[hwn,hwm,List.length_map];have ho:(bif decide ((((dg 1000000000 ((Int.gcd n d:Nat):Int)).length:Nat):Int)>1) then some true else bif false then some true else Option.bind (C6 (dg 1000000000 ((Int.gcd n d:Nat):Int)) 0) fun y12=>some (y12 !=1))=some (!decide (Int.gcd n d=1)):=by
  by_cases hl:(dg 1000000000 ((Int.gcd n d:Nat):Int)).length>1
  ·rw[dT_ (by omega),dF_ (fun h=>by
    rw[h]at hl;rw[show((1:Nat):Int)=1 from rfl,dg1 (by decide) (by decide)]at hl;simp at hl)]
   rfl
  ·rw[dF_ (by omega)];simp only[cond_false];have h9:((Int.gcd n d:Nat):Int)<1000000000:=by
    have:=Ad7 hB1 (show 0<=((Int.gcd n d:Nat):Int) by omega);have h3:=F0 hB1 (show(dg 1000000000 ((Int.gcd n d:Nat):Int)).length<=1 by omega);rw[Int.pow_one]at h3;omega
   rw[dg1 (by omega) h9,show C6 [((Int.gcd n d:Nat):Int)] 0=some ((Int.gcd n d:Nat):Int) from rfl,sb];congr 1;by_cases h1:Int.gcd n d=1
   ·rw[h1];rfl
   ·rw[dF_ h1];simp;omega
 rw[ho,sb];by_cases h1:Int.gcd n d=1
 ·rw[dT_ h1];simp only[Bool.not_true,cond_false];rw[hR,h1];simp
 ·rw[dF_ h1];simp only[Bool.not_false,cond_true];rw[Et3 (by omega) hgn (by omega) (by omega) (by omega),sb,Et3 (by omega) hgd (by omega) (by omega) (by omega),sb,hR]
theorem Gy5{fuel:Nat}{n d:Int}(h0: -9223372036854775808<=n)(h1:n<9223372036854775808)(hd:0<d)(hd1:d<9223372036854775808)(hf:40000000000000000000<fuel):F78 fuel n d=some (R (Rat.divInt n d)):=by
 have hl:∀a:Int,(a.natAbs:Int)<=9223372036854775808->ln a<=3:=fun a h=>Dg0 (by
  have:(1000000000:Int)^3=1000000000000000000000000000:=by decide
  omega)
 have:=hl n (by omega);have:=hl d (by omega);unfold F78;rw[Aq6 h0 h1 (by omega),sb,Aq6 (by omega) hd1 (by omega),sb,Cn3 hd (by omega) (by omega) (by omega),sb]
theorem den_pos(r:Rat):(0:Int)<(r.den:Int):=by have:=r.den_pos;omega
theorem Fm6{fuel L:Nat}{x y:Rat}(hx:nsz L x)(hy:nsz L y)(hL:L<=100000000)(hf:18446744073709551616+10000000000+x.den*y.den<fuel):Eo9 fuel (R x) (R y)=some (R (x+y)):=by
 obtain⟨x1,x2⟩:=hx;obtain⟨y1,y2⟩:=hy;have m1:=Bf1 x.num y.den;have m2:=Bf1 y.num x.den;have m3:=Bf1 x.den y.den;have a1:=Gf7 (x.num*y.den) (y.num*x.den);have hp:=Int.mul_pos (den_pos x) (den_pos y);unfold Eo9;show Option.bind (Bv4 fuel (W x.num) (W y.den)) (fun y1=>Option.bind (Bv4 fuel (W y.num) (W x.den)) fun y2=>Option.bind (Ep5 fuel y1 y2) fun y3=>Option.bind (Bv4 fuel (W x.den) (W y.den)) fun y4=>Option.bind (Ef0 fuel y3 y4) fun y5=>some y5)=_;rw[Bf3 (by omega) (by omega),sb,Bf3 (by omega) (by omega),sb,Fz8 (by omega) (by omega) (by omega),sb,Bf3 (by omega) (by omega),sb,Cn3 hp (by omega) (by omega) (by
  have:((x.den:Int)*(y.den:Int)).natAbs=x.den*y.den:=by rw[<-Int.natCast_mul,Int.natAbs_natCast]
  omega),sb]
 congr 2;rw[Rat.add_def',<-Rat.divInt_ofNat];push_cast;rfl
theorem Fn0{fuel L:Nat}{x y:Rat}(hx:nsz L x)(hy:nsz L y)(hL:L<=100000000)(hf:18446744073709551616+10000000000+x.den*y.den<fuel):Fa5 fuel (R x) (R y)=some (R (x*y)):=by
 obtain⟨x1,x2⟩:=hx;obtain⟨y1,y2⟩:=hy;have m1:=Bf1 x.num y.num;have m3:=Bf1 x.den y.den;have hp:=Int.mul_pos (den_pos x) (den_pos y);unfold Fa5;show Option.bind (Bv4 fuel (W x.num) (W y.num)) (fun y1=>Option.bind (Bv4 fuel (W x.den) (W y.den)) fun y2=>Option.bind (Ef0 fuel y1 y2) fun y3=>some y3)=_;rw[Bf3 (by omega) (by omega),sb,Bf3 (by omega) (by omega),sb,Cn3 hp (by omega) (by omega) (by
  have:((x.den:Int)*(y.den:Int)).natAbs=x.den*y.den:=by rw[<-Int.natCast_mul,Int.natAbs_natCast]
  omega),sb]
 congr 2;rw[Rat.mul_def',<-Rat.divInt_ofNat];push_cast;rfl
def By6(a b:Rat):Int:=if a<b then-1 else if b<a then 1 else 0
theorem Fm7{fuel L:Nat}{x y:Rat}(hx:nsz L x)(hy:nsz L y)(hL:L<=100000000)(hf:10000000000<fuel):F65 fuel (R x) (R y)=some (By6 x y):=by
 obtain⟨x1,x2⟩:=hx;obtain⟨y1,y2⟩:=hy;have m1:=Bf1 x.num y.den;have m2:=Bf1 y.num x.den;unfold F65;show Option.bind (Bv4 fuel (W x.num) (W y.den)) (fun y1=>Option.bind (Bv4 fuel (W y.num) (W x.den)) fun y2=>Option.bind (Ed3 fuel y1 y2) fun y3=>some y3)=_;rw[Bf3 (by omega) (by omega),sb,Bf3 (by omega) (by omega),sb,Cp4 (by omega) (by omega) (by omega),sb];congr 1;unfold R5 By6;simp only[Rat.lt_iff,gt_iff_lt]
theorem Em8{x:Rat}:F37 (R x)=some (By6 x 0):=by
 unfold F37;show Option.bind (F74 (W x.num)) (fun y1=>some y1)=_;rw[Cp2,sb];congr 1;unfold R5 By6;simp only[Rat.lt_iff,gt_iff_lt];simp
end
section
def chr(x:Int):UInt8:=UInt8.ofNat (48+x.toNat)
theorem Bc8{x:Int}(h0:0<=x)(h1:x<10):((chr x).toNat:Int)=48+x:=by
 unfold chr;rw[UInt8.toNat_ofNat'];have:(48+x.toNat)%2^8=48+x.toNat:=Nat.mod_eq_of_lt (by omega);rw[this];omega
def ltr(l:List Int):List UInt8:=l.reverse.map chr
theorem K4(l:List Int):(ltr l).length=l.length:=by simp[ltr]
theorem U1(l m:List Int):ltr (l++m)=ltr m++ltr l:=by simp[ltr]
theorem Cx3(x:Int)(m:List Int):ltr (x::m)=ltr m++[chr x]:=by simp[ltr]
def dtx(n:Int):List UInt8:=if n<=0 then[48] else ltr (dg 10 n)
def tx(n:Int):List UInt8:=if n<0 then 45::dtx (-n) else dtx n
theorem h10:(1:Int)<10:=by decide
theorem Dp8:∀(u:Nat),Lib.decDigits u=dtx (u:Int):=by
 have key:∀(k u:Nat),u<=k->Lib.decDigits u=dtx (u:Int):=by
  intro k
  induction k with
  |zero=>
   intro u hu;have:u=0:=by omega
   subst this;rw[Lib.decDigits_one (by decide)];rfl
  |succ k ih=>
   intro u hu;unfold dtx;by_cases h0:u=0
   ·subst h0;rw[Lib.decDigits_one (by decide)];rfl
   rw[if_neg (by omega),N4 h10 (by omega)];rw[Lib.decDigits];by_cases h:u<10
   ·rw[dif_pos h,show((u:Int)%10)=(u:Int) by omega,show((u:Int)/10)=0 by omega,E9 (Int.le_refl _)];simp[ltr,chr]
   ·rw[dif_neg h,ih (u/10) (by omega),Cx3];unfold dtx;rw[if_neg (by omega)];have e:((u/10:Nat):Int)=(u:Int)/10:=by omega
    rw[e];congr 1
 exact fun u=>key u u (Nat.le_refl _)
theorem Fl9(n:Int):Lib.itoa n=tx n:=by
 unfold Lib.itoa tx;by_cases h:n<0
 ·rw[if_pos h,if_pos h,Dp8,show((n.natAbs:Nat):Int)= -n by omega]
 ·rw[if_neg h,if_neg h,Dp8,show((n.toNat:Nat):Int)=n by omega]
theorem El7{n:Int}(h0: -9223372036854775808<=n)(h1:n<=9223372036854775807):Cn1 n=some (tx n):=by
 have:∃r,Cn1 n=some r:=by
  unfold Cn1;rw[dT_ h0,dT_ h1];exact⟨_,rfl⟩
 obtain⟨r,hr⟩:=this;rw[hr,(Cw8 hr).2,Fl9]
def pd:Nat->Int->List Int
 |0,_=>[]
 |k+1,x=>x%10::pd k (x/10)
theorem Cy4:∀(k:Nat) (x:Int),(pd k x).length=k
 |0,_=>rfl
 |k+1,x=>by rw[pd,List.length_cons,Cy4 k]
theorem P0(k:Nat):(10:Int)^(k+1)=10*10^k:=Int.pow_succ' ..
theorem Gh1:∀(k:Nat) (x:Int),0<=x->x<10^k->val 10 (pd k x)=x
 |0,x,h0,h1=>by simp at h1;simp[pd,val];omega
 |k+1,x,h0,h1=>by
  rw[P0]at h1;rw[pd,val,Gh1 k (x/10) (by omega) (by omega)];omega
theorem Fh4:∀(k:Nat) (x v:Int),0<=x->x<10^k->0<v->dg 10 (x+10^k*v)=pd k x++dg 10 v
 |0,x,v,h0,h1,_=>by
  simp at h1;have:x=0:=by omega
  subst this;simp[pd]
 |k+1,x,v,h0,h1,hv=>by
  rw[P0]at h1;have hp:(0:Int)<10^k:=R8 (by decide) k;have hm:=Int.mul_pos hp hv;rw[P0,Int.mul_assoc];rw[N4 h10 (by omega),pd,List.cons_append,<-Fh4 k (x/10) v (by omega) (by omega) hv];have e1:(x+10*(10^k*v))%10=x%10:=by omega
  have e2:(x+10*(10^k*v))/10=x/10+10^k*v:=by omega
  rw[e1,e2]
theorem Fn5:∀(k:Nat) (x:Int),0<=x->x<10^k->pd k x=dg 10 x++List.replicate (k-(dg 10 x).length) 0
 |0,x,h0,h1=>by
  simp at h1;have:x=0:=by omega
  subst this;rw[E9 (Int.le_refl _)];rfl
 |k+1,x,h0,h1=>by
  rw[P0]at h1;rw[pd,Fn5 k (x/10) (by omega) (by omega)];by_cases hx:x=0
  ·subst hx;rw[show(0:Int)/10=0 from rfl,E9 (Int.le_refl _)];simp[List.replicate_succ]
  ·rw[N4 h10 (show 0<x by omega)];simp
theorem Ct8{k:Nat}{x:Int}(h1:x<10^k):(dg 10 x).length<=k:=G8 h10 h1
def fv:Int->List UInt8->Int
 |a,[]=>a
 |a,c::s=>fv (10*a+((c.toNat:Int)-48)) s
theorem Eu1:∀(s t:List UInt8) (a:Int),fv a (s++t)=fv (fv a s) t
 |[],_,_=>rfl
 |_::s,t,_=>Eu1 s t _
theorem Ca7:∀(l:List Int),dig 10 l->∀a,fv a (ltr l)=a*10^l.length+val 10 l
 |[],_,a=>by simp[ltr,fv,val]
 |x::l,h,a=>by
  have h:=E3.1 h;rw[Cx3,Eu1,Ca7 l h.2,List.length_cons,P0,val];show 10*(a*10^l.length+val 10 l)+(((chr x).toNat:Int)-48)=_;rw[Bc8 h.1.1 h.1.2];grind
theorem Cb9{l:List Int}(h:dig 10 l):∀c∈ltr l,48<=c.toNat/\c.toNat<=57:=by
 intro c hc;unfold ltr at hc;obtain⟨x,hx,rfl⟩:=List.mem_map.1 hc;obtain⟨h0,h1⟩:=h x (List.mem_reverse.1 hx);have:=Bc8 h0 h1;omega
def dgs(s:List UInt8):List Int:=(s.map fun c=>(c.toNat:Int)-48).reverse
theorem Fh6{s:List UInt8}(h:∀c∈s,48<=c.toNat/\c.toNat<=57):dig 10 (dgs s):=by
 intro x hx;unfold dgs at hx;obtain⟨c,hc,rfl⟩:=List.mem_map.1 (List.mem_reverse.1 hx);have:=h c hc;omega
theorem Dv5{s:List UInt8}(h:∀c∈s,48<=c.toNat/\c.toNat<=57):ltr (dgs s)=s:=by
 unfold ltr dgs;rw[List.reverse_reverse,List.map_map];have:∀c∈s,(chr∘fun c:UInt8=>(c.toNat:Int)-48) c=c:=fun c hc=>by
  have:=h c hc;unfold chr;show UInt8.ofNat (48+((c.toNat:Int)-48).toNat)=c;rw[show 48+((c.toNat:Int)-48).toNat=c.toNat by omega,UInt8.ofNat_toNat]
 rw[List.map_congr_left this];simp
theorem Av3{n:Int}(h:0<=n):tx n=dtx n:=if_neg (by omega)
theorem M3{n:Int}(h:0<n):dtx n=ltr (dg 10 n):=if_neg (by omega)
theorem Gs5:dtx 0=[48]:=rfl
theorem G9{n:Int}(h:0<=n):∀c∈dtx n,48<=c.toNat/\c.toNat<=57:=by
 by_cases h0:n=0
 ·subst h0;intro c hc;rw[Gs5]at hc;simp at hc;subst hc;decide
 ·rw[M3 (by omega)];exact Cb9 (H6 h10 n h)
theorem Bm0{n:Int}:dtx n≠[]:=by
 unfold dtx;split
 ·simp
 ·intro h;have:=congrArg List.length h;rw[K4]at this;have h2:=List.length_pos_iff.2 (Bi9 h10 (show 0<n by omega));simp at this;rw[this]at h2;simp at h2
theorem Ao2{n:Int}(h:0<n):∃c s,dtx n=c::s/\49<=c.toNat/\c.toNat<=57:=by
 obtain⟨l,y,e,h0,h1⟩:=At7 h10 h;refine⟨chr y,ltr l,?_,?_⟩
 ·rw[M3 h,e,U1];rfl
 ·have:=Bc8 (Int.le_of_lt h0) h1;omega
theorem Al3{n:Int}(h:0<n):(dtx n).length=(dg 10 n).length:=by rw[M3 h,K4]
theorem Cu3{n:Int}{k:Nat}(hk:0<k)(h:n<10^k):(dtx n).length<=k:=by
 by_cases h0:n<=0
 ·unfold dtx;rw[if_pos h0];exact hk
 ·rw[Al3 (by omega)];exact G8 h10 h
theorem Cv8{n:Int}(h:0<=n):fv 0 (dtx n)=n:=by
 by_cases h0:n=0
 ·subst h0;rfl
 ·rw[M3 (by omega),Ca7 _ (H6 h10 n h),I9 h10 n h];omega
theorem Dq6{a b:Int}(ha:0<=a)(hb:0<=b)(h:dtx a=dtx b):a=b:=by rw[<-Cv8 ha,<-Cv8 hb,h]
theorem Bh7{a b:Int}(h:tx a=tx b):a=b:=by
 have hh:∀{x y:Int},x<0->0<=y->tx x≠tx y:=fun{x y} hx hy h=>by
  unfold tx at h;rw[if_pos hx,if_neg (by omega)]at h;have:=G9 hy 45 (by rw[<-h];exact List.mem_cons_self);exact absurd this.1 (by decide)
 by_cases h1:a<0<;>by_cases h2:b<0
 ·unfold tx at h;rw[if_pos h1,if_pos h2]at h;have:=Dq6 (by omega) (by omega) (List.cons.inj h).2;omega
 ·exact absurd h (hh h1 (by omega))
 ·exact absurd h.symm (hh h2 (by omega))
 ·rw[Av3 (by omega),Av3 (by omega)]at h;exact Dq6 (by omega) (by omega) h
theorem Gb8{s:List UInt8}(h:∀c∈s,48<=c.toNat/\c.toNat<=57){c:UInt8}{r:List UInt8}(hs:s=c::r)(hc:c.toNat≠48):s=dtx (fv 0 s)/\0<fv 0 s:=by
 have hd:=Fh6 h;have e:dgs s=dgs r++[(c.toNat:Int)-48]:=by subst hs;simp[dgs]
 have hv:fv 0 s=val 10 (dgs s):=by
  have:=Ca7 (dgs s) hd 0;rw[Dv5 h]at this;omega
 have hcan:=Es8 h10 (l:=dgs r) (y:=(c.toNat:Int)-48) (e▸hd) (by omega);rw[<-e]at hcan;have hpos:0<fv 0 s:=by
  rw[hv];by_cases h0:val 10 (dgs s)<=0
  ·rw[E9 h0,e]at hcan;simp at hcan
  ·omega
 refine⟨?_,hpos⟩;rw[M3 hpos,hv,hcan,Dv5 h]
end
section
theorem Eb8(s:List UInt8):(s.map toI).map (fun x=>x.toNat.toUInt8)=s:=by
 rw[List.map_map];have:∀c∈s,((fun x:Int=>x.toNat.toUInt8)∘toI) c=c:=fun c _=>by
  show((c.toNat:Int)).toNat.toUInt8=c;simp
 rw[List.map_congr_left this];simp
theorem Fq1{s:List UInt8}(h0:0<s.length)(h1:s.length<=2147483648){k:Nat}(hk:k=s.length):Gj1 (s.map toI) 0 (k:Int)=some s:=by
 subst hk;unfold Gj1;rw[dT_ (show 0<(s.length:Int) by omega),dT_ (show 0+(s.length:Int).toNat<=(s.map toI).length by simp),dT_ (show(s.length:Int)<=2147483648 by omega)];simp only[Bool.and_self,cond_true,List.drop_zero];rw[List.take_of_length_le (by simp),Eb8]
theorem Gi7{s:List UInt8}(h0:0<s.length)(h1:s.length<=2147483648):Fb7 (s.map toI)=some s:=by
 unfold Fb7;rw[E1 (by rw[List.length_map,List.length_map];exact dT_ h0),List.length_map,List.length_map,Fq1 h0 h1 rfl,sb]
theorem Be4{n:Int}(h0: -9223372036854775808<=n)(h1:n<=9223372036854775807):Eo7 n=some (tx n):=El7 h0 h1
theorem Fq4{s t:List UInt8}(h:t.length+s.length<=2147483648):Cq1 s (t.map toI)=some ((s.length:Int),false,(t++s).map toI):=by
 unfold Cq1 Eg2;rw[sb,V1 _ _ (by simpa using h),sb,List.map_append]
def pdl:List Int->List Int
 |[]=>[]
 |x::l=>pd 9 x++pdl l
theorem Dx3:∀(l m:List Int),pdl (l++m)=pdl l++pdl m
 |[],m=>rfl
 |x::l,m=>by rw[List.cons_append,pdl,pdl,Dx3 l m,List.append_assoc]
theorem Dx4:∀(l:List Int),(pdl l).length=9*l.length
 |[]=>rfl
 |x::l=>by rw[pdl,List.length_append,Cy4,Dx4 l,List.length_cons];omega
theorem Fp8:(10:Int)^9=1000000000:=by decide
theorem Bp9:∀(l:List Int) (y:Int),dig 1000000000 l->0<y->y<1000000000->dg 10 (val 1000000000 (l++[y]))=pdl l++dg 10 y/\0<val 1000000000 (l++[y])
 |[],y,_,h0,h1=>by simp[val,pdl,h0]
 |x::l,y,hd,h0,h1=>by
  have hd:=E3.1 hd;obtain⟨e1,e2⟩:=Bp9 l y hd.2 h0 h1;rw[List.cons_append,Cf7];refine⟨?_,by omega⟩;have:=Fh4 9 x (val 1000000000 (l++[y])) hd.1.1 (by rw[Fp8];exact hd.1.2) e2;rw[Fp8]at this;rw[this,e1,pdl,List.append_assoc]
theorem Gy7{x:Int}(h0:0<=x)(h1:x<1000000000):List.replicate (9-(dtx x).length) 48++dtx x=ltr (pd 9 x)/\(dtx x).length<=9:=by
 have hl:(dg 10 x).length<=9:=Ct8 (by rw[Fp8];exact h1);rw[Fn5 9 x h0 (by rw[Fp8];exact h1),U1];have hr:∀n,ltr (List.replicate n (0:Int))=List.replicate n 48:=fun n=>by
  unfold ltr;rw[List.reverse_replicate,List.map_replicate];rfl
 rw[hr];by_cases hx:x=0
 ·subst hx;rw[E9 (Int.le_refl _)];exact⟨rfl,by decide⟩
 ·rw[M3 (by omega),K4];exact⟨rfl,hl⟩
theorem Ed2{k:Nat}(_:k<=9):([48,48,48,48,48,48,48,48,48].drop (Int.toNat (k:Int))).take (Int.toNat (([48,48,48,48,48,48,48,48,48].length:Int)-(k:Int)))=List.replicate (9-k) (48:UInt8):=by
 have e:([48,48,48,48,48,48,48,48,48]:List UInt8)=List.replicate 9 48:=rfl;rw[e,List.drop_replicate,List.take_of_length_le (by simp)];congr 1
theorem Eb5{n:Int}(hl:ln n<=100000000):∀(i k:Nat) (acc:List UInt8),i<ln n->i<k->acc.length+9*i<=2147483648->0<acc.length->
 O8 (W n) k ((i:Int)-1) (acc.map toI)=some (acc++ltr (pdl ((dg 1000000000 (n.natAbs:Int)).take i)))
 |0,0,_,_,h,_,_=>absurd h (by omega)
 |i+1,0,_,_,h,_,_=>absurd h (by omega)
 |0,k+1,acc,_,_,hacc,h0=>by
  unfold O8;rw[dF_ (by omega)];simp only[cond_false];rw[Gi7 h0 (by omega),sb];simp[pdl,ltr]
 |i+1,k+1,acc,hi,hk,hacc,h0=>by
  have hil:i<(dg 1000000000 (n.natAbs:Int)).length:=by show i<ln n;omega
  obtain⟨a1,a2⟩:=Ar4 (Bx1 n) hil;obtain⟨p1,p2⟩:=Gy7 a1 a2;have hg:C6 (W n).mag (i:Int)=some (dg 1000000000 (n.natAbs:Int))[i]:=C7 hil;have hlen:(W n).mag.length=ln n:=rfl;unfold O8;rw[show(((i+1:Nat):Int)-1)=(i:Int) by omega,dT_ (show(i:Int)>=0 by omega),hg];simp only[cond_true,sb];rw[E7 (i:=(dg 1000000000 (n.natAbs:Int))[i]) (by omega) (by omega),Be4 (by omega) (by omega),sb,Av3 a1,List.length_map,hlen,E7 (i:=(ln n:Int)-1) (by omega) (by omega),dT_ (show(i:Int)<(ln n:Int)-1 by omega)];simp only[cond_true];rw[E1 (by simp;omega),Ed2 p2];have hzl:(List.replicate (9-(dtx (dg 1000000000 (n.natAbs:Int))[i]).length) (48:UInt8)).length=9-(dtx (dg 1000000000 (n.natAbs:Int))[i]).length:=List.length_replicate;rw[Fq4 (by rw[hzl];omega),sb];dsimp only;rw[Fq4 (by rw[List.length_append,hzl];omega),sb,wip i (by omega),List.append_assoc,p1];have hpl:(ltr (pd 9 (dg 1000000000 (n.natAbs:Int))[i])).length=9:=by rw[K4,Cy4]
  rw[Eb5 hl i k (acc++ltr (pd 9 (dg 1000000000 (n.natAbs:Int))[i])) (by omega) (by omega) (by rw[List.length_append,hpl];omega) (by rw[List.length_append];omega)];rw[List.take_succ_eq_append_getElem hil,Dx3,U1,List.append_assoc];simp[pdl]
theorem Fp9{w:A3}:∀(k:Nat),Aj6 w k=O8 w k
 |0=>by funext v l;rfl
 |k+1=>by funext v l;unfold Aj6 O8;rw[Fp9 k]
theorem Eb6{w:A3}:∀(k:Nat),Aj7 w k=O8 w k
 |0=>by funext v l;rfl
 |k+1=>by funext v l;unfold Aj7 O8;rw[Eb6 k]
theorem Az8{fuel:Nat}{n:Int}(hl:ln n<=100000000)(hf:ln n+1<fuel):Ef2 fuel (W n)=some (tx n):=by
 have hlen:(W n).mag.length=ln n:=rfl;unfold Ef2;rw[List.length_map,hlen];by_cases h0:n=0
 ·subst h0;rw[Hg3];rfl
 have hpos:0<(n.natAbs:Int):=by omega
 obtain⟨l,y,e,y0,y1⟩:=At7 hB1 hpos;have hL:ln n=l.length+1:=by show(dg 1000000000 (n.natAbs:Int)).length=_;rw[e];simp
 have hd:dig 1000000000 l:=(Al1.1 (e▸Bx1 n)).1;obtain⟨e1,_⟩:=Bp9 l y hd y0 y1;rw[<-e,Cj1]at e1;have htx:dtx (n.natAbs:Int)=dtx y++ltr (pdl ((dg 1000000000 (n.natAbs:Int)).take (ln n-1))):=by
  rw[M3 hpos,e1,U1,M3 y0,hL,Nat.add_sub_cancel,e,List.take_left]
 have hdy:(dtx y).length<=9:=(Gy7 (Int.le_of_lt y0) y1).2;have hdy0:=List.length_pos_iff.2 (Bm0 (n:=y));have hg:C6 (W n).mag ((ln n-1:Nat):Int)=some y:=by
  show C6 (dg 1000000000 (n.natAbs:Int)) _=_;rw[Ab9,e,hL];simp
 rw[show((ln n:Int)==0)=false by rw[beq_eq_false_iff_ne];omega,E7 (i:=(ln n:Int)-1) (by omega) (by omega),show(ln n:Int)-1=((ln n-1:Nat):Int) by omega];simp only[cond_false];show(bif decide (n<0) then _ else _)=_;by_cases hn:n<0
 ·rw[dT_ hn];simp only[cond_true];unfold Gk4 Fr7;rw[sb,V1 _ _ (by simp),sb,sb];obtain⟨f,rfl⟩:∃f,fuel=f+1:=⟨fuel-1,by omega⟩
  unfold O8;rw[dT_ (show((ln n-1:Nat):Int)>=0 by omega),hg];simp only[cond_true,sb];rw[E7 (i:=y) (by omega) (by omega),Be4 (by omega) (by omega),sb,Av3 (by omega),List.length_map,hlen,E7 (i:=(ln n:Int)-1) (by omega) (by omega),dF_ (by omega)];simp only[cond_false];rw[show([]++[45]:List Int)=([45]:List UInt8).map toI from rfl,Fq4 (by simp;omega),sb,wip _ (by omega)];rw[Eb5 hl (ln n-1) f ([45]++dtx y) (by omega) (by omega) (by simp;omega) (by simp)];unfold tx;rw[if_pos hn,show-n=(n.natAbs:Int) by omega,htx];simp
 ·rw[dF_ hn];simp only[cond_false];rw[dT_ (show((ln n-1:Nat):Int)>=0 by omega),hg];simp only[cond_true,sb];rw[E7 (i:=y) (by omega) (by omega),Be4 (by omega) (by omega),sb,Av3 (by omega),dF_ (by omega)];simp only[cond_false];unfold Dk9 Fr7;rw[sb,V1 _ _ (by simp;omega),sb,sb,wip _ (by omega),Eb6];dsimp only;rw[List.nil_append,Eb5 hl (ln n-1) fuel (dtx y) (by omega) (by omega) (by omega) hdy0];have hnn:tx n=dtx (n.natAbs:Int):=by rw[Av3 (show 0<=n by omega)];congr 1;omega
  rw[hnn,htx]
theorem Dv2{n:Int}(h0:n≠0):∃y:Int,0<y/\y<1000000000/\C6 (W n).mag (((ln n:Nat):Int)-1)=some y/\(dtx (n.natAbs:Int)).length=9*(ln n-1)+(dtx y).length/\0<ln n:=by
 have hpos:0<(n.natAbs:Int):=by omega
 obtain⟨l,y,e,y0,y1⟩:=At7 hB1 hpos;have hL:ln n=l.length+1:=by show(dg 1000000000 (n.natAbs:Int)).length=_;rw[e];simp
 have hd:dig 1000000000 l:=(Al1.1 (e▸Bx1 n)).1;obtain⟨e1,_⟩:=Bp9 l y hd y0 y1;rw[<-e,Cj1]at e1;refine⟨y,y0,y1,?_,?_,by omega⟩
 ·show C6 (dg 1000000000 (n.natAbs:Int)) _=_;rw[hL,show((l.length+1:Nat):Int)-1=(l.length:Int) by omega,Ab9,e];simp
 ·rw[M3 hpos,e1,K4,List.length_append,Dx4,M3 y0,K4,hL];omega
theorem Bz3{n:Int}(hl:ln n<=100000000):Fq7 (W n)=some ((dtx (n.natAbs:Int)).length:Int):=by
 have hlen:(W n).mag.length=ln n:=rfl;unfold Fq7;rw[List.length_map,hlen];by_cases h0:n=0
 ·subst h0;rw[Hg3];rfl
 obtain⟨y,y0,y1,hg,hd,hp⟩:=Dv2 h0;have hdy:(dtx y).length<=9:=(Gy7 (Int.le_of_lt y0) y1).2;rw[show((ln n:Int)==0)=false by rw[beq_eq_false_iff_ne];omega];simp only[cond_false];rw[E7 (i:=(ln n:Int)-1) (by omega) (by omega),hg,sb,E7 (i:=y) (by omega) (by omega),Be4 (by omega) (by omega),sb,Av3 (by omega),E7 (i:=9*((ln n:Int)-1)) (by omega) (by omega),E7 (by omega) (by omega)];congr 1;omega
theorem Ho3{s:List UInt8}:Fw2 s [45]=some (s.head? ==some 45):=by
 unfold Fw2;cases s with
 |nil=>rfl
 |cons c s=>
  rw[dT_ (show(((c::s).length:Nat):Int)>=(([45]:List UInt8).length:Int) by simp;omega)];simp only[cond_true];rw[E1 (by simp),sb];congr 1;simp
theorem Gj0{s:List UInt8}:Ez4 s [45]=some (if s.head? =some 45 then s.tail else s):=by
 unfold Ez4 Gk1;rw[Ho3,sb];cases s with
 |nil=>rfl
 |cons c s=>
  by_cases h:c=45
  ·subst h;simp only[List.head?_cons,beq_self_eq_true,cond_true,if_true];rw[E1 (by simp;omega),sb];simp
  ·have:((c::s).head? ==some 45)=false:=by simpa using h
   rw[this];simp[h]
theorem Hg6{s:List UInt8}(hs:∀c∈s,48<=c.toNat/\c.toNat<=57)(hl:s.length<=9):∀(r i k:Nat) (a:Int),i+r=s.length->r<k->0<=a->a<10^i->Z7 s k a (i:Int)=some (fv a (s.drop i),false)
 |0,i,0,_,_,h,_,_=>absurd h (by omega)
 |r+1,i,0,_,_,h,_,_=>absurd h (by omega)
 |0,i,k+1,a,hi,_,_,_=>by
  unfold Z7;rw[dge (by rw[List.length_map];omega),List.drop_of_length_le (by omega)];rfl
 |r+1,i,k+1,a,hi,hk,h0,h1=>by
  unfold Z7;have hil:i<s.length:=by omega
  have hc:=hs s[i] (List.getElem_mem hil);have hcI:48<=(s[i].toNat:Int)/\(s[i].toNat:Int)<=57:=by omega
  have hg:C6 (s.map toI) (i:Int)=some (s[i].toNat:Int):=by rw[C7 (by simpa using hil)];simp[toI]
  rw[dlt (by rw[List.length_map];omega),hg];simp only[cond_true,sb];rw[dT_ hcI.1,dT_ hcI.2];have h95:(bif ((s[i].toNat:Int))==95 then some () else some ())=some ():=by cases ((s[i].toNat:Int))==95<;>rfl
  rw[h95];simp only[cond_true,sb];have wu8:∀{x:Int},0<=x->x<256->IntKind.u8.wrap x=x:=fun{x} h h'=>by
   have e8:(2^IntKind.u8.bits:Int)=256:=rfl;unfold IntKind.wrap;simp only[e8,show IntKind.u8.signed=false from rfl,Bool.false_and];rw[if_neg (by decide)];exact Int.emod_eq_of_lt h h'
  have h9:(10:Int)^i<=100000000:=by
   have h8:i<=8:=by omega
   have:=F0 h10 h8;have:(10:Int)^8=100000000:=by decide
   omega
  have hmax:u64.wrap ((u64.wrap (1*2^(min (Int.toNat (u64.wrap 32)) u64.bits)))-1)=4294967295:=by kernel_rfl
  unfold Ba2;rw[wu8 (x:=(s[i].toNat:Int)-48) (by omega) (by omega),wu8 (x:=10) (by decide) (by decide),dF_ (by omega),hmax];simp only[cond_false];rw[dF_ (show¬a>=1844674407370955162 by omega)];simp only[cond_false];rw[O1 (i:=10) (by decide) (by decide),O1 (i:=a*10) (by omega) (by omega),O1 (i:=(s[i].toNat:Int)-48) (by omega) (by omega),O1 (i:=a*10+((s[i].toNat:Int)-48)) (by omega) (by omega),dF_ (show¬a*10+((s[i].toNat:Int)-48)<a*10 by omega),dF_ (show¬a*10+((s[i].toNat:Int)-48)>4294967295 by omega)];simp only[cond_false,sb];rw[wi i (by omega),Hg6 hs hl r (i+1) k _ (by omega) (by omega) (by omega) (by rw[Int.pow_succ];omega),List.drop_eq_getElem_cons hil];rw[fv,show a*10+((s[i].toNat:Int)-48)=10*a+((s[i].toNat:Int)-48) by omega]
theorem Gy9{fuel:Nat}{s:List UInt8}(hs:∀c∈s,48<=c.toNat/\c.toNat<=57)(h0:s≠[])(hl:s.length<=9)(hf:10<fuel):Fu3 fuel s=some (fv 0 s,false):=by
 unfold Fu3 Gk2;rw[show(s==[])=false by simpa using h0];simp only[cond_false];rw[E1 (by decide),show(0:Int)=((0:Nat):Int) from rfl,Hg6 hs hl s.length 0 fuel _ (by omega) (by omega) (by omega) (by decide),sb,List.drop_zero];rfl
theorem Ex1{fuel:Nat}{d0 y1:List UInt8}(hf:10<fuel)(hb:y1.length<=1000000000):∀(k:Nat) (l:List Int) (t:List UInt8) (acc:List Int),dig 10 l->y1=ltr l++t->l.length<k->acc.length+l.length<=2000000000->
 ∃m,Av7 fuel d0 y1 k (l.length:Int) acc=Option.bind (Bi0 fuel (decide ((y1.length:Int)<(d0.length:Int))) (acc++m)) (fun y5=>some y5)/\dig 1000000000 m/\m.length<=l.length/\val 1000000000 m=val 10 l
 |0,_,_,_,_,_,h,_=>absurd h (by omega)
 |k+1,l,t,acc,hd,hy,hk,hacc=>by
  have hylen:y1.length=l.length+t.length:=by rw[hy,List.length_append,K4]
  unfold Av7;by_cases h0:l.length=0
  ·have:l=[]:=List.eq_nil_of_length_eq_zero h0;subst this;rw[dF_ (by simp)];simp only[cond_false];exact⟨[],by simp,J2,by simp,rfl⟩
  ·rw[dT_ (show(l.length:Int)>0 by omega),E7 (i:=(l.length:Int)-9) (by omega) (by omega)];simp only[cond_true];have hst:(bif decide ((l.length:Int)-9>0) then(l.length:Int)-9 else 0)=((l.drop 9).length:Int):=by
    rw[List.length_drop];by_cases h:(l.length:Int)-9>0
    ·rw[dT_ h];simp only[cond_true];omega
    ·rw[dF_ h];simp only[cond_false];omega
   have hdl:(l.drop 9).length<=l.length:=by rw[List.length_drop];omega
   rw[hst,E1 (by simp;omega)];have hp:(y1.drop (Int.toNat ((l.drop 9).length:Int))).take (Int.toNat ((l.length:Int)-((l.drop 9).length:Int)))=ltr (l.take 9):=by
    have e:ltr l=ltr (l.drop 9)++ltr (l.take 9):=by rw[<-U1,List.take_append_drop]
    have e2:((l.drop 9).length:Int).toNat=(ltr (l.drop 9)).length:=by rw[K4];omega
    have e3:((l.length:Int)-((l.drop 9).length:Int)).toNat=(ltr (l.take 9)).length:=by rw[K4,List.length_take,List.length_drop];omega
    rw[hy,e,e2,e3,List.append_assoc,List.drop_left,List.take_left]
   have hpl:(ltr (l.take 9)).length<=9:=by rw[K4,List.length_take];omega
   rw[hp,Gy9 (Cb9 (F9 hd 9)) (fun h=>by
    have:=congrArg List.length h;rw[K4,List.length_take,List.length_nil]at this;omega) hpl hf,sb]
   dsimp only;have hv:=Ca7 (l.take 9) (F9 hd 9) 0;rw[Int.zero_mul,Int.zero_add]at hv;have hv0:=M5 (show(0:Int)<10 by decide) (F9 hd 9);have hv1:val 10 (l.take 9)<1000000000:=by
    have h1:=Ar2 (show(0:Int)<10 by decide) (F9 hd 9);have h2:=F0 h10 (show(l.take 9).length<=9 by rw[List.length_take];omega);rw[Fp8]at h2;omega
   rw[hv,Ar5 hv0 (by omega),V1 _ _ (by simp;omega),sb];by_cases h9:l.length<=9
   ·have hd9:l.drop 9=[]:=List.drop_of_length_le h9;have ht9:l.take 9=l:=List.take_of_length_le h9;rw[ht9]at hv0 hv1⊢;obtain⟨k',rfl⟩:∃k',k=k'+1:=⟨k-1,by omega⟩
    unfold Av7;rw[dF_ (show¬(l.length:Int)-9>0 by omega)];simp only[cond_false];exact⟨[val 10 l],rfl,E3.2 ⟨⟨hv0,hv1⟩,J2⟩,by simp;omega,by simp[val]⟩
   ·have e9:(l.length:Int)-9=((l.drop 9).length:Int):=by rw[List.length_drop];omega
    obtain⟨m,e1,e2,e3,e4⟩:=Ex1 (fuel:=fuel) (d0:=d0) (y1:=y1) hf hb k (l.drop 9) (ltr (l.take 9)++t) (acc++[val 10 (l.take 9)]) (L8 hd 9) (by rw[hy,<-List.append_assoc,<-U1,List.take_append_drop]) (by rw[List.length_drop];omega) (by rw[List.length_append,List.length_drop];simp;omega);rw[e9,e1];refine⟨val 10 (l.take 9)::m,by simp,E3.2 ⟨⟨hv0,hv1⟩,e2⟩,by rw[List.length_drop]at e3;simp;omega,?_⟩;rw[Cf7,e4,U8 (B:=10) l 9 (by omega),Fp8]
def dg0(n:Int):List Int:=if n<=0 then[0] else dg 10 n
theorem Bq4(n:Int):dtx n=ltr (dg0 n):=by
 unfold dtx dg0;split
 ·rfl
 ·rfl
theorem Dq0{n:Int}:dig 10 (dg0 n):=by
 unfold dg0;split
 ·exact E3.2 ⟨⟨by decide,by decide⟩,J2⟩
 ·exact H6 h10 n (by omega)
theorem Dq1{n:Int}(h:0<=n):val 10 (dg0 n)=n:=by
 unfold dg0;split
 ·simp[val];omega
 ·exact I9 h10 n h
theorem Bg2{fuel:Nat}{n:Int}(hl:(tx n).length<=1000000000)(hf:(tx n).length+10<fuel):F72 fuel (tx n)=some (W n):=by
 have key:∀(d0:List UInt8) (x:Int) (neg:Bool),0<=x->(dtx x).length<=1000000000->(dtx x).length+10<fuel->decide (((dtx x).length:Int)<(d0.length:Int))=neg->Av7 fuel d0 (dtx x) fuel ((dtx x).length:Int) []=some (W (sg neg x)):=by
  intro d0 x neg hx h1 h2 h3;have hll:(dtx x).length=(dg0 x).length:=by rw[Bq4,K4]
  obtain⟨m,e1,e2,e3,e4⟩:=Ex1 (fuel:=fuel) (d0:=d0) (y1:=dtx x) (by omega) h1 fuel (dg0 x) [] [] Dq0 (by rw[Bq4];simp) (by omega) (by simp;omega);rw[<-hll]at e1;rw[e1,List.nil_append,N8 e2 (by omega) (by omega),sb,h3,e4,Dq1 hx]
 unfold F72;rw[Gj0,sb];by_cases hn:n<0
 ·have ht:tx n=45::dtx (-n):=if_pos hn;rw[ht]at hl hf⊢;simp only[List.length_cons]at hl hf;simp only[List.head?_cons,if_true,List.tail_cons];rw[key (45::dtx (-n)) (-n) true (by omega) (by omega) (by omega) (dT_ (by simp;omega))];congr 2;unfold sg;simp only[cond_true];omega
 ·have ht:tx n=dtx n:=if_neg hn;rw[ht]at hl hf⊢;have hh:(dtx n).head?≠some 45:=by
   intro h;have hm:=List.mem_of_mem_head? h;exact absurd (G9 (show 0<=n by omega) 45 hm).1 (by decide)
  rw[if_neg hh,key (dtx n) n false (by omega) (by omega) (by omega) (dF_ (by omega))];rfl
end
section
theorem hB4:(1:Int)<10000:=by decide
theorem Ei8{l:List Int}(h:dig 10000 l){i:Nat}(hi:i<l.length):0<=l[i]/\l[i]<10000:=Dq2 h hi
theorem Cp5{l:List Int}{i:Nat}(hi:i<l.length):val 10000 (l.drop i)=l[i]+10000*val 10000 (l.drop (i+1)):=Az7 hi
theorem U9{l:List Int}{i:Nat}(hi:l.length<=i):val 10000 (l.drop i)=0:=by rw[List.drop_of_length_le hi];rfl
theorem Ec5(x:Int)(l:List Int):val 10000 (x::l)=x+10000*val 10000 l:=rfl
theorem Fp7:(10:Int)^4=10000:=by decide
theorem Es6:∀(k:Nat) (l:List Int),l.length<k->l.length<=2147483648->As4 k l=some (Bh4 l)
 |0,l,h,_=>absurd h (by omega)
 |k+1,l,h,hl=>by
  unfold As4;rcases List.eq_nil_or_concat l with rfl|⟨m,y,rfl⟩
  ·simp[Bh4]
  ·rw[List.concat_eq_append]at*;simp only[List.length_append,List.length_cons,List.length_nil]at h hl;have hw:i64.wrap ((((m++[y]).map A6).length:Int)-1)=((m.length:Nat):Int):=by
    rw[List.length_map,List.length_append];simp only[List.length_cons,List.length_nil];rw[E7 (by omega) (by omega)];omega
   have hg:C6 (m++[y]) ((m.length:Nat):Int)=some y:=by rw[Ab9];simp
   have hp:decide ((((m++[y]).map A6).length:Int)>0)=true:=dT_ (by rw[List.length_map,List.length_append];simp);rw[hp,hw,hg];simp only[cond_true,sb];by_cases hy:y=0
   ·subst hy;simp only[beq_self_eq_true,cond_true];rw[Fp3 (by simp),sb,List.take_left,Es6 k m (by omega) (by omega),Av2]
   ·have:(y==0)=false:=by simpa using hy
    simp only[this,cond_false];rw[Aq8 hy]
theorem Ft1{fuel:Nat}{l:List Int}(hd:dig 10000 l)(hl:l.length<=2147483648)(hf:l.length<fuel):Ed4 fuel l=some (dg 10000 (val 10000 l)):=by
 unfold Ed4;rw[Es6 fuel l hf hl,Bh5 hB4 hd]
theorem Gh8{s:List UInt8}{acc:List Int}{e:Nat}{rec_:Int->List Int->Option (List Int)}(hs:∀c∈s,48<=c.toNat/\c.toNat<=57)(he:e<=s.length)(hb:e<=2000000000):∀(r i k:Nat) (a:Int),i+r=e->r<k->r<=4->0<=a->a<10^(4-r)->
 An3 s acc (e:Int) rec_ k a (i:Int)=Option.bind (app acc [fv a ((s.drop i).take r)]) fun l10=>rec_ (i64.wrap ((e:Int)-4)) l10
 |0,i,0,_,_,h,_,_,_=>absurd h (by omega)
 |r+1,i,0,_,_,h,_,_,_=>absurd h (by omega)
 |0,i,k+1,a,hi,_,_,_,_=>by
  unfold An3;rw[dF_ (by omega)];simp only[cond_false,List.take_zero,fv]
 |r+1,i,k+1,a,hi,hk,hr,h0,h1=>by
  have hil:i<s.length:=by omega
  have hc:=hs s[i] (List.getElem_mem hil);have h3:(10:Int)^(4-(r+1))<=1000:=by
   have:=F0 h10 (show 4-(r+1)<=3 by omega);have:(10:Int)^3=1000:=by decide
   omega
  unfold An3;rw[dT_ (show(i:Int)<(e:Int) by omega),C7 hil];simp only[cond_true,sb];have wu8:∀{x:Int},0<=x->x<256->IntKind.u8.wrap x=x:=fun{x} h h'=>by
   have e8:(2^IntKind.u8.bits:Int)=256:=rfl;unfold IntKind.wrap;simp only[e8,show IntKind.u8.signed=false from rfl,Bool.false_and];rw[if_neg (by decide)];exact Int.emod_eq_of_lt h h'
  rw[wu8 (x:=(s[i].toNat:Int)-48) (by omega) (by omega),E7 (i:=(s[i].toNat:Int)-48) (by omega) (by omega),E7 (i:=10*a) (by omega) (by omega),E7 (i:=10*a+((s[i].toNat:Int)-48)) (by omega) (by omega),wi i (by omega)];have h4:(10:Int)^(4-r)=10*10^(4-(r+1)):=by rw[<-P0];congr 1;omega
  rw[Gh8 hs he hb r (i+1) k _ (by omega) (by omega) (by omega) (by omega) (by rw[h4];omega),List.drop_eq_getElem_cons hil,List.take_succ_cons,fv]
theorem Gh7{fuel:Nat}{y1:List UInt8}(hs:∀c∈y1,48<=c.toNat/\c.toNat<=57)(hf:2000000010<fuel)(hb:y1.length<=1000000000):∀(k:Nat) (l:List Int) (t:List UInt8) (acc:List Int),dig 10 l->y1=ltr l++t->l.length<k->acc.length+l.length<=2000000000->dig 10000 acc->
 Ad5 fuel y1 k (l.length:Int) acc=some (dg 10000 (val 10000 acc+10000^acc.length*val 10 l))
 |0,_,_,_,_,_,h,_,_=>absurd h (by omega)
 |k+1,l,t,acc,hd,hy,hk,hacc,hda=>by
  have hylen:y1.length=l.length+t.length:=by rw[hy,List.length_append,K4]
  unfold Ad5;by_cases h0:l.length=0
  ·have:l=[]:=List.eq_nil_of_length_eq_zero h0;subst this;rw[dF_ (by simp)];simp only[cond_false];rw[Ft1 hda (by omega) (by omega),sb];simp[val]
  ·rw[dT_ (show(l.length:Int)>0 by omega),E7 (i:=(l.length:Int)-4) (by omega) (by omega)];simp only[cond_true];have hst:(bif decide ((l.length:Int)-4>0) then(l.length:Int)-4 else 0)=((l.drop 4).length:Int):=by
    rw[List.length_drop];by_cases h:(l.length:Int)-4>0
    ·rw[dT_ h];simp only[cond_true];omega
    ·rw[dF_ h];simp only[cond_false];omega
   have hdl:(l.drop 4).length+(l.take 4).length=l.length:=by rw[List.length_drop,List.length_take];omega
   have ht4:(l.take 4).length<=4:=by rw[List.length_take];omega
   rw[hst,Gh8 hs (by omega) (by omega) (l.take 4).length (l.drop 4).length fuel 0 (by omega) (by omega) ht4 (by omega) (R8 (by decide) _)];have hp:(y1.drop (l.drop 4).length).take (l.take 4).length=ltr (l.take 4):=by
    have e:ltr l=ltr (l.drop 4)++ltr (l.take 4):=by rw[<-U1,List.take_append_drop]
    have e2:(l.drop 4).length=(ltr (l.drop 4)).length:=by rw[K4]
    have e3:(l.take 4).length=(ltr (l.take 4)).length:=by rw[K4]
    rw[hy,e,e2,e3,List.append_assoc,List.drop_left,List.take_left]
   rw[hp];have hv:=Ca7 (l.take 4) (F9 hd 4) 0;rw[Int.zero_mul,Int.zero_add]at hv;have hv0:=M5 (show(0:Int)<10 by decide) (F9 hd 4);have hv1:val 10 (l.take 4)<10000:=by
    have h1:=Ar2 (show(0:Int)<10 by decide) (F9 hd 4);have h2:=F0 h10 ht4;rw[Fp7]at h2;omega
   rw[hv,V1 _ _ (by simp;omega),sb];have hda':dig 10000 (acc++[val 10 (l.take 4)]):=Al1.2 ⟨hda,E3.2 ⟨⟨hv0,hv1⟩,J2⟩⟩;have hva:val 10000 (acc++[val 10 (l.take 4)])=val 10000 acc+10000^acc.length*val 10 (l.take 4):=by rw[Am3];simp[val]
   by_cases h9:l.length<=4
   ·have ht9:l.take 4=l:=List.take_of_length_le h9;rw[ht9]at hda' hva⊢;rw[E7 (by omega) (by omega)];obtain⟨k',rfl⟩:∃k',k=k'+1:=⟨k-1,by omega⟩
    unfold Ad5;rw[dF_ (show¬(l.length:Int)-4>0 by omega)];simp only[cond_false];rw[Ft1 hda' (by simp;omega) (by simp;omega),sb,hva]
   ·have e9:(l.length:Int)-4=((l.drop 4).length:Int):=by rw[List.length_drop];omega
    rw[E7 (by omega) (by omega),e9,Gh7 hs hf hb k (l.drop 4) (ltr (l.take 4)++t) _ (L8 hd 4) (by rw[hy,<-List.append_assoc,<-U1,List.take_append_drop]) (by rw[List.length_drop];omega) (by rw[List.length_append,List.length_drop];simp;omega) hda',hva];have hvs:val 10 l=val 10 (l.take 4)+10^4*val 10 (l.drop 4):=U8 (B:=10) l 4 (by omega);rw[hvs,Fp7,List.length_append,List.length_cons,List.length_nil,Int.pow_succ];congr 2;generalize (10000:Int)^acc.length=X;grind
theorem Gh6{r:List UInt8}{acc:List Int}{v:Int}{rec_:Int->List Int->Option (List Int)}:∀(k:Nat),Bk6 (45::r) acc v rec_ k=An3 r acc v rec_ k
 |0=>by funext a i;rfl
 |k+1=>by
  funext a i;unfold Bk6 An3;rw[Gh6 k];have:(((45::r).drop (Int.toNat 1)).take (Int.toNat (((45::r).length:Int)-1)))=r:=by simp
  rw[this]
theorem Gh5{fuel:Nat}{r:List UInt8}:∀(k:Nat),Bb2 fuel (45::r) k=Ad5 fuel r k
 |0=>by funext v l;rfl
 |k+1=>by
  funext v l;unfold Bb2 Ad5;rw[Gh5 k,Gh6]
theorem Ec0{n:Int}:∃c s,tx n=c::s/\((c.toNat:Int)==45)=decide (n<0)/\(n<0->c=45/\s=dtx (-n))/\(¬n<0->c::s=dtx n):=by
 by_cases h:n<0
 ·exact⟨45,dtx (-n),if_pos h,by rw[dT_ h];rfl,fun _=>⟨rfl,rfl⟩,fun h'=>absurd h h'⟩
 ·have ht:tx n=dtx n:=if_neg h;cases hd:dtx n with
  |nil=>exact absurd hd Bm0
  |cons c s=>
   have hc:=G9 (show 0<=n by omega) c (by rw[hd];exact List.mem_cons_self);refine⟨c,s,by rw[ht,hd],?_,fun h'=>absurd h' h,fun _=>rfl⟩;rw[dF_ h,beq_eq_false_iff_ne];omega
theorem Ap5{n:Int}:F94 (tx n)=some (decide (n<0)):=by
 obtain⟨c,s,e,h1,_,_⟩:=Ec0 (n:=n);unfold F94;rw[e,show C6 (c::s) 0=some c from rfl,sb,h1]
def d4(n:Int):List Int:=dg 10000 (n.natAbs:Int)
theorem Au4{fuel:Nat}{n:Int}(hl:(tx n).length<=1000000000)(hf:2000000010<fuel):F96 fuel (tx n)=some (d4 n):=by
 have key:∀x:Int,0<=x->(dtx x).length<=1000000000->Ad5 fuel (dtx x) fuel ((dtx x).length:Int) []=some (dg 10000 x):=by
  intro x hx h1;have hll:(dtx x).length=(dg0 x).length:=by rw[Bq4,K4]
  have:=Gh7 (fuel:=fuel) (G9 hx) hf h1 fuel (dg0 x) [] [] Dq0 (by rw[Bq4];simp) (by omega) (by simp;omega) J2;rw[<-hll,Dq1 hx]at this;rw[this];simp[val]
 obtain⟨c,s,e,h1,h2,h3⟩:=Ec0 (n:=n);unfold F96;rw[e]at hl⊢;rw[show C6 (c::s) 0=some c from rfl,sb,h1];by_cases hn:n<0
 ·rw[dT_ hn];obtain⟨rfl,rfl⟩:=h2 hn;simp only[cond_true];rw[E1 (by simp;omega),Gh5];have:(((45::dtx (-n)).drop (Int.toNat 1)).take (Int.toNat (((45::dtx (-n)).length:Int)-1)))=dtx (-n):=by simp
  rw[this,key (-n) (by omega) (by simp at hl;omega)];unfold d4;rw[show((n.natAbs:Nat):Int)= -n by omega]
 ·rw[dF_ hn];simp only[cond_false];have h3:=h3 hn;rw[h3]at hl⊢;rw[key n (by omega) hl];unfold d4;rw[show((n.natAbs:Nat):Int)=n by omega]
theorem Gr3{d u:Int}(h0:0<=d)(h1:d<10000)(hu:0<u):IntKind.u8.wrap (i64.wrap (48+(Int.tmod (i64.wrap (Int.tdiv d u)) 10)))=toI (chr (d/u%10)):=by
 have h2:=Int.ediv_nonneg h0 (Int.le_of_lt hu);have h3:d/u<=d:=Int.ediv_le_self _ h0;have wu8:∀{x:Int},0<=x->x<256->IntKind.u8.wrap x=x:=fun{x} h h'=>by
  have e8:(2^IntKind.u8.bits:Int)=256:=rfl;unfold IntKind.wrap;simp only[e8,show IntKind.u8.signed=false from rfl,Bool.false_and];rw[if_neg (by decide)];exact Int.emod_eq_of_lt h h'
 rw[(tdm h0).1,E7 (i:=d/u) (by omega) (by omega),(tdm h2).2,E7 (by omega) (by omega),wu8 (by omega) (by omega)];exact(Bc8 (by omega) (by omega)).symm
theorem Af6{dl:List Int}{v7 d u:Int}{rec_:Int->List Int->Option (List UInt8)}{k:Nat}{acc:List UInt8}(hg:C6 dl v7=some d)(h0:0<=d)(h1:d<10000)(hu:0<u)(hu1:u<=1000)(hb:acc.length<=2147483640):
 X8 dl v7 rec_ (k+1) u (acc.map toI)=X8 dl v7 rec_ k (u/10) ((acc++(if acc=[]/\d/u%10=0 then[] else[chr (d/u%10)])).map toI):=by
 rw[X8];rw[dT_ (show u>0 from hu),hg];simp only[cond_true,sb];rw[E1 (by simp;omega),Gr3 h0 h1 hu];unfold Bw4;rw[(tdm (Int.le_of_lt hu)).1,E7 (i:=u/10) (by omega) (by omega)];have hc:((toI (chr (d/u%10))) !=48)=decide (d/u%10≠0):=by
  have:=Bc8 (x:=d/u%10) (by omega) (by omega);unfold toI;rw[this];by_cases h:d/u%10=0
  ·rw[h];rfl
  ·rw[dT_ h];simp;omega
 rw[hc,List.length_map,List.length_map];by_cases ha:acc=[]
 ·subst ha;rw[show decide (((([]:List UInt8).length:Nat):Int)>0)=false from rfl];simp only[cond_false,sb];by_cases hz:d/u%10=0
  ·rw[dF_ (by simpa using hz),if_pos ⟨trivial,hz⟩];simp
  ·rw[dT_ hz,if_neg (fun h=>hz h.2)];simp only[cond_true];rw[V1 _ _ (by simp),sb];rfl
 ·rw[dT_ (show(acc.length:Int)>0 by have:=List.length_pos_iff.2 ha;omega),if_neg (fun h=>ha h.1)];simp only[cond_true,sb];rw[V1 _ _ (by simp;omega),sb];simp
theorem Ey4{dl:List Int}{v7:Int}{rec_:Int->List Int->Option (List UInt8)}{k:Nat}{acc:List Int}:X8 dl v7 rec_ (k+1) 0 acc=rec_ (i64.wrap (v7-1)) acc:=by
 rw[X8];rfl
theorem Cd4{d:Int}(_:0<=d):ltr (pd 4 d)=[chr (d/1000%10),chr (d/100%10),chr (d/10%10),chr (d/1%10)]:=by
 simp only[pd,ltr,List.reverse_cons,List.reverse_nil,List.nil_append,List.cons_append,List.map_cons,List.map_nil];rw[show d/10/10/10=d/1000 by omega,show d/10/10=d/100 by omega,show d/1=d by omega]
theorem Fq3{dl:List Int}{v7 d:Int}{rec_:Int->List Int->Option (List UInt8)}{k:Nat}{acc:List UInt8}(hg:C6 dl v7=some d)(h0:0<=d)(h1:d<10000)(hb:acc.length<=2147483600)(ha:acc≠[])(hk:6<k):
 X8 dl v7 rec_ k 1000 (acc.map toI)=rec_ (i64.wrap (v7-1)) ((acc++ltr (pd 4 d)).map toI):=by
 obtain⟨k,rfl⟩:∃j,k=j+5:=⟨k-5,by omega⟩
 have hne:∀(x:List UInt8) (y:UInt8),¬(x++[y]=[]/\True):=fun x y h=>by simp at h
 rw[Af6 hg h0 h1 (by decide) (by decide) (by omega),if_neg (fun h=>ha h.1)];rw[Af6 hg h0 h1 (by decide) (by decide) (by simp;omega),if_neg (fun h=>by simp at h)];rw[Af6 hg h0 h1 (by decide) (by decide) (by simp;omega),if_neg (fun h=>by simp at h)];rw[Af6 hg h0 h1 (by decide) (by decide) (by simp;omega),if_neg (fun h=>by simp at h)];rw[show(1000:Int)/10/10/10/10=0 by decide,Ey4,Cd4 h0];rw[show(1000:Int)/10/10/10=1 by decide,show(1000:Int)/10/10=10 by decide,show(1000:Int)/10=100 by decide];simp
theorem Eo4{dl:List Int}{v7 d:Int}{rec_:Int->List Int->Option (List UInt8)}{k:Nat}(hg:C6 dl v7=some d)(h0:0<d)(h1:d<10000)(hk:6<k):
 X8 dl v7 rec_ k 1000 []=rec_ (i64.wrap (v7-1)) ((dtx d).map toI):=by
 obtain⟨k,rfl⟩:∃j,k=j+5:=⟨k-5,by omega⟩
 have hp:=Fn5 4 d (by omega) (by rw[Fp7];exact h1);have hd:∀z:Nat,4-(dg 10 d).length=z->ltr (pd 4 d)=List.replicate z 48++dtx d:=fun z hz=>by
  have hr:∀n,ltr (List.replicate n (0:Int))=List.replicate n 48:=fun n=>by
   unfold ltr;rw[List.reverse_replicate,List.map_replicate];rfl
  rw[hp,U1,hr,M3 h0,hz]
 rw[show([]:List Int)=([]:List UInt8).map toI from rfl];rw[Af6 hg (by omega) h1 (by decide) (by decide) (by simp)];rw[Af6 hg (by omega) h1 (by decide) (by decide) (by split<;>simp)];rw[Af6 hg (by omega) h1 (by decide) (by decide) (by split<;>split<;>simp)];rw[Af6 hg (by omega) h1 (by decide) (by decide) (by split<;>split<;>split<;>simp)];rw[show(1000:Int)/10/10/10/10=0 by decide,Ey4];rw[show(1000:Int)/10/10/10=1 by decide,show(1000:Int)/10/10=10 by decide,show(1000:Int)/10=100 by decide];congr 2;have hlen:∀z:Nat,10^(3-z)<=d->d<10^(4-z)->z<=3->4-(dg 10 d).length=z:=fun z ha hb hz=>by
  have a:=Ct8 hb;have b:3-z<(dg 10 d).length:=by
   rcases Nat.lt_or_ge (3-z) (dg 10 d).length with h|h
   ·exact h
   ·have:=Ad7 h10 (show 0<=d by omega);have:=F0 h10 h;omega
  omega
 have e0:(10:Int)^0=1:=by decide
 have e1:(10:Int)^1=10:=by decide
 have e2:(10:Int)^2=100:=by decide
 have e3:(10:Int)^3=1000:=by decide
 by_cases c3:1000<=d
 ·have:=hd 0 (hlen 0 (by show(10:Int)^3<=d;omega) (by show d<(10:Int)^4;rw[Fp7];omega) (by omega));rw[Cd4 (by omega)]at this;rw[if_neg (by intro h;omega),if_neg (by intro h;simp at h),if_neg (by intro h;simp at h),if_neg (by intro h;simp at h)];simpa using this
 ·by_cases c2:100<=d
  ·have:=hd 1 (hlen 1 (by show(10:Int)^2<=d;omega) (by show d<(10:Int)^3;omega) (by omega));rw[Cd4 (by omega),show d/1000%10=0 by omega]at this;rw[if_pos ⟨rfl,by omega⟩,if_neg (by intro h;omega),if_neg (by intro h;simp at h),if_neg (by intro h;simp at h)];have:=(List.cons.inj this).2;simpa using this
  ·by_cases c1:10<=d
   ·have:=hd 2 (hlen 2 (by show(10:Int)^1<=d;omega) (by show d<(10:Int)^2;omega) (by omega));rw[Cd4 (by omega),show d/1000%10=0 by omega,show d/100%10=0 by omega]at this;rw[if_pos ⟨rfl,by omega⟩,if_pos ⟨rfl,by omega⟩,if_neg (by intro h;omega),if_neg (by intro h;simp at h)];have:=(List.cons.inj (List.cons.inj this).2).2;simpa using this
   ·have:=hd 3 (hlen 3 (by show(10:Int)^0<=d;omega) (by show d<(10:Int)^1;omega) (by omega));rw[Cd4 (by omega),show d/1000%10=0 by omega,show d/100%10=0 by omega,show d/10%10=0 by omega]at this;rw[if_pos ⟨rfl,by omega⟩,if_pos ⟨rfl,by omega⟩,if_pos ⟨rfl,by omega⟩,if_neg (by intro h;omega)];have:=(List.cons.inj (List.cons.inj (List.cons.inj this).2).2).2;simpa using this
def Cn9:List Int->List Int
 |[]=>[]
 |x::l=>pd 4 x++Cn9 l
theorem Cy5:∀(l m:List Int),Cn9 (l++m)=Cn9 l++Cn9 m
 |[],m=>rfl
 |x::l,m=>by rw[List.cons_append,Cn9,Cn9,Cy5 l m,List.append_assoc]
theorem Bz1:∀(l:List Int) (y:Int),dig 10000 l->0<y->y<10000->dg 10 (val 10000 (l++[y]))=Cn9 l++dg 10 y/\0<val 10000 (l++[y])
 |[],y,_,h0,h1=>by simp[val,Cn9,h0]
 |x::l,y,hd,h0,h1=>by
  have hd:=E3.1 hd;obtain⟨e1,e2⟩:=Bz1 l y hd.2 h0 h1;rw[List.cons_append,Ec5];refine⟨?_,by omega⟩;have:=Fh4 4 x (val 10000 (l++[y])) hd.1.1 (by rw[Fp7];exact hd.1.2) e2;rw[Fp7]at this;rw[this,e1,Cn9,List.append_assoc]
theorem Gj3{fuel:Nat}{neg:Bool}{dl:List Int}(hd:dig 10000 dl)(hf:10<fuel)(hb:dl.length<=400000000):∀(i k:Nat) (acc:List UInt8),i<=dl.length->i<k->acc≠[]->acc.length+4*i<=2000000000->
 Ai0 fuel neg dl k ((i:Int)-1) (acc.map toI)=some (bif neg then 45::(acc++ltr (Cn9 (dl.take i))) else acc++ltr (Cn9 (dl.take i)))
 |0,0,_,_,h,_,_=>absurd h (by omega)
 |i+1,0,_,_,h,_,_=>absurd h (by omega)
 |0,k+1,acc,_,_,ha,hacc=>by
  unfold Ai0;rw[dF_ (by omega)];simp only[cond_false];have ht:(acc.map toI).map toB=acc:=Eb8 acc;rw[ht];cases neg
  ·simp[Cn9,ltr]
  ·simp only[cond_true];rw[E1 (by simp;omega)];simp[Cn9,ltr]
 |i+1,k+1,acc,hi,hk,ha,hacc=>by
  obtain⟨a1,a2⟩:=Ei8 hd (show i<dl.length by omega);unfold Ai0;rw[show(((i+1:Nat):Int)-1)=(i:Int) by omega,dT_ (show(i:Int)>=0 by omega)];simp only[cond_true];have hpl:(ltr (pd 4 dl[i])).length=4:=by rw[K4,Cy4]
  rw[Fq3 (C7 (show i<dl.length by omega)) a1 a2 (by omega) ha (by omega),wip i (by omega),Gj3 hd hf hb i k _ (by omega) (by omega) (by simp[ha]) (by rw[List.length_append,hpl];omega),List.take_succ_eq_append_getElem (by omega),Cy5,U1,List.append_assoc];simp[Cn9]
theorem Bh9{fuel:Nat}{neg:Bool}{x:Int}(hx:0<=x)(hl:(dg 10000 x).length<=400000000)(hf:500000000<fuel):F98 fuel neg (dg 10000 x)=some (tx (sg neg x)):=by
 unfold F98;rw[List.length_map];by_cases h0:x=0
 ·subst h0;rw[E9 (Int.le_refl _)];cases neg<;>rfl
 ·obtain⟨l,y,e,y0,y1⟩:=At7 hB4 (show 0<x by omega);have hL:(dg 10000 x).length=l.length+1:=by rw[e];simp
  have hdx:=H6 hB4 x hx;have hd:dig 10000 l:=(Al1.1 (e▸hdx)).1;obtain⟨e1,_⟩:=Bz1 l y hd y0 y1;rw[<-e,I9 hB4 x hx]at e1;rw[show(((dg 10000 x).length:Int)==0)=false by rw[beq_eq_false_iff_ne];omega];simp only[cond_false];rw[wip _ (by omega)];obtain⟨f,rfl⟩:∃f,fuel=f+1:=⟨fuel-1,by omega⟩
  have hg:C6 (dg 10000 x) ((l.length:Nat):Int)=some y:=by rw[Ab9,e];simp
  rw[Ai0,show((dg 10000 x).length:Int)-1=((l.length:Nat):Int) by omega,dT_ (show((l.length:Nat):Int)>=0 by omega)];simp only[cond_true];have hdy:(dtx y).length<=4:=Cu3 (by decide) (by rw[Fp7];exact y1);rw[Eo4 hg y0 y1 (by omega),wip _ (by omega),Gj3 hdx (by omega) hl l.length f (dtx y) (by omega) (by omega) Bm0 (by omega)];have ht:dtx x=dtx y++ltr (Cn9 ((dg 10000 x).take l.length)):=by
   rw[M3 (show 0<x by omega),e1,U1,M3 y0,e,List.take_left]
  rw[<-ht];unfold sg tx;cases neg
  ·simp only[cond_false];rw[if_neg (by omega)]
  ·simp only[cond_true];rw[if_pos (by omega),Int.neg_neg]
end
section
theorem q4(n:Nat):(0:Int)<10000^n:=R8 (by decide) n
theorem wnn{l:List Int}(h:dig 10000 l):0<=val 10000 l:=M5 (by decide) h
theorem wlt{l:List Int}(h:dig 10000 l):val 10000 l<10000^l.length:=Ar2 (by decide) h
theorem Es3{m o:List Int}(hm:dig 10000 m)(ho:dig 10000 o)(he:m.length=o.length)(hl:m.length<=2147483648):∀(i k:Nat),i<=m.length->i<k->m.drop i=o.drop i->Bb1 m o k ((i:Int)-1)=some (R5 (val 10000 m) (val 10000 o))
 |0,0,_,h,_=>absurd h (by omega)
 |0,k+1,_,_,hd=>by
  unfold Bb1;rw[List.drop_zero,List.drop_zero]at hd;subst hd;simp[J1]
 |i+1,0,_,h,_=>absurd h (by omega)
 |i+1,k+1,hi,hk,hd=>by
  unfold Bb1;rw[show(((i+1:Nat):Int)-1)=((i:Nat):Int) by omega,dT_ (show((i:Nat):Int)>=0 by omega),C7 (l:=m) (by omega),C7 (l:=o) (by omega)];simp only[cond_true,sb];by_cases h:m[i]=o[i]
  ·rw[show(m[i] !=o[i])=false by simpa using h];simp only[cond_false];rw[wip i (by omega)];exact Es3 hm ho he hl i k (by omega) (by omega) (by rw[List.drop_eq_getElem_cons (show i<m.length by omega),List.drop_eq_getElem_cons (show i<o.length by omega),h,hd])
  ·rw[show(m[i] !=o[i])=true by simpa using h];simp only[cond_true];rcases Int.lt_or_gt_of_ne h with h'|h'
   ·rw[dT_ h',D8 (Bv3 (by decide) hm ho (by omega) (by omega) hd h')];rfl
   ·rw[dF_ (show¬m[i]<o[i] by omega),D9 (Bv3 (by decide) ho hm (by omega) (by omega) hd.symm h')];rfl
theorem Gm0{fuel:Nat}{a b:Int}(ha:0<=a)(hb:0<=b)(hl:(dg 10000 a).length<=2147483648)(hl2:(dg 10000 b).length<=2147483648)(hf:(dg 10000 a).length<fuel):F95 fuel (dg 10000 a) (dg 10000 b)=some (R5 a b):=by
 unfold F95;rw[List.length_map,List.length_map];by_cases h:(dg 10000 a).length=(dg 10000 b).length
 ·rw[show((((dg 10000 a).length:Nat):Int) !=(((dg 10000 b).length:Nat):Int))=false by rw[h];simp];simp only[cond_false];rw[wip _ (by omega),Es3 (H6 hB4 a ha) (H6 hB4 b hb) h hl _ fuel (Nat.le_refl _) hf (by rw[List.drop_of_length_le (Nat.le_refl _),List.drop_of_length_le (by omega)]),I9 hB4 a ha,I9 hB4 b hb]
 ·rw[show((((dg 10000 a).length:Nat):Int) !=(((dg 10000 b).length:Nat):Int))=true by rw[bne_iff_ne];omega];simp only[cond_true];rcases Nat.lt_or_gt_of_ne h with h'|h'
  ·rw[dT_ (by omega),D8 (K3 hB4 ha hb h')];rfl
  ·rw[dF_ (by omega),D9 (K3 hB4 hb ha h')];rfl
theorem Cf4:∀{l:List Int},(Bh4 l).length=l.length->Bh4 l=l
 |[],_=>rfl
 |x::l,h=>by
  have hle:∀l:List Int,(Bh4 l).length<=l.length:=by
   intro l
   induction l with
   |nil=>exact Nat.le_refl _
   |cons x l ih=>
    rw[Bh4];split
    ·split<;>simp
    ·rename_i y m e;rw[e]at ih;simp at ih⊢;omega
  rw[Bh4]at h⊢;split at h
  ·rename_i e;split at h
   ·simp at h
   ·rename_i hx;have:l=[]:=by
     cases l with
     |nil=>rfl
     |cons y m=>simp at h
    subst this;rw[if_neg hx]
  ·rename_i y m e;have h2:(Bh4 l).length=l.length:=by rw[e];simpa using h
   have:=Cf4 h2;rw[e]at this;show x::y::m=x::l;rw[this]
theorem Fh7{l:List Int}(hd:dig 10000 l)(h:l.length<=(dg 10000 (val 10000 l)).length):l=dg 10000 (val 10000 l):=by
 have e:=Bh5 hB4 hd;have h1:(dg 10000 (val 10000 l)).length<=l.length:=G8 hB4 (wlt hd);have:=Cf4 (l:=l) (by rw[e];omega);rw[<-e,this]
theorem Dx5{m o:List Int}{M:Nat}(hm:dig 10000 m)(ho:dig 10000 o)(hM:M=max m.length o.length)(hb:M<=1073741824):∀(r i k:Nat) (c:Int) (acc:List Int),i+r=M->r+1<k->0<=c->c<=1->acc.length=i->
 ∃t,R1 m o k c (i:Int) acc=some (acc++t)/\dig 10000 t/\(t.length<=r\/(t.length=r+1/\10000^r<=val 10000 t))/\val 10000 t=val 10000 (m.drop i)+val 10000 (o.drop i)+c
 |0,i,k,c,acc,hi,hk,h0,h1,ha=>by
  obtain⟨k,rfl⟩:∃j,k=j+2:=⟨k-2,by omega⟩
  have hmi:m.length<=i:=by omega
  have hoi:o.length<=i:=by omega
  rw[R1,dge hmi,dge hoi,U9 hmi,U9 hoi];simp only[cond_false,sb];by_cases hc:c>0
  ·have hc1:c=1:=by omega
   subst hc1;rw[dT_ hc];simp only[cond_true];rw[V1 _ _ (by simp;omega),sb,show Int.tdiv 1 10000=0 by decide,show i64.wrap 0=0 by decide,wi i (by omega)];rw[R1,dge (show m.length<=i+1 by omega),dge (show o.length<=i+1 by omega)];refine⟨[1],by rfl,E3.2 ⟨⟨by decide,by decide⟩,J2⟩,.inr ⟨by simp,by simp[val]⟩,by simp[val]⟩
  ·rw[dF_ hc];exact⟨[],by simp,J2,.inl (by simp),by simp[val];omega⟩
 |r+1,i,0,_,_,_,h,_,_,_=>absurd h (by omega)
 |r+1,i,k+1,c,acc,hi,hk,h0,h1,ha=>by
  have step:∀(S:Int),0<=S->S<20000->S+10000*(val 10000 (m.drop (i+1))+val 10000 (o.drop (i+1)))=val 10000 (m.drop i)+val 10000 (o.drop i)+c->
   ∃t,(Option.bind (app acc [Int.tmod S 10000]) fun l11=>R1 m o k (i64.wrap (Int.tdiv S 10000)) ((i+1:Nat):Int) l11)=some (acc++t)/\dig 10000 t/\(t.length<=r+1\/(t.length=r+1+1/\10000^(r+1)<=val 10000 t))/\val 10000 t=val 10000 (m.drop i)+val 10000 (o.drop i)+c:=by
   intro S s0 s1 hS;rw[(tdm s0).1,(tdm s0).2,V1 _ _ (by simp;omega),sb,E7 (i:=S/10000) (by omega) (by omega)];obtain⟨t,e1,e2,e3,e4⟩:=Dx5 hm ho hM hb r (i+1) k (S/10000) (acc++[S%10000]) (by omega) (by omega) (by omega) (by omega) (by simp;omega);refine⟨S%10000::t,by rw[e1];simp,E3.2 ⟨⟨by omega,by omega⟩,e2⟩,?_,by rw[Ec5,e4];omega⟩;rcases e3 with e3|⟨e3,e5⟩
   ·left;simp;omega
   ·right;rw[Ec5,Int.pow_succ];exact⟨by simp;omega,by omega⟩
  rw[R1,wi i (by omega)];by_cases hmi:i<m.length
  ·obtain⟨a1,a2⟩:=Ei8 hm hmi;rw[dlt hmi,C7 hmi];simp only[cond_true,sb];rw[E7 (i:=c+m[i]) (by omega) (by omega)];by_cases hoi:i<o.length
   ·obtain⟨b1,b2⟩:=Ei8 ho hoi;rw[dlt hoi,C7 hoi];simp only[cond_true,sb];rw[E7 (i:=c+m[i]+o[i]) (by omega) (by omega)];exact step _ (by omega) (by omega) (by rw[Cp5 hmi,Cp5 hoi];omega)
   ·rw[dge (show o.length<=i by omega)];simp only[cond_false];exact step _ (by omega) (by omega) (by rw[Cp5 hmi,U9 (show o.length<=i by omega),U9 (show o.length<=i+1 by omega)];omega)
  ·have hoi:i<o.length:=by omega
   obtain⟨b1,b2⟩:=Ei8 ho hoi;rw[dge (show m.length<=i by omega),dlt hoi,C7 hoi];simp only[cond_true,cond_false,sb];rw[E7 (i:=c+o[i]) (by omega) (by omega)];exact step _ (by omega) (by omega) (by rw[Cp5 hoi,U9 (show m.length<=i by omega),U9 (show m.length<=i+1 by omega)];omega)
theorem Gy8{fuel:Nat}{a b:Int}(ha:0<=a)(hb:0<=b)(hla:(dg 10000 a).length<=1073741824)(hlb:(dg 10000 b).length<=1073741824)(hf:1073741900<fuel):Fv1 fuel (dg 10000 a) (dg 10000 b)=some (dg 10000 (a+b)):=by
 have da:=H6 hB4 a ha;have db:=H6 hB4 b hb;have va:=I9 hB4 a ha;have vb:=I9 hB4 b hb;unfold Fv1;obtain⟨t,e1,e2,e3,e4⟩:=Dx5 da db rfl (by omega) (max (dg 10000 a).length (dg 10000 b).length) 0 fuel 0 [] (by omega) (by omega) (by omega) (by omega) rfl;rw[List.drop_zero,List.drop_zero,va,vb,Int.add_zero]at e4;rw[List.nil_append]at e1;refine e1.trans ?_;congr 1;rw[<-e4];refine Fh7 e2 ?_;have hmono:∀x y:Int,0<=x->x<=y->(dg 10000 x).length<=(dg 10000 y).length:=fun x y h0 h=>by
  rcases Nat.lt_or_ge (dg 10000 y).length (dg 10000 x).length with h'|h'
  ·have:=K3 hB4 (by omega) h0 h';omega
  ·exact h'
 rw[e4];rcases e3 with e3|⟨e3,e5⟩
 ·have h1:=hmono a (a+b) ha (by omega);have h2:=hmono b (a+b) hb (by omega);omega
 ·rw[e3];rw[e4]at e5;have:=Ad7 hB4 (show 0<=a+b by omega);rcases Nat.lt_or_ge (max (dg 10000 a).length (dg 10000 b).length) (dg 10000 (a+b)).length with h|h
  ·omega
  ·have:=F0 hB4 h;omega
theorem Cx4{fuel:Nat}{m o:List Int}(hm:dig 10000 m)(ho:dig 10000 o)(hle:o.length<=m.length)(hv:val 10000 o<=val 10000 m)(hb:m.length<=1073741824)(hf:m.length<fuel):∀(r i k:Nat) (c:Int) (acc:List Int),i+r=m.length->r<k->0<=c->c<=1->acc.length=i->dig 10000 acc->
 (val 10000 acc=val 10000 (m.take i)-val 10000 (o.take i)+c*10000^i)->
 S7 fuel m o k c (i:Int) acc=some (dg 10000 (val 10000 m-val 10000 o))
 |0,i,0,_,_,_,h,_,_,_,_,_=>absurd h (by omega)
 |r+1,i,0,_,_,_,h,_,_,_,_,_=>absurd h (by omega)
 |0,i,k+1,c,acc,hi,_,h0,h1,ha,hda,hva=>by
  unfold S7;rw[dge (by omega)];simp only[cond_false];rw[Ft1 hda (by omega) (by omega),sb];rw[List.take_of_length_le (by omega),List.take_of_length_le (by omega)]at hva;have hlt:=wlt hda;rw[ha]at hlt;have hp:=q4 i;have:c=0:=by
   rcases(show c=0\/c=1 by omega) with h|h
   ·exact h
   ·subst h;exfalso;omega
  subst this;rw[hva];congr 2;omega
 |r+1,i,k+1,c,acc,hi,hk,h0,h1,ha,hda,hva=>by
  unfold S7;have hmi:i<m.length:=by omega
  obtain⟨a1,a2⟩:=Ei8 hm hmi;rw[dlt hmi,C7 hmi];simp only[cond_true,sb];rw[E7 (i:=m[i]-c) (by omega) (by omega),wi i (by omega)];have htm:val 10000 (m.take (i+1))=val 10000 (m.take i)+m[i]*10000^i:=S3 hmi;have key:∀(d c' y:Int),0<=d->d<10000->0<=c'->c'<=1->d=m[i]-c-y+10000*c'->val 10000 (o.take (i+1))=val 10000 (o.take i)+y*10000^i->
   Option.bind (app acc [d]) (fun l=>S7 fuel m o k c' ((i+1:Nat):Int) l)=some (dg 10000 (val 10000 m-val 10000 o)):=by
   intro d c' y d0 d1 c0 c1 hd hy;rw[V1 _ _ (by simp;omega),sb];refine Cx4 hm ho hle hv hb hf r (i+1) k c' (acc++[d]) (by omega) (by omega) c0 c1 (by simp;omega) (Al1.2 ⟨hda,E3.2 ⟨⟨d0,d1⟩,J2⟩⟩) ?_;rw[Am3,hva,htm,hy,ha,Int.pow_succ];have e:val 10000 [d]=d:=by simp[val]
   rw[e,hd];generalize (10000:Int)^i=X;grind
  by_cases hio:i<o.length
  ·obtain⟨b1,b2⟩:=Ei8 ho hio;have hto:val 10000 (o.take (i+1))=val 10000 (o.take i)+o[i]*10000^i:=S3 hio;rw[dlt hio,C7 hio];simp only[cond_true,sb];rw[E7 (i:=m[i]-c-o[i]) (by omega) (by omega)];by_cases hn:m[i]-c-o[i]<0
   ·rw[dT_ hn];simp only[cond_true];rw[E7 (by omega) (by omega)];exact key _ 1 o[i] (by omega) (by omega) (by omega) (by omega) (by omega) hto
   ·rw[dF_ hn];simp only[cond_false];exact key _ 0 o[i] (by omega) (by omega) (by omega) (by omega) (by omega) hto
  ·have hto:val 10000 (o.take (i+1))=val 10000 (o.take i)+0*10000^i:=by rw[List.take_of_length_le (show o.length<=i+1 by omega),List.take_of_length_le (show o.length<=i by omega)];simp
   rw[dge (by omega)];simp only[cond_false];by_cases hn:m[i]-c<0
   ·rw[dT_ hn];simp only[cond_true];rw[E7 (by omega) (by omega)];exact key _ 1 0 (by omega) (by omega) (by omega) (by omega) (by omega) hto
   ·rw[dF_ hn];simp only[cond_false];exact key _ 0 0 (by omega) (by omega) (by omega) (by omega) (by omega) hto
theorem Bc9{x y:Int}(h0:0<=x)(h:x<=y):(dg 10000 x).length<=(dg 10000 y).length:=by
 rcases Nat.lt_or_ge (dg 10000 y).length (dg 10000 x).length with h'|h'
 ·have:=K3 hB4 (by omega) h0 h';omega
 ·exact h'
theorem Dv8{fuel:Nat}{a b:Int}(hb:0<=b)(hab:b<=a)(hla:(dg 10000 a).length<=1073741824)(hf:1073741900<fuel):Fa4 fuel (dg 10000 a) (dg 10000 b)=some (dg 10000 (a-b)):=by
 have ha:0<=a:=by omega
 have va:=I9 hB4 a ha;have vb:=I9 hB4 b hb;unfold Fa4;have:=Cx4 (fuel:=fuel) (H6 hB4 a ha) (H6 hB4 b hb) (Bc9 hb hab) (by omega) hla (by omega) (dg 10000 a).length 0 fuel 0 [] (by omega) (by omega) (by omega) (by omega) rfl J2 (by simp[val]);rw[va,vb]at this;exact this
theorem Eo2{x:List Int}{y:List Int}{i:Nat}{Y T:Int}{rec_:Int->List Int->Option (List Int)}(hx:dig 10000 x)(hy:∀z∈y,0<=z/\z<=Y)(hY0:0<=Y)(hY:Y<=1000000)(hi:i<x.length)(hb:x.length+y.length<=1073741824):
 ∀(r j k:Nat) (c:Int) (out:List Int),i+j+r=x.length+y.length->r<k->0<=c->c<=Y->dig 10000 out->out.length=x.length+y.length->val 10000 out+(x[i]*val 10000 (y.drop j)+c)*10000^(i+j)=T->T<10000^(x.length+y.length)->
 ∃out',An5 x y (i:Int) rec_ k c (j:Int) out=rec_ ((i+1:Nat):Int) out'/\dig 10000 out'/\out'.length=out.length/\val 10000 out'=T:=by
 obtain⟨a1,a2⟩:=Ei8 hx hi;intro r
 induction r with
 |zero=>
  intro j k c out hj hk c0 c1 hd hl hT hTb;obtain⟨k,rfl⟩:∃q,k=q+1:=⟨k-1,by omega⟩
  have hc:c=0:=by
   have hv:=wnn hd;rw[U9 (show y.length<=j by omega),show i+j=x.length+y.length by omega]at hT;rcases(show c=0\/1<=c by omega) with h|h
   ·exact h
   ·exfalso;have:=Int.mul_le_mul_of_nonneg_right h (Int.le_of_lt (q4 (x.length+y.length)));simp at hT;omega
  subst hc;rw[An5,dge (show y.length<=j by omega)];simp only[cond_false,sb];rw[show decide ((0:Int)>0)=false from rfl];simp only[cond_false];rw[wi i (by omega)];refine⟨out,rfl,hd,rfl,?_⟩;rw[U9 (show y.length<=j by omega)]at hT;simp at hT;exact hT
 |succ r ih=>
  intro j k c out hj hk c0 c1 hd hl hT hTb;obtain⟨k,rfl⟩:∃q,k=q+1:=⟨k-1,by omega⟩
  obtain⟨o1,o2⟩:=Ei8 hd (show i+j<out.length by omega);rw[An5,E7 (i:=(i:Int)+(j:Int)) (by omega) (by omega),show(i:Int)+(j:Int)=((i+j:Nat):Int) by omega,C7 (show i+j<out.length by omega),wi j (by omega)];have step:∀(n:Int),0<=n->n<=10000*Y+9999->out[i+j]+(x[i]*val 10000 (y.drop j)+c)=n+10000*(x[i]*val 10000 (y.drop (j+1)))->
   ∃out',(Option.bind (some (out.set (0+Int.toNat ((i+j:Nat):Int)) (Int.tmod n 10000))) fun l26=>An5 x y (i:Int) rec_ k (i64.wrap (Int.tdiv n 10000)) ((j+1:Nat):Int) l26)=rec_ ((i+1:Nat):Int) out'/\dig 10000 out'/\out'.length=out.length/\val 10000 out'=T:=by
   intro n n0 n1 hn;rw[(tdm n0).1,(tdm n0).2,sb,E7 (i:=n/10000) (by omega) (by omega),show 0+Int.toNat ((i+j:Nat):Int)=i+j by omega];obtain⟨out',e1,e2,e3,e4⟩:=ih (j+1) k (n/10000) (out.set (i+j) (n%10000)) (by omega) (by omega) (by omega) (by omega) (Al2 hd _ ⟨by omega,by omega⟩) (by simpa using hl) (by
    rw[<-hT,Am4 _ _ (by omega),show i+(j+1)=i+j+1 by omega,Int.pow_succ];have hq:=Int.emod_add_mul_ediv n 10000;generalize n/10000=Q at*;generalize n%10000=R at*;generalize (10000:Int)^(i+j)=X at*;grind) hTb
   exact⟨out',e1,e2,by simpa using e3,e4⟩
  by_cases hjy:j<y.length
  ·obtain⟨b1,b2⟩:=hy y[j] (List.getElem_mem hjy);have hm:=Dw3 a1 a2 b1 (show y[j]<Y+1 by omega);have hm2:x[i]*y[j]<=9999*Y:=by have:=hm.2;omega
   rw[dlt hjy,C7 hi,C7 hjy];simp only[cond_true,sb];rw[E7 (i:=out[i+j]+c) (by omega) (by omega),E7 (i:=x[i]*y[j]) (by omega) (by omega),E7 (i:=out[i+j]+c+x[i]*y[j]) (by omega) (by omega)];exact step _ (by omega) (by omega) (by rw[Cp5 (l:=y) hjy,Int.mul_add];grind)
  ·have hj0:=U9 (show y.length<=j by omega);have hj1:=U9 (show y.length<=j+1 by omega);rw[dge (show y.length<=j by omega)];simp only[cond_false,sb];by_cases hc:c>0
   ·rw[dT_ hc];simp only[cond_true];rw[E7 (i:=out[i+j]+c) (by omega) (by omega)];exact step _ (by omega) (by omega) (by rw[hj0,hj1];omega)
   ·rw[dF_ hc];simp only[cond_false];rw[wi i (by omega)];refine⟨out,rfl,hd,rfl,?_⟩;rw[hj0,show c=0 by omega]at hT;simp at hT;exact hT
theorem Da3{fuel:Nat}{x y:List Int}{Y:Int}(hx:dig 10000 x)(hy:∀z∈y,0<=z/\z<=Y)(hY0:0<=Y)(hY:Y<=1000000)(hb:x.length+y.length<=1073741824)(hf:x.length+y.length<fuel)(hv:0<=val 10000 y)(hT:val 10000 x*val 10000 y<10000^(x.length+y.length)):
 ∀(r i k:Nat) (out:List Int),i+r=x.length->r<k->dig 10000 out->out.length=x.length+y.length->val 10000 out=val 10000 (x.take i)*val 10000 y->An4 fuel x y k (i:Int) out=some (dg 10000 (val 10000 x*val 10000 y))
 |0,i,0,_,_,h,_,_,_=>absurd h (by omega)
 |r+1,i,0,_,_,h,_,_,_=>absurd h (by omega)
 |0,i,k+1,out,hi,_,hd,hl,hvo=>by
  unfold An4;rw[dge (by omega)];simp only[cond_false];rw[Ft1 hd (by omega) (by omega),sb,hvo,List.take_of_length_le (by omega)]
 |r+1,i,k+1,out,hi,hk,hd,hl,hvo=>by
  have hil:i<x.length:=by omega
  have htx:val 10000 (x.take (i+1))=val 10000 (x.take i)+x[i]*10000^i:=S3 hil;unfold An4;rw[dlt hil];simp only[cond_true];have hsplit:val 10000 x=val 10000 (x.take (i+1))+10000^(i+1)*val 10000 (x.drop (i+1)):=U8 x (i+1) (by omega);have h1:=wnn (L8 hx (i+1));have h2:=Int.mul_nonneg (Int.le_of_lt (q4 (i+1))) h1;have h3:val 10000 (x.take (i+1))*val 10000 y<=val 10000 x*val 10000 y:=Int.mul_le_mul_of_nonneg_right (by omega) hv;obtain⟨out',e1,e2,e3,e4⟩:=Eo2 (T:=val 10000 (x.take (i+1))*val 10000 y) (rec_:=An4 fuel x y k) hx hy hY0 hY hil hb (x.length+y.length-i) 0 fuel 0 out (by omega) (by omega) (by omega) hY0 hd hl (by
   rw[hvo,htx,List.drop_zero,Nat.add_zero];generalize (10000:Int)^i=X;grind) (by omega)
  rw[show((0:Nat):Int)=(0:Int) from rfl]at e1;rw[e1];exact Da3 hx hy hY0 hY hb hf hv hT r (i+1) k out' (by omega) (by omega) e2 (by omega) e4
theorem Da4{fuel:Nat}{x y:List Int}{Y:Int}(hx:dig 10000 x)(hy:∀z∈y,0<=z/\z<=Y)(hY0:0<=Y)(hY:Y<=1000000)(hb:x.length+y.length<=1073741824)(hf:x.length+y.length<fuel)(hv:0<=val 10000 y)(hT:val 10000 x*val 10000 y<10000^(x.length+y.length)):F99 fuel x y=some (dg 10000 (val 10000 x*val 10000 y)):=by
 unfold F99;rw[List.length_map,List.length_map,E7 (by omega) (by omega),show(x.length:Int)+(y.length:Int)=((x.length+y.length:Nat):Int) by omega,Bf2 (by omega),sb];exact Da3 hx hy hY0 hY hb hf hv hT x.length 0 fuel _ (by omega) (by omega) (Ao1 (by decide) _) (by simp) (by rw[Ar3];simp[val])
theorem Gi9{fuel:Nat}{a b:Int}(ha:0<=a)(hb:0<=b)(hl:(dg 10000 a).length+(dg 10000 b).length<=1073741824)(hf:1073741900<fuel):F99 fuel (dg 10000 a) (dg 10000 b)=some (dg 10000 (a*b)):=by
 have va:=I9 hB4 a ha;have vb:=I9 hB4 b hb;have:=Da4 (fuel:=fuel) (Y:=9999) (H6 hB4 a ha) (fun z hz=>by have:=H6 hB4 b hb z hz;omega) (by decide) (by decide) hl (by omega) (by omega) (by
  rw[va,vb,Int.pow_add];have h1:=Ad7 hB4 ha;have h2:=Ad7 hB4 hb;have h3:=q4 (dg 10000 a).length;have h4:=Int.mul_lt_mul_of_pos_left h2 h3;have h5:=Int.mul_le_mul_of_nonneg_right (Int.le_of_lt h1) hb;omega)
 rw[va,vb]at this;exact this
end
section
theorem vgd(L:List Int)(p:Nat):val 10000 (L.drop p)=L.getD p 0+10000*val 10000 (L.drop (p+1)):=by
 by_cases h:p<L.length
 ·rw[Cp5 h,List.getD_eq_getElem?_getD,List.getElem?_eq_getElem h];rfl
 ·rw[U9 (by omega),U9 (by omega),List.getD_eq_getElem?_getD,List.getElem?_eq_none (by omega)];rfl
theorem vsp(L:List Int)(p:Nat):val 10000 L=val 10000 (L.take p)+10000^p*val 10000 (L.drop p):=by
 by_cases h:p<=L.length
 ·exact U8 L p h
 ·rw[U9 (by omega),List.take_of_length_le (by omega)];omega
theorem vtk{L:List Int}(h:dig 10000 L)(p:Nat):val 10000 (L.take p)<10000^p:=
 Int.lt_of_lt_of_le (wlt (F9 h p)) (F0 hB4 (by rw[List.length_take];omega))
theorem gd4{L:List Int}(h:dig 10000 L)(p:Nat):0<=L.getD p 0/\L.getD p 0<10000:=by
 rw[List.getD_eq_getElem?_getD];cases hp:L[p]? with
 |none=>exact⟨by decide,by decide⟩
 |some x=>exact h x (List.mem_of_getElem? hp)
theorem Cm8{L:List Int}{p:Nat}(h:p<L.length):C6 L (p:Int)=some (L.getD p 0):=by
 rw[C7 h,List.getD_eq_getElem?_getD,List.getElem?_eq_getElem h];rfl
theorem Dt8{fuel:Nat}{bl ql:List Int}{i:Nat}{b Rr H:Int}{rec_:List Int->Int->List Int->Option (List Int×List Int)}(hb:bl=dg 10000 b)(hb0:0<b)(hR:0<=Rr)(hbl:bl.length<=1073741820)(hRl:(dg 10000 Rr).length<=1073741820)(hf:1073741900<fuel)(hi:i<ql.length)(hil:i<=1073741824)(hH:b*H<10000^(bl.length+1))(hH1:H<=1000000):
 ∀(k:Nat) (lo hi:Int),(hi-lo).toNat<k->0<=lo->lo<=Rr/b->Rr/b<=hi->hi<=H->
  Ac8 fuel bl ql (i:Int) (dg 10000 Rr) rec_ k lo hi=rec_ (dg 10000 (Rr-Rr/b*b)) ((i:Int)-1) (ql.set i (Rr/b))
 |0,_,_,h,_,_,_,_=>absurd h (by omega)
 |k+1,lo,hi',hk,l0,h1,h2,h3=>by
  have hbd:dig 10000 bl:=by rw[hb];exact H6 hB4 b (by omega)
  have hbv:val 10000 bl=b:=by rw[hb];exact I9 hB4 b (by omega)
  have hQ:=Int.ediv_mul_le Rr (show b≠0 by omega);have htimes:∀m:Int,0<=m->m<=H->F99 fuel bl [m]=some (dg 10000 (b*m)):=by
   intro m m0 m1;have hv:val 10000 [m]=m:=by simp[val]
   have:=Da4 (fuel:=fuel) (Y:=1000000) hbd (y:=[m]) (fun z hz=>by simp at hz;omega) (by decide) (by decide) (by simp;omega) (by simp;omega) (by rw[hv];exact m0) (by
    rw[hv,hbv];have:=Int.mul_le_mul_of_nonneg_left m1 (show 0<=b by omega);simp only[List.length_cons,List.length_nil,Nat.zero_add];omega)
   rw[hv,hbv]at this;exact this
  unfold Ac8;by_cases hlt:lo<hi'
  ·rw[dT_ hlt];simp only[cond_true];rw[E7 (i:=lo+hi') (by omega) (by omega),E7 (i:=lo+hi'+1) (by omega) (by omega),(tdm (show 0<=lo+hi'+1 by omega)).1,E7 (i:=(lo+hi'+1)/2) (by omega) (by omega)];obtain⟨m,hm⟩:∃m,m=(lo+hi'+1)/2:=⟨_,rfl⟩
   rw[<-hm,htimes m (by omega) (by omega),sb];have hbm0:0<=b*m:=Int.mul_nonneg (by omega) (by omega);have hbml:(dg 10000 (b*m)).length<=bl.length+1:=G8 hB4 (by
    have:=Int.mul_le_mul_of_nonneg_left (show m<=H by omega) (show 0<=b by omega);omega)
   rw[Gm0 hbm0 hR (by omega) (by omega) (by omega),sb];by_cases hc:b*m<=Rr
   ·have hmQ:m<=Rr/b:=Int.le_ediv_of_mul_le hb0 (by rw[Int.mul_comm];exact hc);have:decide (R5 (b*m) Rr<=0)=true:=dT_ (by
     unfold R5;split
     ·decide
     ·rw[if_neg (by omega)];decide)
    rw[this];simp only[cond_true];exact Dt8 hb hb0 hR hbl hRl hf hi hil hH hH1 k m hi' (by omega) (by omega) hmQ h2 h3
   ·have hmQ:Rr/b<m:=Int.ediv_lt_of_lt_mul hb0 (by rw[Int.mul_comm];omega);have:decide (R5 (b*m) Rr<=0)=false:=dF_ (by rw[D9 (by omega)];decide);rw[this];simp only[cond_false];rw[E7 (i:=m-1) (by omega) (by omega)];exact Dt8 hb hb0 hR hbl hRl hf hi hil hH hH1 k lo (m-1) (by omega) l0 h1 (by omega) (by omega)
  ·rw[dF_ hlt];simp only[cond_false];have hQe:lo=Rr/b:=by omega
   rw[hQe]at l0⊢;unfold Ba1;rw[C7 hi,sb,sb,show 0+Int.toNat (i:Int)=i by omega,wip i (by omega)];by_cases hz:Rr/b>0
   ·rw[dT_ hz];simp only[cond_true];have hle:b*(Rr/b)<=Rr:=by rw[Int.mul_comm];exact hQ
    rw[htimes _ l0 (by omega),sb,Dv8 (Int.mul_nonneg (by omega) l0) hle (by omega) hf,sb,Int.mul_comm b]
   ·rw[dF_ hz];simp only[cond_false];rw[show Rr/b=0 by omega];simp
theorem Cn2{fuel:Nat}{bl ql RL:List Int}{v66:Int}{rec_:List Int->Int->List Int->Option (List Int×List Int)}(hbd:dig 10000 bl)(hRd:dig 10000 RL)(hb1:1<=bl.length)(hbl:bl.length<=1073741820)(_:RL.length<=1073741824){k v:Nat}{t f:Int}(t0:0<=t)(t1:t<=10000000000)(f0:0<=f)(f1:f<=10000000000)(hv:bl.length-2<=v)(hv1:v<=bl.length):
 L9 fuel bl ql v66 RL rec_ (k+1) t f (v:Int)=L9 fuel bl ql v66 RL rec_ k (if v<bl.length then t*10000+bl.getD v 0 else t) (f*10000+RL.getD v 0) ((v:Int)-1):=by
 rw[L9];have hlim:(bif decide ((i64.wrap ((i64.wrap (((bl.map A6).length:Int)-1))-1))>0) then(i64.wrap ((i64.wrap (((bl.map A6).length:Int)-1))-1)) else 0)<=(v:Int):=by
  rw[List.length_map,E7 (i:=(bl.length:Int)-1) (by omega) (by omega),E7 (i:=(bl.length:Int)-1-1) (by omega) (by omega)];by_cases h:(bl.length:Int)-1-1>0
  ·rw[dT_ h];simp only[cond_true];omega
  ·rw[dF_ h];simp only[cond_false];omega
 obtain⟨r0,r1⟩:=gd4 hRd v;obtain⟨b0,b1⟩:=gd4 hbd v;rw[dT_ (show(v:Int)>=_ from hlim)];simp only[cond_true];unfold Ak0;rw[List.length_map,List.length_map,E7 (i:=(bl.length:Int)-1) (by omega) (by omega),wip v (by omega),E7 (i:=f*10000) (by omega) (by omega),E7 (i:=t*10000) (by omega) (by omega)];by_cases hR:v<RL.length
 ·rw[dT_ (show(v:Int)<(RL.length:Int) by omega),Cm8 hR];simp only[cond_true,sb];rw[E7 (i:=f*10000+RL.getD v 0) (by omega) (by omega)];by_cases hb:v<bl.length
  ·rw[dT_ (show(v:Int)<=(bl.length:Int)-1 by omega),if_pos hb,Cm8 hb];simp only[cond_true,sb];rw[E7 (i:=t*10000+bl.getD v 0) (by omega) (by omega)]
  ·rw[dF_ (show¬(v:Int)<=(bl.length:Int)-1 by omega),if_neg hb];simp only[cond_false]
 ·have h0:RL.getD v 0=0:=by rw[List.getD_eq_getElem?_getD,List.getElem?_eq_none (by omega)];rfl
  rw[dF_ (show¬(v:Int)<(RL.length:Int) by omega),h0,Int.add_zero];simp only[cond_false];by_cases hb:v<bl.length
  ·rw[dT_ (show(v:Int)<=(bl.length:Int)-1 by omega),if_pos hb,Cm8 hb];simp only[cond_true,sb];rw[E7 (i:=t*10000+bl.getD v 0) (by omega) (by omega)]
  ·rw[dF_ (show¬(v:Int)<=(bl.length:Int)-1 by omega),if_neg hb];simp only[cond_false]
theorem Gf3{fuel:Nat}{bl ql RL:List Int}{v66:Int}{rec_:List Int->Int->List Int->Option (List Int×List Int)}(hb1:1<=bl.length)(hbl:bl.length<=1073741820){k:Nat}{v t f:Int}(t0:0<t)(t1:t<=10000000000)(f0:0<=f)(f1:f<=100000000000000)(hv:v<0\/v<(bl.length:Int)-2):
 L9 fuel bl ql v66 RL rec_ (k+1) t f v=Ac8 fuel bl ql v66 RL rec_ fuel (f/(t+1)) (f/t):=by
 rw[L9];have hlim:¬(bif decide ((i64.wrap ((i64.wrap (((bl.map A6).length:Int)-1))-1))>0) then(i64.wrap ((i64.wrap (((bl.map A6).length:Int)-1))-1)) else 0)<=v:=by
  rw[List.length_map,E7 (i:=(bl.length:Int)-1) (by omega) (by omega),E7 (i:=(bl.length:Int)-1-1) (by omega) (by omega)];by_cases h:(bl.length:Int)-1-1>0
  ·rw[dT_ h];simp only[cond_true];omega
  ·rw[dF_ h];simp only[cond_false];omega
 have q1:=Int.ediv_nonneg f0 (show 0<=t+1 by omega);have q2:=Int.ediv_nonneg f0 (show 0<=t by omega);have q3:f/(t+1)<=f:=Int.ediv_le_self _ f0;have q4:f/t<=f:=Int.ediv_le_self _ f0;rw[dF_ (show¬v>=_ from hlim)];simp only[cond_false];rw[E7 (i:=t+1) (by omega) (by omega),E1 (by simp;omega),E1 (by simp;omega),(tdm f0).1,(tdm f0).1,E7 (i:=f/(t+1)) (by omega) (by omega),E7 (i:=f/t) (by omega) (by omega)]
theorem Dy0{Rr b t f X lo lob:Int}(hR:Rr=f*X+lo)(hb:b=t*X+lob)(hX:0<X)(lo0:0<=lo)(lo1:lo<X)(lb0:0<=lob)(lb1:lob<X)(t0:0<t)(f0:0<=f):f/(t+1)<=Rr/b/\Rr/b<=f/t:=by
 have hb0:0<b:=by have:=Int.mul_le_mul_of_nonneg_right (show 1<=t by omega) (Int.le_of_lt hX);omega
 constructor
 ·refine Int.le_ediv_of_mul_le hb0 ?_;have h1:=Int.ediv_mul_le f (show t+1≠0 by omega);have h0:=Int.ediv_nonneg f0 (show 0<=t+1 by omega);have h2:=Int.mul_le_mul_of_nonneg_right h1 (Int.le_of_lt hX);have h3:=Int.mul_le_mul_of_nonneg_left (show b<=(t+1)*X by rw[Int.add_mul];omega) h0;have h4:f/(t+1)*((t+1)*X)=f/(t+1)*(t+1)*X:=(Int.mul_assoc ..).symm;omega
 ·have hR0:0<=Rr:=by have:=Int.mul_nonneg f0 (Int.le_of_lt hX);omega
  refine Bd9 (al2:=lo) (Y:=X) hR lo1 hX (by omega) t0 hR0
theorem Gy3{fuel:Nat}{ql:List Int}{i:Nat}{b Rr:Int}{rec_:List Int->Int->List Int->Option (List Int×List Int)}(hb0:0<b)(hR:0<=Rr)(hRb:Rr<b*10000)(hbl:(dg 10000 b).length<=1073741800)(hf:1073741900<fuel)(hi:i<ql.length)(hil:i<=1073741824):
 L9 fuel (dg 10000 b) ql (i:Int) (dg 10000 Rr) rec_ fuel 0 0 ((dg 10000 b).length:Int)=rec_ (dg 10000 (Rr-Rr/b*b)) ((i:Int)-1) (ql.set i (Rr/b)):=by
 have hbd:=H6 hB4 b (by omega);have hbv:=I9 hB4 b (by omega);have hRd:=H6 hB4 Rr hR;have hRv:=I9 hB4 Rr hR;have hb1:=List.length_pos_iff.2 (Bi9 hB4 hb0);have hblt:=Ad7 hB4 (show 0<=b by omega);have hRlt:Rr<10000^((dg 10000 b).length+1):=by
  have:=Int.mul_lt_mul_of_pos_right hblt (show(0:Int)<10000 by decide);rw[Int.pow_succ];omega
 have hRl:(dg 10000 Rr).length<=(dg 10000 b).length+1:=G8 hB4 hRlt;obtain⟨bl,ebl⟩:∃bl,bl=dg 10000 b:=⟨_,rfl⟩
 obtain⟨RL,eRL⟩:∃RL,RL=dg 10000 Rr:=⟨_,rfl⟩
 rw[<-ebl]at hbd hbv hb1 hbl hblt hRlt hRl;rw[<-eRL]at hRd hRv hRl;have hRz:val 10000 (RL.drop (bl.length+1))=0:=U9 (by omega);have hbz:val 10000 (bl.drop bl.length)=0:=U9 (Nat.le_refl _);have hge:10000^(bl.length-1)<=b:=by rw[ebl];exact Ei7 hB4 hb0
 --all but the last step
 have fin:∀(k:Nat) (t f v X lo lob:Int),Rr=f*X+lo->b=t*X+lob->0<X->0<=lo->lo<X->0<=lob->lob<X->0<t->t<=10000000000->0<=f->f<=100000000000000->(v<0\/v<(bl.length:Int)-2)->b*(f/t)<10000^(bl.length+1)->f/t<=10000->
  L9 fuel bl ql (i:Int) RL rec_ (k+1) t f v=rec_ (dg 10000 (Rr-Rr/b*b)) ((i:Int)-1) (ql.set i (Rr/b)):=by
  intro k t f v X lo lob hRe hbe hX lo0 lo1 lb0 lb1 t0 t1 f0 f1 hv hH hH1;rw[Gf3 (by omega) (by omega) t0 t1 f0 f1 hv];obtain⟨q1,q2⟩:=Dy0 hRe hbe hX lo0 lo1 lb0 lb1 t0 f0;have q0:=Int.ediv_nonneg f0 (show 0<=t+1 by omega);rw[eRL];exact Dt8 (H:=f/t) ebl hb0 hR (by omega) (by rw[<-eRL];omega) hf hi hil hH (by omega) fuel _ _ (by omega) q0 q1 q2 (Int.le_refl _)
 obtain⟨fu,rfl⟩:∃g,fuel=g+4:=⟨fuel-4,by omega⟩
 rw[<-ebl,<-eRL];obtain⟨x0,x1⟩:=gd4 hRd bl.length;obtain⟨x2,x3⟩:=gd4 hRd (bl.length-1);obtain⟨b2,b3⟩:=gd4 hbd (bl.length-1);rw[Cn2 hbd hRd (by omega) (by omega) (by omega) (by decide) (by decide) (by decide) (by decide) (by omega) (Nat.le_refl _),if_neg (by omega)];rw[show(bl.length:Int)-1=((bl.length-1:Nat):Int) by omega];rw[Cn2 hbd hRd (by omega) (by omega) (by omega) (by decide) (by decide) (by omega) (by omega) (by omega) (by omega),if_pos (by omega)];have e1:=vgd RL (bl.length-1);have e2:=vgd RL bl.length;rw[hRz]at e2;have c1:=vgd bl (bl.length-1);rw[show bl.length-1+1=bl.length by omega]at e1 c1;rw[hbz]at c1
 --the divisor's upmost digit is not 0
 have htop:0<bl.getD (bl.length-1) 0:=by
  have e:=vsp bl (bl.length-1);have l:=vtk hbd (bl.length-1);rw[hbv,c1]at e;by_cases h:bl.getD (bl.length-1) 0=0
  ·exfalso;rw[h]at e;omega
  ·omega
 by_cases h1:bl.length=1
 ·--one digit
  have eR:=vsp RL (bl.length-1);have eb:=vsp bl (bl.length-1);rw[hRv,e1,e2]at eR;rw[hbv,c1]at eb;rw[h1]at eR eb⊢;simp only[Nat.sub_self,List.take_zero,val,Int.pow_zero]at eR eb;have hbt:b=bl.getD (1-1) 0:=by show b=bl.getD 0 0;omega
  have hRf:Rr=(0*10000+RL.getD 1 0)*10000+RL.getD (1-1) 0:=by show Rr=(0*10000+RL.getD 1 0)*10000+RL.getD 0 0;omega
  have hlt:Rr/b<10000:=Int.ediv_lt_of_lt_mul hb0 (by rw[Int.mul_comm];exact hRb);have hq:=Int.ediv_mul_le Rr (show b≠0 by omega);rw[h1]at hRlt htop x0 x1 x2 x3 b2 b3;refine fin (fu+1) _ _ _ 1 0 0 (by omega) (by omega) (by decide) (by decide) (by decide) (by decide) (by decide) (by omega) (by omega) (by omega) (by omega) (.inl (by omega)) ?_ ?_
  ·rw[<-hRf,Int.zero_mul,Int.zero_add,<-hbt,h1,Int.mul_comm];omega
  ·rw[<-hRf,Int.zero_mul,Int.zero_add,<-hbt];omega
 ·--more
  obtain⟨y0,y1⟩:=gd4 hRd (bl.length-2);obtain⟨b4,b5⟩:=gd4 hbd (bl.length-2);rw[show((bl.length-1:Nat):Int)-1=((bl.length-2:Nat):Int) by omega];rw[Cn2 hbd hRd (by omega) (by omega) (by omega) (by omega) (by omega) (by omega) (by omega) (by omega) (by omega),if_pos (by omega)];have e3:=vgd RL (bl.length-2);have c3:=vgd bl (bl.length-2);rw[show bl.length-2+1=bl.length-1 by omega]at e3 c3;have eR:=vsp RL (bl.length-2);have eb:=vsp bl (bl.length-2);have lR:=vtk hRd (bl.length-2);have lb:=vtk hbd (bl.length-2);have nR:=wnn (F9 hRd (bl.length-2));have nb:=wnn (F9 hbd (bl.length-2));have hX:=q4 (bl.length-2);rw[hRv,e3,e1,e2]at eR;rw[hbv,c3,c1]at eb;obtain⟨X,eX⟩:∃X:Int,X=10000^(bl.length-2):=⟨_,rfl⟩
  rw[<-eX]at eR eb lR lb hX;obtain⟨t,et⟩:∃t,t=(0*10000+bl.getD (bl.length-1) 0)*10000+bl.getD (bl.length-2) 0:=⟨_,rfl⟩
  obtain⟨f,ef⟩:∃f,f=((0*10000+RL.getD bl.length 0)*10000+RL.getD (bl.length-1) 0)*10000+RL.getD (bl.length-2) 0:=⟨_,rfl⟩
  rw[<-et,<-ef];have hRe:Rr=f*X+val 10000 (RL.take (bl.length-2)):=by rw[ef];grind
  have hbe:b=t*X+val 10000 (bl.take (bl.length-2)):=by rw[et];grind
  have ht:10000<=t:=by omega
  have hf0:0<=f:=by omega
  have hff:f<(t+1)*10000:=by
   have h1:f*X<(t+1)*10000*X:=by
    have:(t+1)*10000*X=t*X*10000+10000*X:=by grind
    omega
   exact Int.lt_of_mul_lt_mul_right h1 (Int.le_of_lt hX)
  have hft:f/t<=10000:=by
   have:f/t<10001:=Int.ediv_lt_of_lt_mul (by omega) (by omega);omega
  refine fin fu t f _ X _ _ hRe hbe hX nR lR nb lb (by omega) (by omega) hf0 (by omega) (.inr (by omega)) ?_ hft;have h1:=Int.mul_le_mul_of_nonneg_left hft (show 0<=b by omega);have h2:=Int.mul_lt_mul_of_pos_right hblt (show(0:Int)<10000 by decide);rw[Int.pow_succ];omega
theorem Et1{fuel:Nat}{al:List Int}{b:Int}(ha:dig 10000 al)(hal:al.length<=1073741800)(hb0:0<b)(hbl:(dg 10000 b).length<=1073741790)(hf:1073741900<fuel):∀(m k:Nat) (Rr:Int) (ql:List Int),m<k->m<=ql.length->ql.length<=al.length->ql.length<=1073741824->dig 10000 ql->0<=Rr->Rr<b->val 10000 (al.drop m)=b*val 10000 (ql.drop m)+Rr->
 S6 fuel al (dg 10000 b) k (dg 10000 Rr) ((m:Int)-1) ql=some (dg 10000 (val 10000 al/b),dg 10000 (val 10000 al%b))
 |0,0,_,_,h,_,_,_,_,_,_,_=>absurd h (by omega)
 |m+1,0,_,_,h,_,_,_,_,_,_,_=>absurd h (by omega)
 |0,k+1,Rr,ql,_,_,hqa,hql,hqd,r0,r1,hv=>by
  unfold S6;rw[dF_ (by omega)];simp only[cond_false];rw[List.drop_zero,List.drop_zero]at hv;rw[Ft1 hqd (by omega) (by omega),sb,hv,Int.mul_add_ediv_left _ _ (by omega),Int.ediv_eq_zero_of_lt r0 r1,Int.mul_add_emod_self_left,Int.emod_eq_of_lt r0 r1,Int.add_zero]
 |m+1,k+1,Rr,ql,hk,hm,hqa,hql,hqd,r0,r1,hv=>by
  obtain⟨a0,a1⟩:=Ei8 ha (show m<al.length by omega);have hbd:=H6 hB4 b (by omega);unfold S6;rw[show(((m+1:Nat):Int)-1)=(m:Int) by omega,dT_ (by omega),C7 (show m<al.length by omega)];simp only[cond_true,sb];have hRl:(dg 10000 Rr).length<=(dg 10000 b).length:=Bc9 r0 (by omega);rw[V1 _ _ (by simp;omega),sb];have hd:dig 10000 ([al[m]]++dg 10000 Rr):=E3.2 ⟨⟨a0,a1⟩,H6 hB4 Rr r0⟩;have hvv:val 10000 ([al[m]]++dg 10000 Rr)=al[m]+10000*Rr:=by
   show val 10000 (al[m]::dg 10000 Rr)=_;rw[Ec5,I9 hB4 Rr r0]
  rw[Ft1 hd (by simp;omega) (by simp;omega),sb,hvv,List.length_map];have hb1:=List.length_pos_iff.2 (Bi9 hB4 hb0);rw[E7 (i:=((dg 10000 b).length:Int)-1) (by omega) (by omega),E7 (i:=((dg 10000 b).length:Int)-1+1) (by omega) (by omega),show((dg 10000 b).length:Int)-1+1=((dg 10000 b).length:Int) by omega];rw[Gy3 hb0 (by omega) (by omega) (by omega) hf (by omega) (by omega)];have h1:=Int.emod_nonneg (al[m]+10000*Rr) (show b≠0 by omega);have h2:=Int.emod_lt_of_pos (al[m]+10000*Rr) hb0;have h3:=Int.emod_add_mul_ediv (al[m]+10000*Rr) b;have h4:(al[m]+10000*Rr)/b<10000:=Int.ediv_lt_of_lt_mul hb0 (by omega);have h5:0<=(al[m]+10000*Rr)/b:=Int.ediv_nonneg (by omega) (by omega);have h6:(al[m]+10000*Rr)/b*b=b*((al[m]+10000*Rr)/b):=Int.mul_comm ..;refine Et1 ha hal hb0 hbl hf m k _ _ (by omega) (by simp;omega) (by simp;omega) (by simp;omega) (Al2 hqd _ ⟨h5,h4⟩) (by omega) (by omega) ?_;rw[Cp5 (show m<al.length by omega),hv,List.drop_eq_getElem_cons (show m<(ql.set m ((al[m]+10000*Rr)/b)).length by simp;omega),List.drop_set_of_lt (by omega),Ec5,List.getElem_set_self];generalize (al[m]+10000*Rr)/b=Q at*;generalize val 10000 (ql.drop (m+1))=Z;grind
theorem Dq5{fuel:Nat}{a b:Int}(ha:0<=a)(hb:0<b)(hla:(dg 10000 a).length<=1073741790)(hlb:(dg 10000 b).length<=1073741790)(hf:1073741900<fuel):Fr0 fuel (dg 10000 a) (dg 10000 b)=some (dg 10000 (a/b),dg 10000 (a%b)):=by
 have da:=H6 hB4 a ha;have va:=I9 hB4 a ha;have hb1:=List.length_pos_iff.2 (Bi9 hB4 hb);unfold Fr0;rw[List.length_map,List.length_map,E7 (i:=((dg 10000 b).length:Int)-1) (by omega) (by omega)];by_cases h:(dg 10000 a).length<=(dg 10000 b).length-1
 ·rw[dT_ (by omega)];simp only[cond_true];rw[V1 _ _ (by simp;omega),sb];have hab:=K3 hB4 ha (show 0<=b by omega) (show(dg 10000 a).length<(dg 10000 b).length by omega);rw[Int.ediv_eq_zero_of_lt ha hab,Int.emod_eq_of_lt ha hab,E9 (Int.le_refl _)];rfl
 ·rw[dF_ (by omega)];simp only[cond_false];obtain⟨L,hL⟩:∃L,L=(dg 10000 a).length-((dg 10000 b).length-1):=⟨_,rfl⟩
  rw[E7 (by omega) (by omega),show((dg 10000 a).length:Int)-(((dg 10000 b).length:Int)-1)=(L:Int) by omega,Bf2 (by omega),sb];have hs:slc (dg 10000 a) (L:Int) ((dg 10000 a).length:Int)=some ((dg 10000 a).drop L):=by
   unfold slc;simp only[dT_ (show(0:Int)<=(L:Int) by omega),dT_ (show(L:Int)<=((dg 10000 a).length:Int) by omega),Int.le_refl,decide_true,Bool.and_self,cond_true];rw[show Int.toNat (L:Int)=L by omega,List.take_of_length_le (by rw[List.length_drop];omega)]
  rw[hs,sb,V1 _ _ (by simp;omega),sb,List.nil_append,List.length_map,List.length_replicate,wip L (by omega)];have hRd:=L8 da L;have hR0:=wnn hRd;have hRb:val 10000 ((dg 10000 a).drop L)<b:=by
   have h1:=wlt hRd;rw[List.length_drop,show(dg 10000 a).length-L=(dg 10000 b).length-1 by omega]at h1;have:=Ei7 hB4 hb;omega
  have hcan:(dg 10000 a).drop L=dg 10000 (val 10000 ((dg 10000 a).drop L)):=by
   by_cases h0:(dg 10000 b).length=1
   ·have:(dg 10000 a).drop L=[]:=List.drop_of_length_le (by omega);rw[this,val,E9 (Int.le_refl _)]
   ·have hap:0<a:=by
     rcases(show a=0\/0<a by omega) with h1|h1
     ·exfalso;rw[h1,E9 (Int.le_refl _)]at h;simp at h
     ·exact h1
    obtain⟨l,y,e,y0,y1⟩:=At7 hB4 hap;have hl:(dg 10000 a).length=l.length+1:=by rw[e];simp
    have e2:(dg 10000 a).drop L=l.drop L++[y]:=by rw[e,List.drop_append_of_le_length (by omega)]
    rw[e2]at hRd⊢;exact(Es8 hB4 hRd (by omega)).symm
  rw[hcan];rw[Et1 da (by omega) hb (by omega) hf L fuel _ _ (by omega) (by rw[List.length_replicate];omega) (by rw[List.length_replicate];omega) (by rw[List.length_replicate];omega) (Ao1 (by decide) _) hR0 hRb (by rw[show(List.replicate L (0:Int)).drop L=[] from List.drop_of_length_le (by rw[List.length_replicate];exact Nat.le_refl _)];simp[val]),va]
end
section
def lt(n:Int):Nat:=(dg 10 (n.natAbs:Int)).length
theorem Bs6(n:Int):(n.natAbs:Int)<10^lt n:=Ad7 h10 (by omega)
theorem Bj3{n:Int}{L:Nat}(h:(n.natAbs:Int)<10^L):lt n<=L:=G8 h10 h
theorem Bs7{a b:Int}(h:a.natAbs<=b.natAbs):lt a<=lt b:=Bj3 (Int.lt_of_le_of_lt (by omega) (Bs6 b))
theorem p10(n:Nat):(0:Int)<10^n:=R8 (by decide) n
theorem Bm7(a b:Int):lt (a*b)<=lt a+lt b:=Bj3 (by
 rw[Int.natAbs_mul,Int.natCast_mul,Int.pow_add];have h1:=Bs6 a;have h2:=Bs6 b;have:=p10 (lt a);have:=p10 (lt b);have h4:=Int.mul_lt_mul_of_pos_left h2 (show(0:Int)<10^lt a by omega);have h5:=Int.mul_le_mul_of_nonneg_right (Int.le_of_lt h1) (show(0:Int)<=(b.natAbs:Int) by omega);omega)
theorem Gf8(a b:Int):lt (a+b)<=max (lt a) (lt b)+1:=Bj3 (by
 have h1:=Bs6 a;have h2:=Bs6 b;have h3:=F0 h10 (Nat.le_max_left (lt a) (lt b));have h4:=F0 h10 (Nat.le_max_right (lt a) (lt b));rw[Int.pow_succ];omega)
theorem Cx2(a:Int):lt (-a)=lt a:=by unfold lt;rw[Int.natAbs_neg]
theorem Az2{B C:Int}(hB:0<B)(h:B<=C):∀n:Nat,B^n<=C^n
 |0=>by simp
 |n+1=>by
  rw[Int.pow_succ,Int.pow_succ];have h1:=Az2 hB h n;have h2:=R8 hB n;exact Int.mul_le_mul h1 h (Int.le_of_lt hB) (by omega)
theorem Bs3(n:Int):ln n<=lt n:=Dg0 (Int.lt_of_lt_of_le (Bs6 n) (Az2 (by decide) (by decide) _))
theorem Y1(n:Int):(d4 n).length<=lt n:=G8 hB4 (Int.lt_of_lt_of_le (Bs6 n) (Az2 (by decide) (by decide) _))
theorem K9(n:Int):(tx n).length<=lt n+2:=by
 have key:∀x:Int,0<=x->(dtx x).length<=(dg 10 x).length+1:=fun x hx=>by
  by_cases h:x=0
  ·subst h;simp[dtx]
  ·rw[Al3 (by omega)];omega
 unfold tx lt;by_cases h:n<0
 ·rw[if_pos h,List.length_cons];have:=key (-n) (by omega);rw[show((n.natAbs:Nat):Int)= -n by omega];omega
 ·rw[if_neg h];have:=key n (by omega);rw[show((n.natAbs:Nat):Int)=n by omega];omega
theorem Em4{n:Int}(h:(tx n).length<=9): -1000000000<n/\n<1000000000:=by
 have key:∀x:Int,0<=x->(dtx x).length<=9->x<1000000000:=fun x hx hl=>by
  by_cases h0:x=0
  ·omega
  ·rw[Al3 (by omega)]at hl;have:=Ad7 h10 hx;have:=F0 h10 hl;rw[Fp8]at this;omega
 unfold tx at h;by_cases hn:n<0
 ·rw[if_pos hn,List.length_cons]at h;have:=key (-n) (by omega) (by omega);omega
 ·rw[if_neg hn]at h;have:=key n (by omega) h;omega
theorem Aw5{n:Int}(h0: -9223372036854775808<=n)(h1:n<=9223372036854775807):F54 n=some (tx n):=by
 unfold F54;rw[Be4 h0 h1,sb]
theorem Ho7(s:List UInt8):∀(a:Nat),(∀c∈s,48<=c.toNat/\c.toNat<=57)->(a:Int)<10^(9-s.length)->s.length<=9->Lib.parseUint10 a s= .ok (fv a s).toNat:=by
 induction s with
 |nil=>
  intro a _ _ _;rw[Lib.parseUint10,fv,Int.toNat_natCast]
 |cons c s ih=>
  intro a h ha hl;have hc:=h c List.mem_cons_self;rw[List.length_cons]at ha hl;have hp:(10:Int)^(9-(s.length+1))<=100000000:=by
   have:=F0 h10 (show 9-(s.length+1)<=8 by omega);have:(10:Int)^8=100000000:=by decide
   omega
  have hp2:(10:Int)^(9-s.length)=10*10^(9-(s.length+1)):=by rw[<-P0];congr 1;omega
  rw[Lib.parseUint10,if_pos hc,if_neg (by omega),if_neg (by omega),ih _ (fun x hx=>h x (List.mem_cons_of_mem _ hx)) (by rw[hp2];omega) (by omega),fv];congr 3;omega
theorem Dv7{x:Int}(hx:0<=x)(hl:(dtx x).length<=9):Lib.parseMag (dtx x)= .ok x.toNat:=by
 unfold Lib.parseMag;rw[if_neg Bm0,Ho7 _ 0 (G9 hx) (p10 _) hl];rw[show((0:Nat):Int)=0 from rfl,Cv8 hx]
theorem Do3{n:Int}(h:(tx n).length<=9):Fv0 (tx n)=some (n,false):=by
 have hb:=Em4 h;unfold Fv0 Eh3;rw[dT_ (show(tx n).length<=2147483648 by omega),cond_true];have:Lib.atoiAll (tx n)= .ok n:=by
  by_cases hn:n<0
  ·have ht:tx n=45::dtx (-n):=if_pos hn;rw[ht]at h⊢;rw[List.length_cons]at h;unfold Lib.atoiAll;dsimp only;rw[if_pos (Or.inr (by decide)),Dv7 (by omega) (by omega)];dsimp only;rw[if_neg (fun h=>h.1 (by decide)),if_neg (by omega),if_pos (by decide)];congr 1;omega
  ·have ht:tx n=dtx n:=if_neg hn;rw[ht]at h⊢;cases hd:dtx n with
   |nil=>exact absurd hd Bm0
   |cons c s=>
    have hc:=G9 (show 0<=n by omega) c (by rw[hd];exact List.mem_cons_self);unfold Lib.atoiAll;dsimp only;rw[if_neg (by omega),<-hd,Dv7 (by omega) h];dsimp only;rw[if_neg (by omega),if_neg (by omega),if_neg (by omega)];congr 1;omega
 rw[this]
theorem Ap1{a b:Int}:F97 (tx a) (tx b)=some (if(tx a).length<=9/\(tx b).length<=9 then(a,b,true) else(0,0,false)):=by
 unfold F97;by_cases h1:(tx a).length<=9
 ·rw[dF_ (by omega)];by_cases h2:(tx b).length<=9
  ·rw[dF_ (by omega),if_pos ⟨h1,h2⟩];simp only[cond_false,sb];rw[Do3 h1,sb,Do3 h2,sb]
  ·rw[dT_ (by omega),if_neg (fun h=>h2 h.2)];rfl
 ·rw[dT_ (by omega),if_neg (fun h=>h1 h.1)];rfl
theorem X1(n:Int):d4 n=dg 10000 (n.natAbs:Int):=rfl
theorem Hg4{fuel:Nat}{n:Int}(hl:lt n<=100000000)(hf:2000000010<fuel):Ey9 fuel (tx n)=some (tx (-n)):=by
 have h1:=K9 n;have h2:=Y1 n;unfold Ey9;rw[Ap5,sb,Au4 (by omega) hf,sb,X1,Bh9 (by omega) (by rw[<-X1];omega) (by omega),sb];congr 2;unfold sg;by_cases h:n<0
 ·rw[dT_ h];simp only[Bool.not_true,cond_false];omega
 ·rw[dF_ h];simp only[Bool.not_false,cond_true];omega
theorem Hh2{n:Int}:(tx n==[48])=decide (n=0):=by
 by_cases h:n=0
 ·subst h;rfl
 ·rw[dF_ h,beq_eq_false_iff_ne];exact fun h'=>h (Bh7 (h'.trans (show[48]=tx 0 from rfl)))
theorem Ha0{n:Int}:(tx n==[49])=decide (n=1):=by
 have e:tx 1=[49]:=by
  rw[Av3 (by decide),M3 (by decide)];rfl
 by_cases h:n=1
 ·subst h;rw[e];rfl
 ·rw[dF_ h,beq_eq_false_iff_ne];exact fun h'=>h (Bh7 (h'.trans e.symm))
theorem Gi6{n:Int}:F50 (tx n)=some (R5 n 0):=by
 unfold F50;rw[Hh2];by_cases h:n=0
 ·subst h;rfl
 ·rw[dF_ h,Ap5];simp only[cond_false,sb];by_cases hn:n<0
  ·rw[dT_ hn,D8 hn];rfl
  ·rw[dF_ hn,D9 (by omega)];rfl
theorem Hg7{fuel:Nat}{a b:Int}(ha:lt a<=100000000)(hb:lt b<=100000000)(hf:2000000010<fuel):F51 fuel (tx a) (tx b)=some (R5 a b):=by
 have h1:=K9 a;have h2:=Y1 a;have h3:=K9 b;have h4:=Y1 b;rw[X1]at h2 h4;unfold F51;simp only[Gi6,sb];by_cases hs:R5 a 0=R5 b 0
 ·rw[show(R5 a 0 !=R5 b 0)=false by rw[hs];simp];simp only[cond_false];rw[Ap5,sb];by_cases hn:a<0
  ·rw[dT_ hn];simp only[cond_true];have hb':b<0:=by
    rw[D8 hn]at hs;rcases Int.lt_trichotomy b 0 with h|h|h
    ·exact h
    ·rw[h,J1]at hs;omega
    ·rw[D9 h]at hs;omega
   rw[Au4 (by omega) hf,sb,Au4 (by omega) hf,sb,X1,X1,Gm0 (by omega) (by omega) (by omega) (by omega) (by omega),sb,show((b.natAbs:Nat):Int)= -b by omega,show((a.natAbs:Nat):Int)= -a by omega,Ct3]
  ·rw[dF_ hn];simp only[cond_false];have hb':0<=b:=by
    rcases Int.lt_trichotomy b 0 with h|h|h
    ·rw[D8 h]at hs;rcases(show a=0\/0<a by omega) with h'|h'
     ·rw[h',J1]at hs;omega
     ·rw[D9 h']at hs;omega
    ·omega
    ·omega
   rw[Au4 (by omega) hf,sb,Au4 (by omega) hf,sb,X1,X1,Gm0 (by omega) (by omega) (by omega) (by omega) (by omega),sb,show((b.natAbs:Nat):Int)=b by omega,show((a.natAbs:Nat):Int)=a by omega]
 ·rw[show(R5 a 0 !=R5 b 0)=true by rw[bne_iff_ne];exact hs];simp only[cond_true];rcases Int.lt_trichotomy a 0 with h|h|h<;>rcases Int.lt_trichotomy b 0 with h'|h'|h'<;>first|(rw[D8 h,D8 h']at hs;exact absurd rfl hs)|(rw[D9 h,D9 h']at hs;exact absurd rfl hs)|(subst h;subst h';exact absurd rfl hs)|skip
  ·rw[D8 h,h',J1,D8 h];rfl
  ·rw[D8 h,D9 h',D8 (show a<b by omega)];rfl
  ·rw[h,J1,D8 h',D9 h'];rfl
  ·rw[h,J1,D9 h',D8 h'];rfl
  ·rw[D9 h,D8 h',D9 (show b<a by omega)];rfl
  ·rw[D9 h,h',J1,D9 h];rfl
theorem Gq4{fuel:Nat}{a b:Int}(ha:lt a<=100000000)(hb:lt b<=100000000)(hf:2000000010<fuel):Ez0 fuel (tx a) (tx b)=some (tx (a+b)):=by
 have h1:=K9 a;have h2:=Y1 a;have h3:=K9 b;have h4:=Y1 b;rw[X1]at h2 h4;unfold Ez0;rw[Ap1,sb];by_cases hlit:(tx a).length<=9/\(tx b).length<=9
 ·rw[if_pos hlit];have:=Em4 hlit.1;have:=Em4 hlit.2;simp only[cond_true];rw[E7 (by omega) (by omega),Aw5 (by omega) (by omega),sb]
 ·rw[if_neg hlit];simp only[cond_false];have hs4:∀x:Int,0<=x->x<=(a.natAbs:Int)+(b.natAbs:Int)->(dg 10000 x).length<=200000010:=fun x hx hxl=>by
   have ha1:=Bs6 a;have hb1:=Bs6 b;have e1:=F0 h10 (Nat.le_max_left (lt a) (lt b));have e2:=F0 h10 (Nat.le_max_right (lt a) (lt b));have:(dg 10000 x).length<=max (lt a) (lt b)+1:=G8 hB4 (by
    have:=Az2 (B:=10) (C:=10000) (by decide) (by decide) (max (lt a) (lt b));rw[Int.pow_succ];omega)
   omega
  rw[Au4 (by omega) hf,sb,Au4 (by omega) hf,sb,Ap5,sb,Ap5,sb,X1,X1];by_cases hs:decide (a<0)=decide (b<0)
  ·rw[hs];simp only[beq_self_eq_true,cond_true,sb];rw[Gy8 (by omega) (by omega) (by omega) (by omega) (by omega),sb,Bh9 (by omega) (by have:=hs4 ((a.natAbs:Int)+(b.natAbs:Int)) (by omega) (by omega);omega) (by omega),sb];congr 2;have hs:a<0↔b<0:=by simpa using hs
   unfold sg;by_cases h:b<0
   ·rw[dT_ h];simp only[cond_true];omega
   ·rw[dF_ h];simp only[cond_false];omega
  ·have:(decide (a<0)==decide (b<0))=false:=by simpa using hs
   rw[this];have hs:¬(a<0↔b<0):=by simpa using hs
   simp only[cond_false];rw[Gm0 (by omega) (by omega) (by omega) (by omega) (by omega),sb];by_cases hc:(a.natAbs:Int)<(b.natAbs:Int)
   ·rw[D8 hc];simp only[show decide ((-1:Int)>=0)=false from rfl,cond_false,sb];rw[Dv8 (by omega) (by omega) (by omega) (by omega),sb,Bh9 (by omega) (by have:=hs4 ((b.natAbs:Int)-(a.natAbs:Int)) (by omega) (by omega);omega) (by omega),sb];congr 2;unfold sg;by_cases h:b<0
    ·rw[dT_ h];simp only[cond_true];omega
    ·rw[dF_ h];simp only[cond_false];omega
   ·have:decide (R5 (a.natAbs:Int) (b.natAbs:Int)>=0)=true:=dT_ (by
     unfold R5;rw[if_neg hc];split<;>decide)
    rw[this];simp only[cond_true,sb];rw[Dv8 (by omega) (by omega) (by omega) (by omega),sb,Bh9 (by omega) (by have:=hs4 ((a.natAbs:Int)-(b.natAbs:Int)) (by omega) (by omega);omega) (by omega),sb];congr 2;unfold sg;by_cases h:a<0
    ·rw[dT_ h];simp only[cond_true];omega
    ·rw[dF_ h];simp only[cond_false];omega
theorem Hp1{fuel:Nat}{a b:Int}(ha:lt a<=100000000)(hb:lt b<=100000000)(hf:2000000010<fuel):Fa2 fuel (tx a) (tx b)=some (tx (a-b)):=by
 unfold Fa2;rw[Hg4 hb hf,sb,Gq4 ha (by rw[Cx2];exact hb) hf,sb,Int.sub_eq_add_neg]
theorem Gi5(a b:Int):sg (!(decide (a<0)==decide (b<0))) ((a.natAbs:Int)*(b.natAbs:Int))=a*b:=by
 have hn:(a.natAbs:Int)*(b.natAbs:Int)=((a*b).natAbs:Int):=by rw[Int.natAbs_mul];simp
 rw[hn];unfold sg;by_cases h1:a<0<;>by_cases h2:b<0
 ·have:=Int.mul_pos_of_neg_of_neg h1 h2;simp[h1,h2];omega
 ·have:=Int.mul_nonpos_of_nonpos_of_nonneg (show a<=0 by omega) (show 0<=b by omega);simp[h1,h2];omega
 ·have:=Int.mul_nonpos_of_nonneg_of_nonpos (show 0<=a by omega) (show b<=0 by omega);simp[h1,h2];omega
 ·have:=Int.mul_nonneg (show 0<=a by omega) (show 0<=b by omega);simp[h1,h2];omega
theorem Gb5(a b:Int):(dg 10000 ((a.natAbs:Int)*(b.natAbs:Int))).length<=lt a+lt b:=by
 have h:=Y1 (a*b);rw[X1,Int.natAbs_mul,Int.natCast_mul]at h;exact Nat.le_trans h (Bm7 a b)
theorem Ft7{fuel:Nat}{a b:Int}(ha:lt a<=100000000)(hb:lt b<=100000000)(hf:2000000010<fuel):F52 fuel (tx a) (tx b)=some (tx (a*b)):=by
 have h1:=K9 a;have h2:=Y1 a;have h3:=K9 b;have h4:=Y1 b;rw[X1]at h2 h4;have h5:=Gb5 a b;unfold F52;rw[Ap1,sb];by_cases hlit:(tx a).length<=9/\(tx b).length<=9
 ·rw[if_pos hlit];have b1:=Em4 hlit.1;have b2:=Em4 hlit.2;have hm:=Dw3 (x:=(a.natAbs:Int)) (y:=(b.natAbs:Int)) (X:=1000000000) (Y:=1000000000) (by omega) (by omega) (by omega) (by omega);have hn:(a.natAbs:Int)*(b.natAbs:Int)=((a*b).natAbs:Int):=by rw[Int.natAbs_mul];simp
  rw[hn]at hm;simp only[cond_true];rw[E7 (by omega) (by omega),Aw5 (by omega) (by omega),sb]
 ·rw[if_neg hlit];simp only[cond_false];rw[Ap5,sb,Ap5,sb,Au4 (by omega) hf,sb,Au4 (by omega) hf,sb,X1,X1,Gi9 (by omega) (by omega) (by omega) (by omega),sb,Bh9 (Int.mul_nonneg (by omega) (by omega)) (by omega) (by omega),sb,Gi5]
theorem He1{fuel:Nat}{a b:Int}(hb0:b≠0)(hd:b∣a)(ha:lt a<=10000000)(hb:lt b<=10000000)(hf:2000000010<fuel):Eo6 fuel (tx a) (tx b)=some (tx (a/b),tx 0):=by
 have h1:=K9 a;have h2:=Y1 a;have h3:=K9 b;have h4:=Y1 b;rw[X1]at h2 h4;obtain⟨c,rfl⟩:=hd;rw[Int.mul_ediv_cancel_left _ hb0];have hcn:lt c<=lt (b*c):=Bs7 (by
  rw[Int.natAbs_mul];exact Nat.le_mul_of_pos_left _ (by omega))
 unfold Eo6;rw[Ap1,sb];by_cases hlit:(tx (b*c)).length<=9/\(tx b).length<=9
 ·rw[if_pos hlit];have b1:=Em4 hlit.1;have b2:=Em4 hlit.2;have hq:Int.tdiv (b*c) b=c:=Int.mul_tdiv_cancel_left _ hb0;have hr:Int.tmod (b*c) b=0:=Int.mul_tmod_right _ _;have hc: -1000000000<c/\c<1000000000:=by
   have:c.natAbs<=(b*c).natAbs:=by rw[Int.natAbs_mul];exact Nat.le_mul_of_pos_left _ (by omega)
   omega
  simp only[cond_true];rw[E1 (by simp;exact hb0),E1 (by simp;exact hb0),hr,hq];simp only[bne_self_eq_false,cond_false,sb];rw[E7 (i:=c) (by omega) (by omega),Aw5 (by omega) (by omega),sb,E7 (i:=b*c) (by omega) (by omega),show b*c-b*c=0 by omega,show i64.wrap 0=0 by decide,Aw5 (by decide) (by decide),sb]
 ·rw[if_neg hlit];simp only[cond_false];have hn:((b*c).natAbs:Int)=(b.natAbs:Int)*(c.natAbs:Int):=by rw[Int.natAbs_mul];simp
  rw[Au4 (by omega) hf,sb,Au4 (by omega) hf,sb,X1,X1,Dq5 (by omega) (by omega) (by omega) (by omega) (by omega),sb,Ap5,sb,Ap5,sb];have hq:((b*c).natAbs:Int)/(b.natAbs:Int)=(c.natAbs:Int):=by rw[hn];exact Int.mul_ediv_cancel_left _ (by omega)
  have hr:((b*c).natAbs:Int)%(b.natAbs:Int)=0:=by rw[hn];exact Int.mul_emod_right _ _
  have hcl:=Y1 c;rw[X1]at hcl;dsimp only;rw[hq,hr,Bh9 (by omega) (by omega) (by omega),sb,E9 (Int.le_refl _)];have hsg:sg (!(decide (b*c<0)==decide (b<0))) (c.natAbs:Int)=c:=by
   unfold sg;by_cases hc0:c=0
   ·subst hc0;simp
   by_cases h1:b<0<;>by_cases h2:c<0
   ·have:=Int.mul_pos_of_neg_of_neg h1 h2;rw[dF_ (show¬b*c<0 by omega),dT_ h1];simp;omega
   ·have:=Int.mul_neg_of_neg_of_pos h1 (show 0<c by omega);rw[dT_ (show b*c<0 by omega),dT_ h1];simp;omega
   ·have:=Int.mul_neg_of_pos_of_neg (show 0<b by omega) h2;rw[dT_ (show b*c<0 by omega),dF_ h1];simp;omega
   ·have:=Int.mul_pos (show 0<b by omega) (show 0<c by omega);rw[dF_ (show¬b*c<0 by omega),dF_ h1];simp;omega
  rw[hsg];have hl:decide (((([]:List Int).map A6).length:Int)>0)=false:=rfl;rw[hl];simp only[cond_false,sb];rw[Ft7 (by omega) (by omega) hf,sb,Int.mul_comm c b,Hp1 (by omega) (by omega) hf,sb,Int.sub_self]
theorem El3(m n:Int):Int.gcd m n=Int.gcd n (Int.tmod m n):=by
 show Nat.gcd m.natAbs n.natAbs=Nat.gcd n.natAbs (Int.tmod m n).natAbs;rw[Int.natAbs_tmod,Nat.gcd_comm,Nat.gcd_rec,Nat.gcd_comm]
theorem Dt4:∀(k:Nat) (m n:Int),n.natAbs<k->m.natAbs<1000000000->n.natAbs<1000000000->Ar6 k m n=some (tx (Int.gcd m n))
 |0,_,_,h,_,_=>absurd h (by omega)
 |k+1,m,n,hk,hm,hn=>by
  unfold Ar6;by_cases h:n=0
  ·subst h;rw[show((0:Int) !=0)=false from rfl];simp only[cond_false];rw[E7 (i:=0-m) (by omega) (by omega),Int.gcd_zero_right];by_cases hs:0-m>m
   ·rw[dT_ hs];simp only[cond_true];rw[Aw5 (by omega) (by omega),sb,show 0-m=(m.natAbs:Int) by omega]
   ·rw[dF_ hs];simp only[cond_false];rw[Aw5 (by omega) (by omega),sb];congr 2;omega
  ·rw[show(n !=0)=true by rw[bne_iff_ne];exact h];simp only[cond_true];have h1:(Int.tmod m n).natAbs=m.natAbs%n.natAbs:=Int.natAbs_tmod ..;have h2:=Nat.mod_lt m.natAbs (show n.natAbs>0 by omega);rw[E1 (by simp;exact h),Dt4 k n (Int.tmod m n) (by omega) hn (by omega),<-El3]
theorem Dt5{fuel:Nat}(hf:2000000010<fuel){L:Nat}(hL:L<=300000000):∀(k:Nat) (a b:Int),b.toNat<k->0<=a->0<=b->(dg 10000 a).length<=L->(dg 10000 b).length<=L->Ar7 fuel k (dg 10000 a) (dg 10000 b)=some (tx (Int.gcd a b))
 |0,_,_,h,_,_,_,_=>absurd h (by omega)
 |k+1,a,b,hk,ha,hb,hla,hlb=>by
  unfold Ar7;rw[List.length_map];by_cases h:b=0
  ·subst h;have hl:(dg 10000 (0:Int)).length=0:=by rw[E9 (Int.le_refl _)];rfl
   rw[hl,dF_ (by omega),Int.gcd_zero_right];simp only[cond_false];rw[Bh9 ha (by omega) (by omega),sb];unfold sg;simp only[cond_false];congr 2;omega
  ·have hbp:0<b:=by omega
   have hne:=List.length_pos_iff.2 (Bi9 hB4 hbp);rw[dT_ (by omega)];simp only[cond_true];have h1:=Int.emod_nonneg a (show b≠0 by omega);have h2:=Int.emod_lt_of_pos a hbp;rw[Dq5 ha hbp (by omega) (by omega) (by omega),sb];dsimp only;rw[Dt5 hf hL k b (a%b) (by omega) hb h1 hlb (by have:=Bc9 h1 (Int.le_of_lt h2);omega),<-Ao9 ha hb]
theorem Hg2{fuel:Nat}{a b:Int}(ha:lt a<=100000000)(hb:lt b<=100000000)(hf:2000000010+b.natAbs<fuel):Fq5 fuel (tx a) (tx b)=some (tx (Int.gcd a b)):=by
 have h1:=K9 a;have h2:=Y1 a;have h3:=K9 b;have h4:=Y1 b;rw[X1]at h2 h4;unfold Fq5;rw[Ap1,sb];by_cases hlit:(tx a).length<=9/\(tx b).length<=9
 ·rw[if_pos hlit];have b1:=Em4 hlit.1;have b2:=Em4 hlit.2;simp only[cond_true];rw[Dt4 fuel a b (by omega) (by omega) (by omega)]
 ·rw[if_neg hlit];simp only[cond_false];rw[Au4 (by omega) (by omega),sb,Au4 (by omega) (by omega),sb,X1,X1,Dt5 (by omega) (L:=100000000) (by omega) fuel _ _ (by omega) (by omega) (by omega) (by omega) (by omega)];congr 2
end
section
def T(r:Rat):List UInt8:=if r.den=1 then tx r.num else tx r.num++47::tx (r.den:Int)
def rsz(L:Nat)(r:Rat):Prop:=lt r.num<=L/\lt (r.den:Int)<=L
theorem X5{L:Nat}{r:Rat}(h:rsz L r):nsz L r:=⟨Nat.le_trans (Bs3 _) h.1,Nat.le_trans (Bs3 _) h.2⟩
theorem Bh8{n:Int}:∀c∈tx n,c≠47:=by
 intro c hc h;subst h;unfold tx at hc;by_cases hn:n<0
 ·rw[if_pos hn]at hc;rcases List.mem_cons.1 hc with h|h
  ·exact absurd h (by decide)
  ·exact absurd (G9 (show 0<=-n by omega) 47 h).1 (by decide)
 ·rw[if_neg hn]at hc;exact absurd (G9 (show 0<=n by omega) 47 hc).1 (by decide)
theorem Es5{a b:List UInt8}(ha:∀c∈a,c≠47)(hl:a.length+b.length<=2000000000):∀(r i k:Nat),i+r=a.length->r<k->Ah9 (a++47::b) k (i:Int)=some (a,b,true)
 |0,i,0,_,h=>absurd h (by omega)
 |r+1,i,0,_,h=>absurd h (by omega)
 |0,i,k+1,hi,_=>by
  have hi:i=a.length:=by omega
  subst hi;have hg:C6 (a++47::b) ((a.length:Nat):Int)=some 47:=by rw[Ab9];simp
  unfold Ah9;rw[dT_ (show((a.length:Nat):Int)<((a++47::b).length:Int) by simp;omega),hg];simp only[cond_true,sb];rw[show(((47:UInt8).toNat:Int)==47)=true from rfl];simp only[cond_true];rw[wi _ (by omega),E1 (by simp;omega),E1 (by simp;omega)];congr 2
  ·simp
  ·congr 1;have e1:Int.toNat ((a.length+1:Nat):Int)=a.length+1:=by omega
   have e2:Int.toNat (((a++47::b).length:Int)-((a.length+1:Nat):Int))=b.length:=by simp;omega
   rw[e1,e2,show a++47::b=(a++[47])++b by simp,show a.length+1=(a++[47]).length by simp,List.drop_left,List.take_length]
 |r+1,i,k+1,hi,hk=>by
  have hil:i<a.length:=by omega
  have hg:C6 (a++47::b) ((i:Nat):Int)=some a[i]:=by rw[Ab9,List.getElem?_append_left hil,List.getElem?_eq_getElem hil]
  have hne:=ha a[i] (List.getElem_mem hil);unfold Ah9;rw[dT_ (show((i:Nat):Int)<((a++47::b).length:Int) by simp;omega),hg];simp only[cond_true,sb];rw[show((a[i].toNat:Int)==47)=false by
   rw[beq_eq_false_iff_ne];intro h;exact hne (UInt8.toNat_inj.1 (by show a[i].toNat=47;omega))]
  simp only[cond_false];rw[wi i (by omega)];exact Es5 ha hl r (i+1) k (by omega) (by omega)
theorem Dp5{a:List UInt8}(ha:∀c∈a,c≠47)(hl:a.length<=2000000000):∀(r i k:Nat),i+r=a.length->r<k->Ah9 a k (i:Int)=some (a,[49],false)
 |0,i,0,_,h=>absurd h (by omega)
 |r+1,i,0,_,h=>absurd h (by omega)
 |0,i,k+1,hi,_=>by
  unfold Ah9;rw[dF_ (by omega)];rfl
 |r+1,i,k+1,hi,hk=>by
  have hil:i<a.length:=by omega
  have hne:=ha a[i] (List.getElem_mem hil);unfold Ah9;rw[dT_ (by omega),C7 hil];simp only[cond_true,sb];rw[show((a[i].toNat:Int)==47)=false by
   rw[beq_eq_false_iff_ne];intro h;exact hne (UInt8.toNat_inj.1 (by show a[i].toNat=47;omega))]
  simp only[cond_false];rw[wi i (by omega)];exact Dp5 ha hl r (i+1) k (by omega) (by omega)
theorem tx1:tx 1=[49]:=by rw[Av3 (by decide),M3 (by decide)];rfl
theorem Ff2{L:Nat}{r:Rat}(h:rsz L r):(T r).length<=2*L+5:=by
 have h1:=K9 r.num;have h2:=K9 (r.den:Int);obtain⟨h3,h4⟩:=h;unfold T;split
 ·omega
 ·rw[List.length_append,List.length_cons];omega
theorem He0{fuel L:Nat}{r:Rat}(h:rsz L r)(hL:L<=100000000)(hf:2000000010<fuel):F93 fuel (T r)=some (tx r.num,tx (r.den:Int),decide (r.den≠1)):=by
 have h1:=K9 r.num;have h2:=K9 (r.den:Int);obtain⟨h3,h4⟩:=h;unfold F93 T;by_cases hd:r.den=1
 ·rw[if_pos hd];rw[show(0:Int)=((0:Nat):Int) from rfl,Dp5 Bh8 (by omega) (tx r.num).length 0 fuel (by omega) (by omega),hd,dF_ (by simp)];rw[show((1:Nat):Int)=1 from rfl,tx1]
 ·rw[if_neg hd];rw[show(0:Int)=((0:Nat):Int) from rfl,Es5 Bh8 (by omega) (tx r.num).length 0 fuel (by omega) (by omega),dT_ hd]
theorem Bm9{fuel L:Nat}{r:Rat}(h:rsz L r)(hL:L<=100000000)(hf:2000000010<fuel):F49 fuel (T r)=some (tx r.num,tx (r.den:Int)):=by
 unfold F49;rw[He0 h hL hf,sb]
theorem Ff1{n d:Int}(hd:0<d):T (Rat.divInt n d)=if d/(Int.gcd n d:Nat)=1 then tx (n/(Int.gcd n d:Nat)) else tx (n/(Int.gcd n d:Nat))++47::tx (d/(Int.gcd n d:Nat)):=by
 have hn:(Rat.divInt n d).num=n/(Int.gcd n d:Nat):=by rw[Rat.num_divInt,Int.sign_eq_one_of_pos hd,Int.one_mul,Int.gcd_comm]
 have hdn:((Rat.divInt n d).den:Int)=d/(Int.gcd n d:Nat):=by
  rw[Rat.den_divInt,if_neg (by omega),Int.gcd_comm];push_cast;rw[show((d.natAbs:Nat):Int)=d by omega]
 unfold T;rw[hn,hdn];by_cases h:(Rat.divInt n d).den=1
 ·rw[if_pos h,if_pos (by rw[<-hdn,h];rfl)]
 ·rw[if_neg h,if_neg (by rw[<-hdn];omega)]
theorem Fm3{fuel:Nat}{n d:Int}(hd:0<d)(ha:lt n<=10000000)(hb:lt d<=10000000)(hf:2000000010+d.natAbs<fuel):F53 fuel (tx n) (tx d)=some (T (Rat.divInt n d)):=by
 have hg0:0<Int.gcd n d:=Int.gcd_pos_of_ne_zero_right _ (by omega);have hgn:((Int.gcd n d:Nat):Int)∣n:=Int.gcd_dvd_left ..;have hgd:((Int.gcd n d:Nat):Int)∣d:=Int.gcd_dvd_right ..;have hgle:((Int.gcd n d:Nat):Int)<=d:=Int.le_of_dvd hd hgd;have hlg:lt ((Int.gcd n d:Nat):Int)<=lt d:=Bs7 (by omega);have hnq:lt (n/(Int.gcd n d:Nat))<=lt n:=by
  have key:∀(g n:Int),0<g->g∣n->lt (n/g)<=lt n:=fun g n hg hgn=>by
   obtain⟨c,rfl⟩:=hgn;rw[Int.mul_ediv_cancel_left _ (by omega)];refine Bs7 ?_;rw[Int.natAbs_mul];exact Nat.le_mul_of_pos_left _ (by omega)
  exact key _ _ (by omega) hgn
 have hdq:lt (d/(Int.gcd n d:Nat))<=lt d:=by
  refine Bs7 ?_;have:=Int.ediv_le_self (Int.gcd n d:Nat) (Int.le_of_lt hd);have:=Int.ediv_nonneg (Int.le_of_lt hd) (show(0:Int)<=(Int.gcd n d:Nat) by omega);omega
 have l1:=K9 (n/(Int.gcd n d:Nat));have l2:=K9 (d/(Int.gcd n d:Nat));unfold F53;rw[Hg2 (by omega) (by omega) hf,sb,Gi6,sb,D9 hd,show decide ((1:Int)<0)=false from rfl];simp only[cond_false];rw[He1 (by omega) hgn ha (by omega) (by omega),sb,He1 (by omega) hgd hb (by omega) (by omega),sb];dsimp only;rw[Ha0,Ff1 hd];by_cases h:d/(Int.gcd n d:Nat)=1
 ·rw[dT_ h,if_pos h];rfl
 ·rw[dF_ h,if_neg h];simp only[cond_false];rw[E1 (by simp;omega),E1 (by simp;omega)];simp
theorem of2{fuel:Nat}{n d:Int}(h0: -9223372036854775808<=n)(h1:n<=9223372036854775807)(hd:0<d)(hd1:d<=9223372036854775807)(hf:10000000000000000000<fuel):F26 fuel n d=some (T (Rat.divInt n d)):=by
 have hl:∀a:Int,(a.natAbs:Int)<=9223372036854775808->lt a<=20:=fun a h=>Bj3 (by
  have:(10:Int)^20=100000000000000000000:=by decide
  omega)
 have:=hl n (by omega);have:=hl d (by omega);unfold F26;rw[Aw5 h0 h1,sb,Aw5 (by omega) hd1,sb,Fm3 hd (by omega) (by omega) (by omega),sb]
theorem Eh1(n:Int):T (Rat.divInt n 1)=tx n:=by
 rw[Ff1 (by decide)];have:Int.gcd n 1=1:=Int.gcd_one_right _;rw[this];simp
theorem Ho8(x y:Rat):x+y=Rat.divInt (x.num*y.den+y.num*x.den) (x.den*y.den):=by
 rw[Rat.add_def',<-Rat.divInt_ofNat];push_cast;rfl
theorem Hl5{r:Rat}:((r.den:Int)=1)↔r.den=1:=by omega
theorem Gr1{x y:Rat}:(bif tx (x.den:Int)==[49] then some (tx (y.den:Int)==[49]) else some false)=some (decide (x.den=1/\y.den=1)):=by
 rw[Ha0,Ha0];simp only[Hl5];by_cases h1:x.den=1<;>by_cases h2:y.den=1<;>simp[h1,h2]
theorem Ck4(x y:Rat):((x.den:Int)*(y.den:Int)).natAbs=x.den*y.den:=by rw[<-Int.natCast_mul,Int.natAbs_natCast]
theorem Hk1{fuel L:Nat}{x y:Rat}(hx:rsz L x)(hy:rsz L y)(hL:L<=1000000)(hf:2000000010+x.den*y.den<fuel):F55 fuel (T x) (T y)=some (T (x+y)):=by
 obtain⟨x1,x2⟩:=hx;obtain⟨y1,y2⟩:=hy;have m1:=Bm7 x.num y.den;have m2:=Bm7 y.num x.den;have m3:=Bm7 x.den y.den;have a1:=Gf8 (x.num*y.den) (y.num*x.den);have hp:=Int.mul_pos (den_pos x) (den_pos y);unfold F55;rw[Bm9 ⟨x1,x2⟩ (by omega) (by omega),sb,Bm9 ⟨y1,y2⟩ (by omega) (by omega),sb];dsimp only;rw[Gr1,sb,Ho8];by_cases h:x.den=1/\y.den=1
 ·rw[dT_ h];simp only[cond_true];rw[Gq4 (by omega) (by omega) (by omega),sb,h.1,h.2];simp only[Int.mul_one,show((1:Nat):Int)=1 from rfl,Eh1]
 ·rw[dF_ h];simp only[cond_false];rw[Ft7 (by omega) (by omega) (by omega),sb,Ft7 (by omega) (by omega) (by omega),sb,Gq4 (by omega) (by omega) (by omega),sb,Ft7 (by omega) (by omega) (by omega),sb,Fm3 hp (by omega) (by omega) (by rw[Ck4];omega),sb]
theorem Hl0{fuel L:Nat}{x y:Rat}(hx:rsz L x)(hy:rsz L y)(hL:L<=1000000)(hf:2000000010<fuel):F25 fuel (T x) (T y)=some (By6 x y):=by
 obtain⟨x1,x2⟩:=hx;obtain⟨y1,y2⟩:=hy;have m1:=Bm7 x.num y.den;have m2:=Bm7 y.num x.den;unfold F25;rw[Bm9 ⟨x1,x2⟩ (by omega) (by omega),sb,Bm9 ⟨y1,y2⟩ (by omega) (by omega),sb];dsimp only;rw[Ft7 (by omega) (by omega) (by omega),sb,Ft7 (by omega) (by omega) (by omega),sb,Hg7 (by omega) (by omega) (by omega),sb];congr 1;unfold R5 By6;simp only[Rat.lt_iff,gt_iff_lt]
theorem Ct4{x y:Rat}:decide (By6 x y>0)=decide (y<x):=by
 unfold By6;by_cases h:x<y
 ·rw[if_pos h];have:¬y<x:=fun h'=>by rw[Rat.lt_iff]at h h';omega
  rw[dF_ this];rfl
 ·rw[if_neg h];by_cases h':y<x
  ·rw[if_pos h',dT_ h'];rfl
  ·rw[if_neg h',dF_ h'];rfl
theorem Ei1{x y:Rat}:decide (By6 x y<0)=decide (x<y):=by
 unfold By6;by_cases h:x<y
 ·rw[if_pos h,dT_ h];rfl
 ·rw[if_neg h,dF_ h];by_cases h':y<x
  ·rw[if_pos h'];rfl
  ·rw[if_neg h'];rfl
theorem Q3:∀(a b:List UInt8),(∀c∈a,c≠47)->Bi8 47 (a++47::b)=(a,b,true)
 |[],b,_=>rfl
 |c::a,b,h=>by
  have hc:=h c List.mem_cons_self;rw[List.cons_append,Bi8,show(c==47)=false by simpa using hc,Q3 a b (fun x hx=>h x (List.mem_cons_of_mem _ hx))]
theorem Ay3:∀(a:List UInt8),(∀c∈a,c≠47)->Bi8 47 a=(a,[],false)
 |[],_=>rfl
 |c::a,h=>by
  have hc:=h c List.mem_cons_self;rw[Bi8,show(c==47)=false by simpa using hc,Ay3 a (fun x hx=>h x (List.mem_cons_of_mem _ hx))]
theorem Hl2{L:Nat}{r:Rat}(h:rsz L r)(hL:L<=100000000):F71 (T r) [47]=some (if r.den=1 then(tx r.num,[],false) else(tx r.num,tx (r.den:Int),true)):=by
 have hl:=Ff2 h;unfold F71 Ft0;rw[dT_ (show(T r).length<=2147483648 by omega)];show some (Bi8 47 (T r))=_;congr 1;unfold T;by_cases hd:r.den=1
 ·rw[if_pos hd,if_pos hd,Ay3 _ Bh8]
 ·rw[if_neg hd,if_neg hd,Q3 _ _ Bh8]
theorem Dt2{fuel L:Nat}{r:Rat}(h:rsz L r)(hL:L<=100000000)(hf:2000000010<fuel):F36 fuel (T r)=some (R r):=by
 have h1:=K9 r.num;have h2:=K9 (r.den:Int);unfold F36;rw[Hl2 h hL,sb];obtain⟨h3,h4⟩:=h;by_cases hd:r.den=1
 ·rw[if_pos hd];simp only[Bool.not_false,cond_true];rw[Bg2 (by omega) (by omega),sb,Aq6 (by decide) (by decide) (by omega),sb];unfold R;rw[hd];rfl
 ·rw[if_neg hd];simp only[Bool.not_true,cond_false];rw[Bg2 (by omega) (by omega),sb,Bg2 (by omega) (by omega),sb];rfl
theorem Gj2{r:Rat}:Fu9 (R r)=some (decide (r.den=1)):=by
 unfold Fu9;have hp:=den_pos r;show Option.bind (bif (((dg 1000000000 (((r.den:Int).natAbs:Nat):Int)).map A5).length:Int)==1 then Option.bind (C6 (dg 1000000000 (((r.den:Int).natAbs:Nat):Int)) 0) fun y3=>some (y3==1) else some false) (fun o1=>some o1)=_;rw[show(((r.den:Int).natAbs:Nat):Int)=(r.den:Int) by omega,List.length_map];by_cases hl:(dg 1000000000 (r.den:Int)).length=1
 ·have h9:(r.den:Int)<1000000000:=by
   have:=Ad7 hB1 (show 0<=(r.den:Int) by omega);rw[hl]at this;simpa using this
  rw[dg1 hp h9,show C6 [(r.den:Int)] 0=some (r.den:Int) from rfl,sb];rw[show((([(r.den:Int)].length:Nat):Int)==1)=true from rfl];simp only[cond_true,sb];congr 1;by_cases h:r.den=1
  ·rw[h];rfl
  ·rw[dF_ h,beq_eq_false_iff_ne];omega
 ·rw[show((((dg 1000000000 (r.den:Int)).length:Nat):Int)==1)=false by rw[beq_eq_false_iff_ne];omega];simp only[cond_false,sb];rw[dF_ (fun h=>hl (by rw[h,show((1:Nat):Int)=1 from rfl,dg1 (by decide) (by decide)];rfl))]
theorem Em9{fuel L:Nat}{r:Rat}(h:rsz L r)(hL:L<=100000000)(hf:2000000010<fuel):F82 fuel (R r)=some (T r):=by
 have h1:=K9 r.num;have h2:=K9 (r.den:Int);obtain⟨h3,h4⟩:=X5 h;obtain⟨h5,h6⟩:=h;unfold F82;rw[Gj2,sb];have hn:(R r).n_=W r.num:=rfl;have hd:(R r).d=W (r.den:Int):=rfl;rw[hn,hd,Az8 (by omega) (by omega)];unfold T;by_cases hd1:r.den=1
 ·rw[dT_ hd1,if_pos hd1];rfl
 ·rw[dF_ hd1,if_neg hd1];simp only[cond_false,sb];rw[Az8 (by omega) (by omega),E1 (by simp;omega),sb,E1 (by simp;omega)];simp
theorem At0{x y:Rat}(h:T x=T y):x=y:=by
 have hc:∀r:Rat,Bi8 47 (T r)=(if r.den=1 then(tx r.num,[],false) else(tx r.num,tx (r.den:Int),true)):=fun r=>by
  unfold T;by_cases hd:r.den=1
  ·rw[if_pos hd,if_pos hd,Ay3 _ Bh8]
  ·rw[if_neg hd,if_neg hd,Q3 _ _ Bh8]
 have e:=hc x;rw[h,hc y]at e;by_cases h1:x.den=1<;>by_cases h2:y.den=1
 ·rw[if_pos h1,if_pos h2]at e;exact Rat.ext (Bh7 (congrArg Prod.fst e).symm) (by rw[h1,h2])
 ·rw[if_pos h1,if_neg h2]at e;exact absurd (congrArg (fun z=>z.2.2) e) (by simp)
 ·rw[if_neg h1,if_pos h2]at e;exact absurd (congrArg (fun z=>z.2.2) e) (by simp)
 ·rw[if_neg h1,if_neg h2]at e;exact Rat.ext (Bh7 (congrArg Prod.fst e).symm) (by have:=Bh7 (show tx (y.den:Int)=tx (x.den:Int) from congrArg (fun z=>z.2.1) e);omega)
end
section
theorem wu{x:Nat}(h:x<18446744073709551616):u64.wrap (x:Int)=(x:Int):=by
 have e64:(2^u64.bits:Int)=18446744073709551616:=rfl;unfold IntKind.wrap;simp only[e64,show u64.signed=false from rfl,Bool.false_and];rw[if_neg (by decide)];omega
theorem Ey0(s i:Nat):s/2^i%2=if s.testBit i then 1 else 0:=by
 rw[Nat.testBit_eq_decide_div_mod_eq];by_cases h:s/2^i%2=1
 ·simp[h]
 ·simp[h];omega
theorem Am2(x:Nat):(BitVec.ofInt u64.bits (x:Int))=BitVec.ofNat 64 x:=by
 show BitVec.ofInt 64 (x:Int)=BitVec.ofNat 64 x;simp
theorem T2{s i:Nat}(hs:s<18446744073709551616)(hi:i<64):
 (u64.wrap (BitVec.ofInt u64.bits (Int.fdiv (s:Int) (2^(min (Int.toNat (i:Int)) u64.bits)))&&&BitVec.ofInt u64.bits 1).toNat)=if s.testBit i then 1 else 0:=by
 have h1:Int.fdiv (s:Int) (2^(min (Int.toNat (i:Int)) u64.bits))=((s/2^i:Nat):Int):=by
  have:min (Int.toNat (i:Int)) u64.bits=i:=by simp[IntKind.bits];omega
  rw[this,Int.fdiv_eq_ediv_of_nonneg _ (by exact_mod_cast Nat.zero_le _)];norm_cast
 have h2:BitVec.ofInt u64.bits 1=BitVec.ofNat 64 1:=rfl;rw[h1,Am2,h2];have h3:(BitVec.ofNat 64 (s/2^i)&&&BitVec.ofNat 64 1).toNat=if s.testBit i then 1 else 0:=by
  have h4:s/2^i<2^64:=Nat.lt_of_le_of_lt (Nat.div_le_self _ _) hs;rw[BitVec.toNat_and,BitVec.toNat_ofNat,BitVec.toNat_ofNat,Nat.mod_eq_of_lt h4,show(1:Nat)%2^64=1 from rfl,Nat.and_one_is_mod];exact Ey0 s i
 have h5:((BitVec.ofNat 64 (s/2^i)&&&BitVec.ofNat 64 1).toNat:Int)=if s.testBit i then 1 else 0:=by
  rw[h3];split<;>rfl
 have key:u64.wrap ((BitVec.ofNat 64 (s/2^i)&&&BitVec.ofNat 64 1).toNat:Int)=if s.testBit i then 1 else 0:=by
  rw[wu (BitVec.isLt _),h5]
 exact key
theorem Bn0{i:Nat}(hi:i<62):u64.wrap (1*2^(min (Int.toNat (i:Int)) u64.bits))=((2^i:Nat):Int):=by
 have:min (Int.toNat (i:Int)) u64.bits=i:=by simp[IntKind.bits];omega
 rw[this];have h:(2^i:Nat)<18446744073709551616:=Nat.lt_of_lt_of_le (Nat.pow_lt_pow_right (by omega) hi) (by decide);have e:(1*2^i:Int)=((2^i:Nat):Int):=by simp
 rw[e,wu h]
theorem Fn4{a b:Nat}(ha:a<18446744073709551616)(hb:b<18446744073709551616):
 (u64.wrap (BitVec.ofInt u64.bits (a:Int)|||BitVec.ofInt u64.bits (b:Int)).toNat)=((a|||b:Nat):Int):=by
 have key:u64.wrap ((BitVec.ofNat 64 a|||BitVec.ofNat 64 b).toNat:Int)=((a|||b:Nat):Int):=by
  rw[wu (BitVec.isLt _),BitVec.toNat_or,BitVec.toNat_ofNat,BitVec.toNat_ofNat,Nat.mod_eq_of_lt ha,Nat.mod_eq_of_lt hb]
 rw[Am2,Am2];exact key
def sd(a b:Nat):Nat:=(BitVec.ofNat 64 a&&& ~~~BitVec.ofNat 64 b).toNat
theorem Ea4(a b:Nat):(u64.wrap (BitVec.ofInt u64.bits (a:Int)&&& ~~~BitVec.ofInt u64.bits (b:Int)).toNat)=(sd a b:Int):=by
 rw[Am2,Am2];exact wu (BitVec.isLt _)
theorem Bg8{a b i:Nat}(ha:a<18446744073709551616)(hb:b<18446744073709551616):(sd a b).testBit i=(a.testBit i&& !b.testBit i):=by
 unfold sd;rw[<-BitVec.getLsbD,BitVec.getLsbD_and,BitVec.getLsbD_not,BitVec.getLsbD_ofNat,BitVec.getLsbD_ofNat];by_cases h:i<64
 ·simp[h]
 ·have h64:a.testBit i=false:=Nat.testBit_lt_two_pow (Nat.lt_of_lt_of_le ha (Nat.le_trans (by decide:18446744073709551616<=2^64) (Nat.pow_le_pow_right (by omega) (by omega))));simp[h,h64]
theorem Ag2{a b:Nat}(h:∀i,a.testBit i=b.testBit i):a=b:=Nat.eq_of_testBit_eq h
theorem Bx9{a:Nat}(h:a≠0):∃i,a.testBit i=true:=by
 by_cases hx:∃i,a.testBit i=true
 ·exact hx
 ·exfalso;apply h;refine Ag2 fun i=> ?_
  rw[Nat.zero_testBit];cases hb:a.testBit i with
  |false=>rfl
  |true=>exact absurd ⟨i,hb⟩ hx
theorem Do6{a n i:Nat}(h:a<2^n)(hb:a.testBit i=true):i<n:=by
 cases Nat.lt_or_ge i n with
 |inl h=>exact h
 |inr hge=>
  rw[Nat.testBit_lt_two_pow (Nat.lt_of_lt_of_le h (Nat.pow_le_pow_right (by omega) hge))]at hb;cases hb
theorem Bm8{a n:Nat}(h:∀i,a.testBit i=true->i<n):a<2^n:=by
 refine Nat.lt_pow_two_of_testBit a fun i hi=> ?_
 cases hb:a.testBit i with
 |false=>rfl
 |true=>have:=h i hb;omega
theorem Br4(n i:Nat):(2^n-1).testBit i=decide (i<n):=Nat.testBit_two_pow_sub_one n i
def fil{α:Type}(f:Nat->α)(z:α)(n i:Nat):List α:=(List.range i).map f++List.replicate (n-i) z
section
variable {α:Type} {f:Nat->α} {z:α} {n i:Nat}
theorem Fl1(h:i<=n):(fil f z n i).length=n:=by simp[fil];omega
theorem Ek9:fil f z n 0=List.replicate n z:=by simp[fil]
theorem El0:fil f z n n=(List.range n).map f:=by simp[fil]
theorem Ds6(h:i<n):(fil f z n i)[i]? =some z:=by
 unfold fil;rw[List.getElem?_append_right (by simp),List.length_map,List.length_range,Nat.sub_self,List.getElem?_replicate,if_pos (by omega)]
theorem Az0(h:i<n):C6 (fil f z n i) (i:Int)=some z:=by rw[Ab9,Ds6 h]
theorem Bd6(h:i<n):(fil f z n i).set i (f i)=fil f z n (i+1):=by
 unfold fil;rw[List.set_append_right _ _ (by simp),List.length_map,List.length_range,Nat.sub_self,List.range_succ,List.map_append,List.append_assoc];congr 1;rw[show n-i=(n-(i+1))+1 by omega,List.replicate_succ];simp
theorem El1(h:i<n)(he:f i=z):fil f z n i=fil f z n (i+1):=by
 rw[<-Bd6 h,he];refine List.ext_getElem? fun j=> ?_
 rw[List.getElem?_set];by_cases e:i=j
 ·subst e;rw[if_pos rfl,if_pos (by rw[Fl1 (by omega)];exact h),Ds6 h]
 ·rw[if_neg e]
end
theorem tn(i:Nat):0+Int.toNat (i:Int)=i:=by omega
end
section
def fr(D B:Nat)(r:Rat):Prop:=0<D/\∃a:Int,r=Rat.divInt a (D:Int)/\a.natAbs<=B*D
theorem Al5{D B C:Nat}{r:Rat}(h:fr D B r)(hb:B<=C):fr D C r:=by
 obtain⟨h0,a,h1,h2⟩:=h;exact⟨h0,a,h1,Nat.le_trans h2 (Nat.mul_le_mul_right _ hb)⟩
theorem Et7{D B E:Nat}{r:Rat}(h:fr D B r)(hE:0<E):fr (D*E) B r:=by
 obtain⟨h0,a,h1,h2⟩:=h;refine⟨Nat.mul_pos h0 hE,a*E,?_,?_⟩
 ·rw[h1];push_cast;rw[Rat.divInt_mul_right (by omega)]
 ·rw[Int.natAbs_mul,Int.natAbs_natCast,<-Nat.mul_assoc];exact Nat.mul_le_mul_right _ h2
theorem Ge7{D B E:Nat}{r:Rat}(h:fr D B r)(hd:D∣E)(hE:0<E):fr E B r:=by
 obtain⟨c,rfl⟩:=hd;exact Et7 h (Nat.pos_of_ne_zero fun e=>by subst e;simp at hE)
theorem Ds8{D B C:Nat}{x y:Rat}(hx:fr D B x)(hy:fr D C y):fr D (B+C) (x+y):=by
 obtain⟨h0,a,ha,ha2⟩:=hx;obtain⟨_,b,hb,hb2⟩:=hy;refine⟨h0,a+b,?_,?_⟩
 ·rw[ha,hb,Rat.divInt_add_divInt _ _ (by omega) (by omega)];rw[<-Int.add_mul,Rat.divInt_mul_right (by omega)]
 ·rw[Nat.add_mul];omega
theorem Ge8{D B:Nat}{x:Rat}(hx:fr D B x):fr D B (-x):=by
 obtain⟨h0,a,ha,ha2⟩:=hx;refine⟨h0,-a,?_,by omega⟩;rw[ha,Rat.neg_divInt]
theorem Et9{D E B C:Nat}{x y:Rat}(hx:fr D B x)(hy:fr E C y):fr (D*E) (B*C) (x*y):=by
 obtain⟨h0,a,ha,ha2⟩:=hx;obtain⟨h1,b,hb,hb2⟩:=hy;refine⟨Nat.mul_pos h0 h1,a*b,?_,?_⟩
 ·rw[ha,hb,Rat.divInt_mul_divInt];push_cast;rfl
 ·rw[Int.natAbs_mul]
  calc a.natAbs*b.natAbs<=(B*D)*(C*E):=Nat.mul_le_mul ha2 hb2
   _=B*C*(D*E):=by simp[Nat.mul_comm,Nat.mul_left_comm]
theorem Et8{D:Nat}(hD:0<D)(n:Int):fr D n.natAbs (Rat.divInt n 1):=by
 have:fr 1 n.natAbs (Rat.divInt n 1):=⟨by decide,n,rfl,by omega⟩
 have:=Et7 this hD
 rwa [Nat.one_mul]at this
theorem Al6{D:Nat}(hD:0<D):fr D 0 0:=Et8 hD 0
theorem Ds9{D:Nat}(hD:0<D):fr D 1 1:=Et8 hD 1
def rs(r:Rat):Prop:=rsz 1000000 r
theorem Ge9{D B L:Nat}{r:Rat}(h:fr D B r)(hB:B*D<10^L)(hD:D<10^L):rsz L r:=by
 obtain⟨h0,a,h1,h2⟩:=h;have hg0:0<Int.gcd a (D:Int):=Int.gcd_pos_of_ne_zero_right _ (by omega);have p10:((10^L:Nat):Int)=(10:Int)^L:=by push_cast;rfl
 constructor
 ·refine Bj3 ?_;have:r.num.natAbs<=a.natAbs:=by
   rw[h1,Rat.num_divInt,Int.sign_eq_one_of_pos (by omega),Int.one_mul,Int.natAbs_ediv_of_dvd (by rw[Int.gcd_comm];exact Int.gcd_dvd_left ..)];exact Nat.div_le_self _ _
  rw[<-p10];exact_mod_cast (by omega:r.num.natAbs<10^L)
 ·refine Bj3 ?_;have:r.den<=D:=by
   rw[h1,Rat.den_divInt,if_neg (by omega)];exact Nat.div_le_self _ _
  rw[Int.natAbs_natCast,<-p10];exact_mod_cast (by omega:r.den<10^L)
theorem Dt1{D B p q L:Nat}{r:Rat}(h:fr D B r)(hD:D<=10^p)(hB:B<=10^q)(hpq:p+q<L):rsz L r:=by
 have h1:B*D<=10^(p+q):=by
  rw[Nat.pow_add,Nat.mul_comm (10^p)];exact Nat.mul_le_mul hB hD
 have h2:10^p<=10^(p+q):=Nat.pow_le_pow_right (by decide) (by omega);have h3:10^(p+q)<10^L:=Nat.pow_lt_pow_right (by decide) hpq;exact Ge9 h (Nat.lt_of_le_of_lt h1 h3) (Nat.lt_of_le_of_lt (Nat.le_trans hD h2) h3)
theorem Dt0{D B p q:Nat}{r:Rat}(h:fr D B r)(hD:D<=10^p)(hB:B<=10^q)(hpq:p+q<1000000):rs r:=Dt1 h hD hB hpq
theorem Gx8{D B:Nat}{r:Rat}(hD:0<D)(hd:r.den∣D)(hB:r.num.natAbs<=B*r.den):fr D B r:=by
 have h1:fr r.den B r:=⟨r.den_pos,r.num,(Rat.num_divInt_den r).symm,hB⟩
 exact Ge7 h1 hd hD
theorem Cz1{r:Rat}:r.num<0↔r<0:=by rw[<-Rat.not_le,<-Rat.num_nonneg];omega
theorem Az4{r:Rat}:0<r.num↔0<r:=by rw[Rat.lt_iff];simp
theorem En6(r:Rat):r=(r.num:Rat)/(r.den:Rat):=by
 conv=>lhs;rw[<-Rat.num_divInt_den r,Rat.divInt_eq_div]
 norm_cast
theorem Ev.ge(k:Nat):Ev fun n=>k<=n:=⟨k,fun _ h=>h⟩
section
variable {x y:Rat}
theorem He2(hx:rs x)(hy:rs y):Ev fun f=>Eo9 f (R x) (R y)=some (R (x+y)):=Ev.from_ (18446744073709551616+10000000000+x.den*y.den+1) fun n h=>Fm6 (X5 hx) (X5 hy) (by decide) (by omega)
theorem Hl6(hx:rs x)(hy:rs y):Ev fun f=>Fa5 f (R x) (R y)=some (R (x*y)):=Ev.from_ (18446744073709551616+10000000000+x.den*y.den+1) fun n h=>Fn0 (X5 hx) (X5 hy) (by decide) (by omega)
theorem He3(hx:rs x)(hy:rs y):Ev fun f=>F65 f (R x) (R y)=some (By6 x y):=Ev.from_ 10000000001 fun n h=>Fm7 (X5 hx) (X5 hy) (by decide) (by omega)
theorem Gc0(hx:rs x):Ev fun f=>F36 f (T x)=some (R x):=Ev.from_ 2000000011 fun n h=>Dt2 hx (by decide) (by omega)
theorem Gt1(hx:rs x):Ev fun f=>F82 f (R x)=some (T x):=Ev.from_ 2000000011 fun n h=>Em9 hx (by decide) (by omega)
theorem eOf{n d:Int}(h0: -9223372036854775808<=n)(h1:n<9223372036854775808)(hd:0<d)(hd1:d<9223372036854775808):Ev fun f=>F78 f n d=some (R (Rat.divInt n d)):=Ev.from_ 40000000000000000001 fun f h=>Gy5 h0 h1 hd hd1 (by omega)
theorem Gm2:Ev fun f=>F78 f 0 1=some (R 0):=eOf (by decide) (by decide) (by decide) (by decide)
theorem He4:Ev fun f=>F78 f 1 1=some (R 1):=eOf (by decide) (by decide) (by decide) (by decide)
theorem Gs6(hx:rs x)(hy:rs y):Ev fun f=>F55 f (T x) (T y)=some (T (x+y)):=Ev.from_ (2000000010+x.den*y.den+1) fun n h=>Hk1 hx hy (by decide) (by omega)
theorem Gs7(hx:rs x)(hy:rs y):Ev fun f=>F25 f (T x) (T y)=some (By6 x y):=Ev.from_ 2000000011 fun n h=>Hl0 hx hy (by decide) (by omega)
theorem Gs9{n d:Int}(h0: -9223372036854775808<=n)(h1:n<=9223372036854775807)(hd:0<d)(hd1:d<=9223372036854775807):Ev fun f=>F26 f n d=some (T (Rat.divInt n d)):=Ev.from_ 10000000000000000001 fun f h=>of2 h0 h1 hd hd1 (by omega)
end
theorem sbe{α β:Type}{o:Option α}{x:α}{f:α->Option β}{z:Option β}(h:o=some x)(h2:f x=z):o.bind f=z:=by subst h;exact h2
theorem D4{α β:Type}{f:α->β}{l:List α}{i:Nat}(h:i<l.length):C6 (l.map f) (i:Int)=some (f l[i]):=by
 rw[Ab9];simp[h]
end
section
structure Cho where
 act:List UInt8
 gain:Rat
 next:List (Int×Rat)
structure Mdl where
 own:List Int
 ch:List (List Cho)
def eB(b:Int×Rat):C1:=⟨b.1,T b.2⟩
def eC(c:Cho):A2:=⟨c.act,T c.gain,c.next.map eB⟩
def eL(l:List Cho):List A2:=l.map eC
def eM(m:Mdl):B6:=⟨m.own,m.ch.map eL⟩
def Gg0(v:List Rat):List (Int×Rat)->Rat->Rat
 |[],x=>x
 |b::l,x=>Gg0 v l (x+b.2*v.getD b.1.toNat 0)
def mix(v:List Rat)(c:Cho):Rat:=Gg0 v c.next 0
def okN(g n:Nat)(c:Cho):Prop:=c.next.length<=12/\∀b∈c.next,fr g 1 b.2/\0<=b.1/\b.1.toNat<n
def szs(g D B:Nat):Prop:=0<g/\0<D/\∃p q,g*D<=10^p/\B*12+1<=10^q/\p+q<1000000
theorem Ax1{g D B:Nat}(h:szs g D B){r:Rat}:(fr D B r->rs r)/\(fr g 1 r->rs r)/\∀i,i<=12->fr (g*D) (B*i) r->rs r:=by
 obtain⟨h0,h1,p,q,h2,h3,h4⟩:=h;have e1:D<=g*D:=Nat.le_mul_of_pos_left _ h0;have e2:g<=g*D:=Nat.le_mul_of_pos_right _ h1;refine⟨fun h=>Dt0 h (Nat.le_trans e1 h2) (show B<=10^q by omega) h4,fun h=>Dt0 h (Nat.le_trans e2 h2) (show 1<=10^q by omega) h4,fun i hi h=>Dt0 h h2 (Nat.le_trans (Nat.mul_le_mul_left _ hi) (show B*12<=10^q by omega)) h4⟩
theorem Ho0{v:List Rat}{t:Int}(h0:0<=t)(h:t.toNat<v.length):C6 (v.map R) t=some (R (v.getD t.toNat 0)):=by
 have:=D4 (f:=R) h;rw[Int.toNat_of_nonneg h0]at this;rw[this,List.getD_eq_getElem?_getD,List.getElem?_eq_getElem h];rfl
theorem frD{D B:Nat}{v:List Rat}(hv:∀x∈v,fr D B x){i:Nat}(h:i<v.length):fr D B (v.getD i 0):=by
 rw[List.getD_eq_getElem?_getD,List.getElem?_eq_getElem h];exact hv _ (List.getElem_mem h)
theorem T7{α:Type}{l:List α}{i:Nat}{b:α}{t:List α}(h:l.drop i=b::t):∃hi:i<l.length,l[i]=b/\l.drop (i+1)=t:=by
 have hi:i<l.length:=by
  rcases Nat.lt_or_ge i l.length with h'|h'
  ·exact h'
  ·rw[List.drop_of_length_le h']at h;cases h
 rw[List.drop_eq_getElem_cons hi]at h;injection h with h1 h2
 exact⟨hi,h1,h2⟩
theorem drop_nil{α:Type}{l:List α}{i:Nat}(h:l.drop i=[]):l.length<=i:=by
 simpa using h
theorem Dw0{v:List Rat}{g D B n:Nat}(hn:n=v.length)(hv:∀x∈v,fr D B x):∀(l:List (Int×Rat)) (i:Nat) (x:Rat),(∀b∈l,fr g 1 b.2/\0<=b.1/\b.1.toNat<n)->fr (g*D) (B*i) x->fr (g*D) (B*(i+l.length)) (Gg0 v l x)
 |[],i,x,_,hx=>by simpa[Gg0] using hx
 |b::l,i,x,hc,hx=>by
  obtain⟨p1,p2,p3⟩:=hc b List.mem_cons_self;have hw:=frD hv (show b.1.toNat<v.length by omega);have hm:fr (g*D) (B*1) (b.2*v.getD b.1.toNat 0):=by rw[Nat.mul_one];have:=Et9 p1 hw;rwa [Nat.one_mul]at this
  have ha:fr (g*D) (B*(i+1)) (x+b.2*v.getD b.1.toNat 0):=by have:=Ds8 hx hm;rwa [<-Nat.mul_add]at this
  have:=Dw0 hn hv l (i+1) _ (fun b hb=>hc b (List.mem_cons_of_mem _ hb)) ha;rw[show i+(b::l).length=i+1+l.length by simp;omega];exact this
theorem Cx6{c:Cho}{v:List Rat}{g D B n:Nat}(hc:okN g n c)(hn:n=v.length)(hv:∀x∈v,fr D B x)(hg:0<g)(hD:0<D):fr (g*D) (B*12) (mix v c):=
 Al5 (Dw0 hn hv c.next 0 0 hc.2 (Al6 (Nat.mul_pos hg hD))) (Nat.mul_le_mul_left _ (by have:=hc.1;omega))
end
section
theorem Dw1{c:Cho}{v:List Rat}{g D B n:Nat}(hc:okN g n c)(hn:n=v.length)(hv:∀x∈v,fr D B x)(hs:szs g D B):
 ∀(l:List (Int×Rat)) (i:Nat) (x:Rat),c.next.drop i=l->fr (g*D) (B*i) x->
  Ev fun f=>∀k,l.length<k->Aj0 f (eC c) (v.map R) k (i:Int) (R x).n_.neg (R x).n_.mag (R x).d.neg (R x).d.mag=some (R (Gg0 v l x))
 |[],i,x,hd,hx=>Ev.of fun f k hk=>by
  obtain⟨k,rfl⟩:∃j,k=j+1:=⟨k-1,by simp at hk;omega⟩
  have:=drop_nil hd;unfold Aj0;rw[dF_ (by simp[eC];omega)];rfl
 |b::l,i,x,hd,hx=>by
  obtain⟨hi,hb,hd'⟩:=T7 hd;obtain⟨c1,c2⟩:=hc;obtain⟨p1,p2,p3⟩:=c2 b (by rw[<-hb];exact List.getElem_mem hi);have hw:=frD hv (show b.1.toNat<v.length by omega);have hm:fr (g*D) (B*1) (b.2*v.getD b.1.toNat 0):=by rw[Nat.mul_one];have:=Et9 p1 hw;rwa [Nat.one_mul]at this
  have ha:fr (g*D) (B*(i+1)) (x+b.2*v.getD b.1.toNat 0):=by have:=Ds8 hx hm;rwa [<-Nat.mul_add]at this
  have hz:= @Ax1 _ _ _ hs;have i12:i+1<=12:=by omega
  refine((((Gc0 (hz.2.1 p1)).and (Hl6 (hz.2.1 p1) (hz.1 hw))).and (He2 (hz.2.2 i (by omega) hx) (hz.2.2 1 (by omega) hm))).and (Dw1 ⟨c1,c2⟩ hn hv hs l (i+1) _ hd' ha)).mono fun f h k hk=> ?_
  obtain⟨⟨⟨h1,h2⟩,h3⟩,h4⟩:=h;obtain⟨k,rfl⟩:∃j,k=j+1:=⟨k-1,by simp at hk;omega⟩
  unfold Aj0;rw[dT_ (by simp[eC];omega)];simp only[cond_true];refine sbe (x:=eB b) (by rw[show(eC c).Next=c.next.map eB from rfl,D4 hi,hb]) ?_;have hgt:=Ho0 p2 (show b.1.toNat<v.length by omega);refine sbe h1 (sbe hgt (sbe h2 (sbe h3 ?_)));rw[wi i (by omega)];exact h4 k (by simp at hk;omega)
theorem Cx7{c:Cho}{v:List Rat}{g D B n:Nat}(hc:okN g n c)(hn:n=v.length)(hv:∀x∈v,fr D B x)(hs:szs g D B):Ev fun f=>Gj6 f (eC c) (v.map R)=some (R (mix v c)):=by
 have h0:=hs.1;have h1:=hs.2.1;refine((Gm2.and (Dw1 hc hn hv hs c.next 0 0 rfl (Al6 (Nat.mul_pos h0 h1)))).and (Ev.ge 13)).mono fun f h=> ?_
 obtain⟨⟨e1,e2⟩,e3⟩:=h;unfold Gj6;exact sbe e1 (e2 f (by have:=hc.1;omega))
structure okS(g:Nat)(m:Mdl):Prop where
 len:m.own.length=m.ch.length
 le:m.ch.length<=12
 cs:∀l∈m.ch,l≠[]/\l.length<=1000000/\∀c∈l,okN g m.ch.length c
def bgn(m:Mdl)(tg:Nat):List Rat:=(List.range m.own.length).map fun s=>if tg.testBit s then 1 else 0
theorem Gz8{g:Nat}(hg:0<g)(h:g<=9999){k:Nat}(hk:k<=61):szs g (g^k) (12^k):=by
 refine⟨hg,Nat.pow_pos hg,4*(k+1),2*(k+1),?_,?_,by omega⟩
 ·rw[<-Nat.pow_succ',Nat.pow_mul];exact Nat.pow_le_pow_left (by omega) _
 ·rw[Nat.pow_mul,Nat.pow_succ];have h1:12^k<=(10^2)^k:=Nat.pow_le_pow_left (by decide) _;have h2:0<(10^2)^k:=Nat.pow_pos (by decide);omega
end
section
def dgt(s:List UInt8):Prop:=∀c∈s,48<=c.toNat/\c.toNat<=57
def Es9(s:List UInt8):Bool:=s.all fun c=>decide (48<=c.toNat)&&decide (c.toNat<=57)
theorem Bq0{s:List UInt8}:Es9 s=true↔dgt s:=by simp[Es9,dgt]
def body(s:List UInt8):List UInt8:=if s.head? =some 45 then s.tail else s
def Di1(s:List UInt8):Bool:=s==[48]||(match body s with|[]=>false|c::r=>decide (c.toNat≠48)&&Es9 (c::r))
theorem Da7(s:List UInt8):(∃n,s=tx n)↔Di1 s=true:=by
 have h0:tx 0=[48]:=rfl;constructor
 ·rintro ⟨n,rfl⟩
  unfold Di1;rw[Bool.or_eq_true];rcases Int.lt_trichotomy n 0 with h|h|h
  ·right;have e:tx n=45::dtx (-n):=by unfold tx;rw[if_pos h]
   have eb:body (tx n)=dtx (-n):=by rw[e];rfl
   obtain⟨c,r,h1,h2,h3⟩:=Ao2 (show 0< -n by omega);rw[eb,h1];simp only[Bool.and_eq_true,decide_eq_true_eq];exact⟨by omega,Bq0.2 (by rw[<-h1];exact G9 (by omega))⟩
  ·left;subst h;rfl
  ·right;obtain⟨c,r,h1,h2,h3⟩:=Ao2 h;have e:tx n=c::r:=by rw[Av3 (by omega),h1]
   have eb:body (tx n)=c::r:=by
    rw[e];unfold body;rw[if_neg (by simp;intro hc;subst hc;exact absurd h2 (by decide))]
   rw[eb];simp only[Bool.and_eq_true,decide_eq_true_eq];exact⟨by omega,Bq0.2 (by rw[<-h1];exact G9 (by omega))⟩
 ·intro h;unfold Di1 at h;rw[Bool.or_eq_true]at h;rcases h with h|h
  ·exact⟨0,by rw[h0];simpa using h⟩
  ·split at h
   ·cases h
   ·rename_i c r he;simp only[Bool.and_eq_true,decide_eq_true_eq]at h;have hd:=Bq0.1 h.2;obtain⟨h1,h2⟩:=Gb8 (s:=body s) (by rw[he];exact hd) he h.1;by_cases hb:s.head? =some 45
    ·refine⟨-(fv 0 (body s)),?_⟩;unfold tx;rw[if_pos (by omega),Int.neg_neg,<-h1];cases s with
     |nil=>cases hb
     |cons x s=>simp at hb;subst hb;rfl
    ·refine⟨fv 0 (body s),?_⟩;rw[Av3 (by omega),<-h1];unfold body;rw[if_neg hb]
theorem Dg1(n:Int):lt n<=(tx n).length:=by
 unfold lt;rcases Int.lt_trichotomy n 0 with h|h|h
 ·unfold tx;rw[if_pos h,List.length_cons,Al3 (show 0< -n by omega),show((n.natAbs:Nat):Int)= -n by omega];omega
 ·subst h;rw[show(((0:Int).natAbs:Nat):Int)=0 from rfl,E9 (Int.le_refl _)];exact Nat.zero_le _
 ·rw[Av3 (by omega),Al3 h,show((n.natAbs:Nat):Int)=n by omega];omega
theorem Ey1(c:UInt8):toI c=(c.toNat:Int):=rfl
theorem Ec4{s:List UInt8}(hl:s.length<=100000000):∀(r i k:Nat),i+r=s.length->r<k->Aj4 s k (i:Int)=some (if Es9 (s.drop i)=true then(if 2000<s.length then 6 else 0) else 5)
 |_,_,0,_,h=>absurd h (by omega)
 |0,i,k+1,hi,_=>by
  have hi:i=s.length:=by omega
  subst hi;unfold Aj4;rw[dF_ (by simp),List.drop_length];simp only[cond_false,show Es9 []=true from rfl,if_true];by_cases h:2000<s.length
  ·rw[dT_ (by omega),if_pos h];rfl
  ·rw[dF_ (by omega),if_neg h];rfl
 |r+1,i,k+1,hi,hk=>by
  have hil:i<s.length:=by omega
  unfold Aj4;rw[dT_ (by simp;omega),D4 hil];simp only[cond_true,sb,Ey1];rw[List.drop_eq_getElem_cons hil,show Es9 (s[i]::s.drop (i+1))=((decide (48<=s[i].toNat)&&decide (s[i].toNat<=57))&&Es9 (s.drop (i+1))) from rfl];have ih:=Ec4 hl r (i+1) k (by omega) (by omega);by_cases h1:48<=s[i].toNat
  ·rw[dF_ (show¬(s[i].toNat:Int)<48 by omega)];simp only[cond_false,sb];by_cases h2:s[i].toNat<=57
   ·rw[dF_ (show¬(s[i].toNat:Int)>57 by omega),dT_ h1,dT_ h2];simp only[cond_false,Bool.true_and];rw[wi i (by omega)];exact ih
   ·rw[dT_ (show(s[i].toNat:Int)>57 by omega),dF_ h2];simp only[cond_true,Bool.and_false,Bool.false_and,Bool.false_eq_true,if_false];rfl
  ·rw[dT_ (show(s[i].toNat:Int)<48 by omega),dF_ h1];simp only[cond_true,sb,Bool.false_and,Bool.false_eq_true,if_false];rfl
theorem Am5{fuel:Nat}{s:List UInt8}(hl:s.length<=100000000)(hf:s.length<fuel):∃e:Int,Ee6 fuel s=some e/\(e==5)= !Di1 s:=by
 have htp:Ez4 s [45]=some (body s):=Gj0;have hbl:(body s).length<=s.length:=by unfold body;split<;>simp
 unfold Ee6 Di1;rw[htp,sb];by_cases h0:s=[48]
 ·subst h0;exact⟨0,rfl,rfl⟩
 ·rw[show(s==[48])=false by simpa using h0];simp only[cond_false,Bool.false_or];cases hb:body s with
  |nil=>exact⟨5,rfl,rfl⟩
  |cons c r=>
   rw[show((c::r)==([]:List UInt8))=false from rfl];simp only[cond_false];rw[show C6 (c::r) 0=some c from rfl];simp only[sb];by_cases h1:c.toNat=48
   ·rw[show((c.toNat:Int)==48)=true by rw[h1];rfl];exact⟨5,rfl,by simp[h1]⟩
   ·rw[show((c.toNat:Int)==48)=false by rw[beq_eq_false_iff_ne];omega,show(0:Int)=((0:Nat):Int) from rfl];simp only[cond_false];rw[hb]at hbl;rw[Ec4 (by omega) (c::r).length 0 fuel (by omega) (by omega),List.drop_zero];refine⟨_,rfl,?_⟩;rw[dT_ h1,Bool.true_and];cases hd:Es9 (c::r) with
    |true=>
     simp only[if_true,Bool.not_true];split<;>rfl
    |false=>rfl
theorem By8:∀q:List UInt8,((∀c∈q,c≠47)/\Bi8 47 q=(q,[],false))\/∃a b,q=a++47::b/\(∀c∈a,c≠47)/\Bi8 47 q=(a,b,true)
 |[]=> .inl ⟨fun c h=>(by cases h),rfl⟩
 |c::q=>by
  by_cases hc:c=47
  ·subst hc;exact .inr ⟨[],q,rfl,fun c h=>(by cases h),Q3 [] q fun c h=>(by cases h)⟩
  ·rcases By8 q with⟨h1,h2⟩|⟨a,b,h1,h2,h3⟩
   ·have hq:∀x∈c::q,x≠47:=fun x hx=>by
     rcases List.mem_cons.1 hx with rfl|h
     ·exact hc
     ·exact h1 x h
    exact .inl ⟨hq,Ay3 _ hq⟩
   ·have ha:∀x∈c::a,x≠47:=fun x hx=>by
     rcases List.mem_cons.1 hx with rfl|h
     ·exact hc
     ·exact h2 x h
    subst h1;exact .inr ⟨c::a,b,rfl,ha,Q3 (c::a) b ha⟩
theorem Fz6{n d:Int}(hd:1<d)(hg:Int.gcd n d=1):tx n++47::tx d=T (Rat.divInt n d):=by
 rw[Ff1 (by omega),hg];simp;intro h;omega
theorem Ff3(r:Rat):(∃n,T r=tx n)\/∃n d:Int,T r=tx n++47::tx d/\1<d/\Int.gcd n d=1:=by
 unfold T;by_cases h:r.den=1
 ·rw[if_pos h];exact .inl ⟨_,rfl⟩
 ·rw[if_neg h];refine .inr ⟨r.num,r.den,rfl,by have:=r.den_pos;omega,?_⟩;exact r.reduced
theorem Hg5{n:Int}{a b:List UInt8}(h:tx n=a++47::b):False:=Bh8 (n:=n) 47 (by rw[h];simp) rfl
theorem Ga0{a b a' b':List UInt8}(ha:∀c∈a,c≠47)(ha':∀c∈a',c≠47)(h:a++47::b=a'++47::b'):a=a'/\b=b':=by
 have h1:=Q3 a b ha;have h2:=Q3 a' b' ha';rw[h,h2]at h1;injection h1 with h3 h4
 injection h4 with h5 h6
 exact⟨h3.symm,h5.symm⟩
theorem Du4(n:Int):(Rat.divInt n 1).num=n/\(Rat.divInt n 1).den=1:=by
 have e:Rat.divInt n 1=(n:Rat):=by rw[Rat.divInt_eq_div];simp only[Rat.intCast_one];grind
 rw[e];exact⟨rfl,rfl⟩
def Bv8(k:Int)(r:Rat):Bool:=decide (((dtx (r.num.natAbs:Int)).length:Int)<=k)&&decide (((dtx (r.den:Int)).length:Int)<=k)
theorem Br3{r:Rat}{k:Int}(h:rsz 10000000 r):F81 (R r) k=some (Bv8 k r):=by
 have h1:=X5 h;unfold F81 Bv8;rw[show(R r).n_=W r.num from rfl,show(R r).d=W (r.den:Int) from rfl,Bz3 (by have:=h1.1;omega),sb,Bz3 (by have:=h1.2;omega)];rw[Int.natAbs_natCast];cases decide (((dtx (r.num.natAbs:Int)).length:Int)<=k)<;>rfl
theorem Bp4{s:List UInt8}(h:Di1 s=false):¬∃n,s=tx n:=fun h'=>by rw[(Da7 s).1 h']at h;cases h
theorem Gy1{fuel:Nat}{n:Int}(hl:(tx n).length<=10000000)(hf:2000000010<fuel):F36 fuel (tx n)=some (R (Rat.divInt n 1)):=by
 rw[<-Eh1 n];have hr:rsz 100000000 (Rat.divInt n 1):=by
  obtain⟨hn,hd⟩:=Du4 n;refine⟨by rw[hn];have:=Dg1 n;omega,by rw[hd];exact Nat.le_trans (Bj3 (L:=1) (by decide)) (by decide)⟩
 exact Dt2 hr (Nat.le_refl _) hf
theorem Gy0{fuel:Nat}{n d:Int}(hl:(tx n).length+(tx d).length<=10000000)(hf:2000000010<fuel):F36 fuel (tx n++47::tx d)=some ⟨W n,W d⟩:=by
 unfold F36 F71 Ft0;rw[dT_ (show(tx n++47::tx d).length<=2147483648 by simp;omega)];show Option.bind (some (Bi8 47 (tx n++47::tx d))) _=_;rw[Q3 _ _ Bh8,sb];simp only[Bool.not_true,cond_false];rw[Bg2 (by omega) (by omega),sb,Bg2 (by omega) (by omega),sb]
theorem Fo2{n:Int}(hl:(tx n).length<=10000000):rsz 10000000 (Rat.divInt n 1):=by
 obtain⟨hn,hd⟩:=Du4 n;exact⟨by rw[hn];have:=Dg1 n;omega,by rw[hd];exact Nat.le_trans (Bj3 (L:=1) (by decide)) (by decide)⟩
theorem Dy5{n d:Int}(hd:1<d)(hg:Int.gcd n d=1):(Rat.divInt n d).num=n/\((Rat.divInt n d).den:Int)=d:=by
 constructor
 ·rw[Rat.num_divInt,Int.sign_eq_one_of_pos (by omega),Int.one_mul,Int.gcd_comm,hg];simp
 ·rw[Rat.den_divInt,if_neg (by omega),Int.gcd_comm,hg];simp;omega
theorem Fo3{n d:Int}(hd:1<d)(hg:Int.gcd n d=1)(hl:(tx n).length+(tx d).length<=10000000):rsz 10000000 (Rat.divInt n d):=by
 obtain⟨h1,h2⟩:=Dy5 hd hg;exact⟨by rw[h1];have:=Dg1 n;omega,by rw[h2];have:=Dg1 d;omega⟩
def rdd(q:List UInt8)(y:D2):Prop:=(y.e=5/\¬∃r,q=T r)\/∃r,q=T r/\rsz 10000000 r/\y=if Bv8 2000 r=true then⟨R r,0⟩ else⟨⟨⟨false,[]⟩,⟨false,[]⟩⟩,6⟩
theorem Bu2{q:List UInt8}(hq:q.length<=9000000):∃y,rdd q y/\Ev fun f=>F70 f q=some y:=by
 have hcut:F71 q [47]=some (Bi8 47 q):=by
  unfold F71 Ft0;rw[dT_ (show q.length<=2147483648 by omega)];rfl
 have h49:∀fuel,3<fuel->∃e:Int,Ee6 fuel [49]=some e/\(e==5)=false:=fun fuel hf=>by
  obtain⟨e,h1,h2⟩:=Am5 (fuel:=fuel) (s:=[49]) (by decide) (by simp;omega);exact⟨e,h1,h2⟩
 rcases By8 q with⟨hno,hc⟩|⟨a,b,hqe,hno,hc⟩
 ·--no slash
  cases hcan:Di1 q with
  |false=>
   refine⟨(⟨⟨⟨false,[]⟩,⟨false,[]⟩⟩,5⟩:D2),.inl ⟨rfl,fun⟨r,hr⟩=> ?_⟩,Ev.from_ 100000001 fun f hf=> ?_⟩
   rotate_left
   ·obtain⟨e,h1,h2⟩:=Am5 (fuel:=f) (s:=q) (by omega) (by omega);unfold F70;rw[hcut,sb,hc];simp only[Bool.not_false,cond_true];rw[h1,sb,h2,hcan];rfl
   ·rcases Ff3 r with⟨n,h⟩|⟨n,d,h,_⟩
    ·exact Bp4 hcan ⟨n,by rw[hr,h]⟩
    ·exact hno 47 (by rw[hr,h];simp) rfl
  |true=>
   obtain⟨n,rfl⟩:=(Da7 q).2 hcan;have hz:=Fo2 (n:=n) (by omega);refine⟨_,.inr ⟨Rat.divInt n 1,(Eh1 n).symm,hz,rfl⟩,Ev.from_ 40000000000000000001 fun f hf=> ?_⟩;obtain⟨e,h1,h2⟩:=Am5 (fuel:=f) (s:=tx n) (by omega) (by omega);obtain⟨e',h1',h2'⟩:=h49 f (by omega);unfold F70;rw[hcut,sb,hc];simp only[Bool.not_false,cond_true];rw[h1,sb,h2,hcan];simp only[Bool.not_true,cond_false];rw[h1',sb,h2',sb];simp only[cond_false];rw[Gy1 (by omega) (by omega),sb];unfold Eo8;rw[sb,Aq6 (by decide) (by decide) (by omega),sb,sb];simp only[cond_false];rw[Br3 hz,sb];cases Bv8 2000 (Rat.divInt n 1)<;>rfl
 ·--a slash
  have hlen:a.length+b.length+1=q.length:=by rw[hqe];simp;omega
  have bad:Di1 a=false\/Di1 b=false->∃y,rdd q y/\Ev fun f=>F70 f q=some y:=fun hb=>by
   refine⟨(⟨⟨⟨false,[]⟩,⟨false,[]⟩⟩,5⟩:D2),.inl ⟨rfl,fun⟨r,hr⟩=> ?_⟩,Ev.from_ 100000001 fun f hf=> ?_⟩
   rotate_left
   ·obtain⟨e,h1,h2⟩:=Am5 (fuel:=f) (s:=a) (by omega) (by omega);obtain⟨e',h1',h2'⟩:=Am5 (fuel:=f) (s:=b) (by omega) (by omega);unfold F70;rw[hcut,sb,hc];simp only[Bool.not_true,cond_false];rw[h1,sb,h2];cases hca:Di1 a with
    |false=>rfl
    |true=>
     rcases hb with h|h
     ·rw[hca]at h;cases h
     ·simp only[Bool.not_true,cond_false];rw[h1',sb,h2',h];rfl
   ·rcases Ff3 r with⟨n,h⟩|⟨n,d,h,_⟩
    ·rw[h,hqe]at hr;exact Hg5 hr.symm
    ·rw[h,hqe]at hr;obtain⟨e1,e2⟩:=Ga0 hno Bh8 hr;rcases hb with h|h
     ·exact Bp4 h ⟨n,e1⟩
     ·exact Bp4 h ⟨d,e2⟩
  cases hca:Di1 a with
  |false=>exact bad (.inl hca)
  |true=>
  cases hcb:Di1 b with
  |false=>exact bad (.inr hcb)
  |true=>
  obtain⟨n,rfl⟩:=(Da7 a).2 hca;obtain⟨d,rfl⟩:=(Da7 b).2 hcb;subst hqe;have hln:=Dg1 n;have hld:=Dg1 d;have l1:=Bs3 n;have l2:=Bs3 d;have l3:=Em0 (a:=1) (by decide);have notT:¬(1<d/\Int.gcd n d=1)->¬∃r,tx n++47::tx d=T r:=fun hb ⟨r,hr⟩=>by
   rcases Ff3 r with⟨m,h⟩|⟨m,e,h,h1,h2⟩
   ·rw[h]at hr;exact Hg5 hr.symm
   ·rw[h]at hr;obtain⟨e1,e2⟩:=Ga0 Bh8 Bh8 hr;rw[Bh7 e1,Bh7 e2]at hb;exact hb ⟨h1,h2⟩
  have main:∀f,18446744073709551616+536870900+d.natAbs+40000000000000000001<f->F70 f (tx n++47::tx d)=(if 1<d/\Int.gcd n d=1 then Option.bind (F81 ⟨W n,W d⟩ 2000) fun y34=>bif !y34 then some ⟨⟨⟨false,[]⟩,⟨false,[]⟩⟩,6⟩ else some ⟨⟨W n,W d⟩,0⟩ else some ⟨⟨⟨false,[]⟩,⟨false,[]⟩⟩,5⟩):=fun f hf=>by
   obtain⟨e,h1,h2⟩:=Am5 (fuel:=f) (s:=tx n) (by omega) (by omega);obtain⟨e',h1',h2'⟩:=Am5 (fuel:=f) (s:=tx d) (by omega) (by omega);unfold F70;rw[hcut,sb,hc];simp only[Bool.not_true,cond_false];rw[h1,sb,h2,hca];simp only[Bool.not_true,cond_false];rw[h1',sb,h2',hcb];simp only[Bool.not_true,sb,cond_false];rw[Gy0 (by omega) (by omega),sb];unfold Eo8;rw[sb,Aq6 (by decide) (by decide) (by omega),sb];simp only[cond_true];rw[Cp4 (by omega) (by omega) (by omega),sb];by_cases hd:1<d
   ·rw[dF_ (by rw[D9 hd];decide)];simp only[cond_false];have hgl:ln ((Int.gcd n d:Nat):Int)<=ln d:=Dv4 (by
     have:((Int.gcd n d:Nat):Int)∣d:=Int.gcd_dvd_right ..;have:=Int.le_of_dvd (by omega) this;omega)
    rw[Eu6 (by omega) (by omega) (by omega),sb,Cp4 (by omega) (by omega) (by omega),sb,Gl9,sb];by_cases hg:Int.gcd n d=1
    ·rw[if_pos ⟨hd,hg⟩,hg];rfl
    ·rw[if_neg (fun h=>hg h.2),dT_ (show((Int.gcd n d:Nat):Int)≠1 by omega)];rfl
   ·rw[if_neg (fun h=>hd h.1),dT_ (by
     rcases Int.lt_or_eq_of_le (show d<=1 by omega) with h|h
     ·rw[D8 h];decide
     ·rw[h,J1];decide)]
    rfl
  by_cases hok:1<d/\Int.gcd n d=1
  ·obtain⟨hd,hg⟩:=hok;have hz:=Fo3 hd hg (by omega);have hR:(⟨W n,W d⟩:A1)=R (Rat.divInt n d):=by
    obtain⟨e1,e2⟩:=Dy5 hd hg;unfold R;rw[e1,e2]
   refine⟨_,.inr ⟨Rat.divInt n d,Fz6 hd hg,hz,rfl⟩,Ev.from_ (18446744073709551616+536870900+d.natAbs+40000000000000000002) fun f hf=> ?_⟩;rw[main f (by omega),if_pos ⟨hd,hg⟩,hR,Br3 hz,sb];cases Bv8 2000 (Rat.divInt n d)<;>rfl
  ·refine⟨(⟨⟨⟨false,[]⟩,⟨false,[]⟩⟩,5⟩:D2),.inl ⟨rfl,notT hok⟩,Ev.from_ (18446744073709551616+536870900+d.natAbs+40000000000000000002) fun f hf=> ?_⟩;rw[main f (by omega),if_neg hok]
theorem Dy2{q:List UInt8}(hq:q.length<=9000000):∃y,rdd q y/\Ev fun f=>F35 f q=some y.e:=by
 obtain⟨y,h1,h2⟩:=Bu2 hq;refine⟨y,h1,h2.mono fun f h=> ?_⟩;unfold F35;exact sbe h rfl
def shB(r:Rat):Bool:=Bv8 4 r
theorem Cu2{x:Int}(h0:0<=x){k:Nat}(hk:0<k):(dtx x).length<=k↔x<10^k:=by
 constructor
 ·intro h;rcases Int.lt_or_eq_of_le h0 with h1|h1
  ·rw[Al3 h1]at h;exact Int.lt_of_lt_of_le (Ad7 h10 h0) (F0 h10 h)
  ·subst h1;exact p10 k
 ·exact Cu3 hk
theorem Ao8{r:Rat}{k:Nat}(hk:0<k):Bv8 (k:Int) r=true↔r.num.natAbs<10^k/\r.den<10^k:=by
 unfold Bv8;rw[Bool.and_eq_true,decide_eq_true_eq,decide_eq_true_eq];have e:((10^k:Nat):Int)=(10:Int)^k:=by push_cast;rfl
 have h1:=Cu2 (x:=(r.num.natAbs:Int)) (by omega) hk;have h2:=Cu2 (x:=(r.den:Int)) (by omega) hk;rw[<-e]at h1 h2;constructor
 ·rintro ⟨a,b⟩;exact⟨by have:=h1.1 (by omega);omega,by have:=h2.1 (by omega);omega⟩
 ·rintro ⟨a,b⟩;exact⟨by have:=h1.2 (by omega);omega,by have:=h2.2 (by omega);omega⟩
theorem Ca4{r:Rat}{k l:Int}(h:k<=l)(hk:Bv8 k r=true):Bv8 l r=true:=by
 unfold Bv8 at hk⊢;rw[Bool.and_eq_true,decide_eq_true_eq,decide_eq_true_eq]at hk⊢;omega
theorem Dz6{q:List UInt8}(hq:q.length<=9000000):∃b,(b=true↔∃r,q=T r/\shB r=true)/\Ev fun f=>Fr8 f q=some b:=by
 obtain⟨y,h1,h2⟩:=Bu2 hq;rcases h1 with⟨he,hn⟩|⟨r,hr,hz,hy⟩
 ·refine⟨false,⟨fun h=>(by cases h),fun⟨r,h,_⟩=>absurd ⟨r,h⟩ hn⟩,h2.mono fun f h=> ?_⟩;unfold Fr8;refine sbe h ?_;rw[he];rfl
 ·refine⟨shB r,⟨fun h=>⟨r,hr,h⟩,fun⟨r',h,h'⟩=>by rwa [At0 (hr.symm.trans h)]⟩,h2.mono fun f h=> ?_⟩;unfold Fr8;refine sbe h ?_;rw[hy];by_cases hf:Bv8 2000 r=true
  ·rw[if_pos hf];simp only[show((0:Int)==0)=true from rfl,cond_true];rw[Br3 hz];rfl
  ·rw[if_neg hf];cases hs:shB r with
   |true=>exact absurd (Ca4 (by decide) hs) hf
   |false=>rfl
end
section
theorem wu8{x:Int}(h:0<=x)(h':x<256):IntKind.u8.wrap x=x:=by
 have e8:(2^IntKind.u8.bits:Int)=256:=rfl;unfold IntKind.wrap;simp only[e8,show IntKind.u8.signed=false from rfl,Bool.false_and];rw[if_neg (by decide)];exact Int.emod_eq_of_lt h h'
theorem Ew4{s:List UInt8}(hs:dgt s)(hl:s.length<=9):∀(r i k:Nat) (a:Int),i+r=s.length->r<k->0<=a->a<10^i->Ak6 s k a (i:Int)=some (fv a (s.drop i))
 |_,_,0,_,_,h,_,_=>absurd h (by omega)
 |0,i,k+1,a,hi,_,_,_=>by
  unfold Ak6;rw[dF_ (by omega),List.drop_of_length_le (by omega)];rfl
 |r+1,i,k+1,a,hi,hk,h0,h1=>by
  unfold Ak6;have hil:i<s.length:=by omega
  have hc:=hs s[i] (List.getElem_mem hil);have h9:(10:Int)^i<=100000000:=by
   have:=F0 h10 (show i<=8 by omega);have:(10:Int)^8=100000000:=by decide
   omega
  rw[dT_ (by omega),C7 hil];simp only[cond_true,sb];rw[wu8 (x:=(s[i].toNat:Int)-48) (by omega) (by omega),E7 (i:=10*a) (by omega) (by omega),E7 (i:=(s[i].toNat:Int)-48) (by omega) (by omega),E7 (i:=10*a+((s[i].toNat:Int)-48)) (by omega) (by omega),wi i (by omega),Ew4 hs hl r (i+1) k _ (by omega) (by omega) (by omega) (by rw[Int.pow_succ];omega),List.drop_eq_getElem_cons hil];rfl
theorem Dw9{f:Nat}{n:Int}(h0:0<=n)(h1:n<10000)(hf:20<f):Ed5 f (dtx n)=some n:=by
 have hd:=G9 h0;have hl:(dtx n).length<=4:=Cu3 (by decide) (by omega);obtain⟨f,rfl⟩:∃j,f=j+1:=⟨f-1,by omega⟩
 obtain⟨c,r,hcr⟩:∃c r,dtx n=c::r:=by
  cases h:dtx n with
  |nil=>exact absurd h Bm0
  |cons c r=>exact⟨c,r,rfl⟩
 have hc:=hd c (by rw[hcr];exact List.mem_cons_self);unfold Ed5;rw[hcr,show C6 (c::r) 0=some c from rfl,sb,show((c.toNat:Int)==45)=false by rw[beq_eq_false_iff_ne];omega];simp only[cond_false];rw[<-hcr];have hN:=Ew4 hd (by omega) (dtx n).length 0 f 0 (by omega) (by omega) (by decide) (by decide);rw[List.drop_zero,Cv8 h0]at hN;exact hN
theorem Dw8{f:Nat}{n:Int}(h:n.natAbs<10000)(hf:30<f):Ed5 f (tx n)=some n:=by
 by_cases hn:n<0
 ·obtain⟨f,rfl⟩:∃j,f=j+1:=⟨f-1,by omega⟩
  have e:tx n=45::dtx (-n):=by unfold tx;rw[if_pos hn]
  have hl:(dtx (-n)).length<=4:=Cu3 (by decide) (by omega);rw[e];unfold Ed5;rw[show C6 (45::dtx (-n)) 0=some 45 from rfl,sb,show(((45:UInt8).toNat:Int)==45)=true from rfl];simp only[cond_true];rw[E1 (by simp;omega),show((45::dtx (-n)).drop (Int.toNat 1)).take (Int.toNat (((45::dtx (-n)).length:Int)-1))=dtx (-n) by
   rw[show Int.toNat (((45::dtx (-n)).length:Int)-1)=(dtx (-n)).length by simp];simp]
  rw[Dw9 (by omega) (by omega) (by omega),sb,E7 (by omega) (by omega)];congr 1;omega
 ·rw[Av3 (by omega)];exact Dw9 (by omega) (by omega) (by omega)
theorem Bh1{q:List UInt8}(hq:q.length<=9000000):(∃r,q=T r/\shB r=true/\Ev fun f=>Ch7 f q=some (r.num,(r.den:Int),true))\/((¬∃r,q=T r/\shB r=true)/\Ev fun f=>Ch7 f q=some (0,0,false)):=by
 obtain⟨b,h1,h2⟩:=Dz6 hq;cases hb:b with
 |false=>
  right;refine⟨fun h=>(by rw[h1.2 h]at hb;cases hb),h2.mono fun f h=> ?_⟩;unfold Ch7;rw[hb]at h;exact sbe h rfl
 |true=>
  left;obtain⟨r,hr,hs⟩:=h1.1 hb;obtain⟨hs1,hs2⟩:=(Ao8 (k:=4) (by decide)).1 hs;refine⟨r,hr,hs,?_⟩;obtain⟨y,h3,h4⟩:=Bu2 hq;rcases h3 with⟨_,hn⟩|⟨r',hr',hz,hy⟩
  ·exact absurd ⟨r,hr⟩ hn
  ·have:r'=r:=At0 (hr'.symm.trans hr);subst this;rw[if_pos (Ca4 (by decide) hs)]at hy;have hz':=X5 hz;refine((h2.and h4).and (Ev.ge 20000000)).mono fun f h=> ?_
   obtain⟨⟨e1,e2⟩,e3⟩:=h;unfold Ch7 Gl0;rw[hb]at e1;refine sbe e1 ?_;simp only[Bool.not_true,cond_false];rw[e2,sb,hy];simp only[show((0:Int) !=0)=false from rfl,cond_false];unfold Eo8;rw[sb,show(R r').n_=W r'.num from rfl,show(R r').d=W (r'.den:Int) from rfl,Az8 (by have:=hz'.1;omega) (by have:=hz'.1;omega),sb,Az8 (by have:=hz'.2;omega) (by have:=hz'.2;omega),sb,sb,Dw8 hs1 (by omega),sb,Dw8 (by omega) (by omega),sb];rfl
theorem Eu7:∀(k:Nat) (a b:Int),b.toNat<k->0<=a->0<=b->As8 k a b=some ((Int.gcd a b:Nat):Int)
 |0,_,_,h,_,_=>absurd h (by omega)
 |k+1,a,b,h,ha,hb=>by
  unfold As8;by_cases hb0:b>0
  ·rw[dT_ hb0];simp only[cond_true];rw[E1 (dT_ (by omega)),(tdm ha).2];have h1:=Int.emod_nonneg a (show b≠0 by omega);have h2:=Int.emod_lt_of_pos a hb0;rw[Eu7 k b (a%b) (by omega) hb h1,<-Ao9 ha hb]
  ·rw[dF_ hb0];obtain rfl:b=0:=by omega
   simp only[cond_false];rw[Int.gcd_zero_right];congr 1;omega
theorem Fm0{v d:Nat}(hv:0<v):Int.tdiv (v:Int) ((Int.gcd v d:Nat):Int)*(d:Int)=((Nat.lcm v d:Nat):Int):=by
 rw[Int.gcd_natCast_natCast,(tdm (by omega)).1];have h1:Nat.gcd v d∣v:=Nat.gcd_dvd_left ..;have h0:0<Nat.gcd v d:=Nat.gcd_pos_of_pos_left _ hv;obtain⟨c,hc⟩:=h1;have e1:((v:Nat):Int)/((Nat.gcd v d:Nat):Int)=(c:Int):=by
  have:v/Nat.gcd v d=c:=by
   conv=>lhs;arg 1;rw[hc]
   exact Nat.mul_div_cancel_left _ h0
  rw[<-this];norm_cast
 rw[e1];have e2:Nat.lcm v d=c*d:=by
  unfold Nat.lcm
  conv=>lhs;arg 1;rw[hc]
  rw[Nat.mul_assoc,Nat.mul_div_cancel_left _ h0]
 rw[e2];norm_cast
theorem Bs8{f:Nat}{v d:Nat}{d1:List Int}{d2:List (List A2)}{d3:Int}(hv:0<v)(hv9:v<=9999)(hd:0<d)(hd9:d<=9999)(hf:10000<f):
 Dl0 f (d:Int) d1 d2 d3 (v:Int)=some (decide (Nat.lcm v d<=9999),((Nat.lcm v d:Nat):Int)):=by
 have h0:0<Int.gcd v d:=Int.gcd_pos_of_ne_zero_left _ (by omega);have hl:=Fm0 (d:=d) hv;have hle:Nat.lcm v d<=99980001:=Nat.le_trans (Nat.lcm_le_mul hv hd) (Nat.le_trans (Nat.mul_le_mul hv9 hd9) (by decide));have hq:Int.tdiv (v:Int) ((Int.gcd v d:Nat):Int)<=9999/\0<=Int.tdiv (v:Int) ((Int.gcd v d:Nat):Int):=by
  rw[(tdm (by omega)).1];exact⟨Int.le_trans (Int.ediv_le_self _ (by omega)) (by omega),Int.ediv_nonneg (by omega) (by omega)⟩
 unfold Dl0 Fd9;rw[Eu7 f v d (by omega) (by omega) (by omega),sb,E1 (dT_ (by omega)),E7 (i:=Int.tdiv (v:Int) ((Int.gcd v d:Nat):Int)) (by omega) (by omega),hl,E7 (by omega) (by omega)];congr 2;exact decide_eq_decide.2 (by omega)
theorem Em5{f:Nat}{v d:Nat}{d1:List Int}{d2:List (List A2)}{d4:Int}(hv:0<v)(hv9:v<=9999)(hd:0<d)(hd9:d<=9999)(hf:10000<f):
 Ch9 f (d:Int) d1 d2 (v:Int) d4=some (decide (Nat.lcm v d<=9999),((Nat.lcm v d:Nat):Int)):=
 Bs8 (d1:=d1) (d2:=d2) (d3:=d4) hv hv9 hd hd9 hf
def Be9(v:Nat):List Rat->Option Nat
 |[]=>some v
 |r::l=>if Nat.lcm v r.den<=9999 then Be9 (Nat.lcm v r.den) l else none
theorem Bf0:∀{l:List Rat} {v w:Nat},Be9 v l=some w->0<v->v<=9999->0<w/\w<=9999/\v∣w/\∀r∈l,r.den∣w
 |[],v,w,h,h0,h9=>by cases h;exact⟨h0,h9,Nat.dvd_refl _,fun r hr=>by cases hr⟩
 |r::l,v,w,h,h0,h9=>by
  unfold Be9 at h;split at h
  ·rename_i hl;obtain⟨a,b,c,d⟩:=Bf0 h (Nat.lcm_pos h0 r.den_pos) hl;refine⟨a,b,Nat.dvd_trans (Nat.dvd_lcm_left ..) c,fun x hx=> ?_⟩;rcases List.mem_cons.1 hx with rfl|hx
   ·exact Nat.dvd_trans (Nat.dvd_lcm_right ..) c
   ·exact d x hx
  ·cases h
theorem Bs1:∀{l m:List Rat} {v w:Nat},Be9 v (l++m)=some w↔∃u,Be9 v l=some u/\Be9 u m=some w
 |[],m,v,w=>⟨fun h=>⟨v,rfl,h⟩,fun⟨u,h1,h2⟩=>by cases h1;exact h2⟩
 |r::l,m,v,w=>by
  rw[List.cons_append,Be9,Be9];split
  ·exact Bs1
  ·exact⟨fun h=>(by cases h),fun⟨u,h1,_⟩=>(by cases h1)⟩
def Ed6(a:List UInt8):Bool:=decide (a.length<=8)&&a.all fun c=>decide (97<=c.toNat)&&decide (c.toNat<=122)
theorem Ev0{a:List UInt8}(hl:a.length<=1000):∀(r i k:Nat),i+r=a.length->r<k->∃j:Int,Ad3 (a.map toI) k (i:Int)=some j/\decide (j>=0)= !((a.drop i).all fun c=>decide (97<=c.toNat)&&decide (c.toNat<=122))
 |_,_,0,_,h=>absurd h (by omega)
 |0,i,k+1,hi,_=>by
  unfold Ad3;rw[dF_ (by simp;omega),List.drop_of_length_le (by omega)];exact⟨-1,rfl,rfl⟩
 |r+1,i,k+1,hi,hk=>by
  have hil:i<a.length:=by omega
  obtain⟨j,h1,h2⟩:=Ev0 hl r (i+1) k (by omega) (by omega);unfold Ad3;rw[dT_ (by simp;omega),D4 hil,List.drop_eq_getElem_cons hil,List.all_cons];simp only[cond_true,sb,Ey1];have hc:Fv7 (a[i].toNat:Int)=some (!(decide (97<=a[i].toNat)&&decide (a[i].toNat<=122))):=by
   unfold Fv7;by_cases h3:97<=a[i].toNat
   ·rw[dF_ (show¬(a[i].toNat:Int)<97 by omega),dT_ h3];simp only[cond_false,sb,Bool.true_and];by_cases h4:a[i].toNat<=122
    ·rw[dT_ h4,dF_ (by omega)];rfl
    ·rw[dF_ h4,dT_ (by omega)];rfl
   ·rw[dT_ (show(a[i].toNat:Int)<97 by omega),dF_ h3];rfl
  rw[hc,sb];cases hb:(decide (97<=a[i].toNat)&&decide (a[i].toNat<=122)) with
  |true=>
   simp only[Bool.not_true,cond_false,Bool.true_and];rw[wi i (by omega)];exact⟨j,h1,h2⟩
  |false=>
   exact⟨(i:Int),rfl,by simp⟩
theorem Bf4{f:Nat}(hf:20<f):∀(ys:List (Int×A2)),Z5 f ys=some (ys.all fun y=>Ed6 y.2.Act)
 |[]=>rfl
 |y::ys=>by
  rw[Z5,List.all_cons];by_cases h8:y.2.Act.length<=8
  ·rw[dF_ (show¬(y.2.Act.length:Int)>8 by omega)];simp only[cond_false];obtain⟨j,h1,h2⟩:=Ev0 (a:=y.2.Act) (by omega) y.2.Act.length 0 f (by omega) (by omega);unfold Fv6 Gk9;rw[show Ad3 (y.2.Act.map toI) f 0=some j from h1,sb,sb,sb,h2,List.drop_zero];unfold Ed6;rw[dT_ h8,Bool.true_and];cases hb:(y.2.Act.all fun c=>decide (97<=c.toNat)&&decide (c.toNat<=122)) with
   |true=>simp only[Bool.not_true,cond_false,Bool.true_and];exact Bf4 hf ys
   |false=>rfl
  ·rw[dT_ (show(y.2.Act.length:Int)>8 by omega)];simp only[cond_true,sb];unfold Ed6;rw[dF_ h8];rfl
def gnP(v:Nat)(ts:List (List UInt8))(rs:List Rat)(w:Nat):Prop:=ts=rs.map T/\(∀r∈rs,shB r=true/\0<=r)/\Be9 v rs=some w
theorem Dp9{r:Rat}(h:shB r=true):r.num.natAbs<10000/\0<r.den/\r.den<=9999:=by
 obtain⟨h1,h2⟩:=(Ao8 (k:=4) (by decide)).1 h;exact⟨h1,r.den_pos,by omega⟩
theorem Cw0{d0:List Int}{d1:List (List A2)}{d2:Int}:∀(ys:List (Int×A2)) (v:Nat),(∀y∈ys,y.2.Gain.length<=9000000)->0<v->v<=9999->
 (∃rs w,gnP v (ys.map (·.2.Gain)) rs w/\Ev fun f=>H4 f d0 d1 d2 ys (v:Int)=some (true,(w:Int)))\/
 ((¬∃rs w,gnP v (ys.map (·.2.Gain)) rs w)/\∃w:Int,Ev fun f=>H4 f d0 d1 d2 ys (v:Int)=some (false,w))
 |[],v,_,h0,h9=> .inl ⟨[],v,⟨rfl,fun r h=>(by cases h),rfl⟩,Ev.of fun f=>rfl⟩
 |y::ys,v,hl,h0,h9=>by
  have hy:=hl y List.mem_cons_self;have hys:∀z∈ys,z.2.Gain.length<=9000000:=fun z h=>hl z (List.mem_cons_of_mem _ h)
  have inv:∀{rs w},gnP v ((y::ys).map (·.2.Gain)) rs w->∃r rs',rs=r::rs'/\y.2.Gain=T r/\shB r=true/\0<=r/\Nat.lcm v r.den<=9999/\gnP (Nat.lcm v r.den) (ys.map (·.2.Gain)) rs' w:=fun{rs w} ⟨h1,h2,h3⟩=>by
   cases rs with
   |nil=>cases h1
   |cons r rs'=>
    rw[List.map_cons,List.map_cons]at h1;injection h1 with h4 h5
    unfold Be9 at h3;split at h3
    ·rename_i hle;obtain⟨h6,h7⟩:=h2 r List.mem_cons_self;exact⟨r,rs',rfl,h4,h6,h7,hle,h5,fun x hx=>h2 x (List.mem_cons_of_mem _ hx),h3⟩
    ·cases h3
  rcases Bh1 hy with⟨r,hr,hs,he⟩|⟨hn,he⟩
  ·have hd:=Dp9 hs;by_cases hneg:r<0
   ·right;refine⟨fun⟨rs,w,h⟩=> ?_,(v:Int),he.mono fun f h=> ?_⟩
    ·obtain⟨r',_,_,h2,_,h3,_⟩:=inv h;rw[At0 (hr.symm.trans h2)]at hneg;exact absurd h3 (Rat.not_le.2 hneg)
    ·rw[H4];refine sbe h ?_;simp only[Bool.not_true,cond_false];rw[dT_ (show r.num<0 from Cz1.2 hneg)];rfl
   ·have hnn:¬r.num<0:=fun h=>hneg (Cz1.1 h)
    by_cases hle:Nat.lcm v r.den<=9999
    ·have step:∀{b:Bool} {w:Int},(Ev fun f=>H4 f d0 d1 d2 ys ((Nat.lcm v r.den:Nat):Int)=some (b,w))->Ev fun f=>H4 f d0 d1 d2 (y::ys) (v:Int)=some (b,w):=fun{b w} hE=>((he.and hE).and (Ev.ge 10001)).mono fun f h=>by
      obtain⟨⟨h1,h2⟩,h3⟩:=h;rw[H4];refine sbe h1 ?_;simp only[Bool.not_true,cond_false];rw[dF_ hnn];simp only[cond_false];rw[Bs8 h0 h9 hd.2.1 hd.2.2 (by omega),sb,sb,dT_ hle];simp only[Bool.not_true,cond_false];exact h2
     rcases Cw0 ys (Nat.lcm v r.den) hys (Nat.lcm_pos h0 hd.2.1) hle with⟨rs,w,⟨g1,g2,g3⟩,h⟩|⟨hno,w,h⟩
     ·left;refine⟨r::rs,w,⟨by rw[List.map_cons,List.map_cons,hr,g1],fun x hx=> ?_,by unfold Be9;rw[if_pos hle];exact g3⟩,step h⟩;rcases List.mem_cons.1 hx with rfl|hx
      ·exact⟨hs,Rat.not_lt.1 hneg⟩
      ·exact g2 x hx
     ·right;refine⟨fun⟨rs,w,h⟩=> ?_,w,step h⟩;obtain⟨r',rs',_,h2,_,_,_,h5⟩:=inv h;rw[<-At0 (hr.symm.trans h2)]at h5;exact hno ⟨rs',w,h5⟩
    ·right;refine⟨fun⟨rs,w,h⟩=> ?_,((Nat.lcm v r.den:Nat):Int),(he.and (Ev.ge 10001)).mono fun f h=> ?_⟩
     ·obtain⟨r',rs',_,h2,_,_,h4,_⟩:=inv h;rw[<-At0 (hr.symm.trans h2)]at h4;exact hle h4
     ·obtain⟨h1,h3⟩:=h;rw[H4];refine sbe h1 ?_;simp only[Bool.not_true,cond_false];rw[dF_ hnn];simp only[cond_false];rw[Bs8 h0 h9 hd.2.1 hd.2.2 (by omega),sb,sb,dF_ hle];rfl
  ·right;refine⟨fun⟨rs,w,h⟩=> ?_,(v:Int),he.mono fun f h=> ?_⟩
   ·obtain⟨r',rs',_,h2,h3,_⟩:=inv h;exact hn ⟨r',h2,h3⟩
   ·rw[H4];exact sbe h rfl
end
section
def asc(n:Nat):Int->List (Int×Rat)->Prop
 |_,[]=>True
 |last,b::l=>last<b.1/\b.1<n/\asc n b.1 l
theorem Do1{n:Nat}:∀{l:List (Int×Rat)} {last:Int},asc n last l->last<n->(l.length:Int)<=n-1-last
 |[],last,_,h=>by simp;omega
 |b::l,last,⟨h1,h2,h3⟩,h=>by
  have:=Do1 h3 h2;simp;omega
theorem Cj4{n:Nat}:∀{l:List (Int×Rat)} {last:Int},asc n last l->∀b∈l,last<b.1/\b.1<n
 |b::l,last,⟨h1,h2,h3⟩,x,hx=>by
  rcases List.mem_cons.1 hx with rfl|hx
  ·exact⟨h1,h2⟩
  ·have:=Cj4 h3 x hx;exact⟨by omega,this.2⟩
def Da2:List (Int×Rat)->Rat->Rat
 |[],x=>x
 |b::l,x=>Da2 l (x+b.2)
def brP(n:Nat)(last:Int)(v:Nat)(l:List C1)(nx:List (Int×Rat))(w:Nat):Prop:=l=nx.map eB/\asc n last nx/\(∀b∈nx,shB b.2=true/\0<b.2)/\Be9 v (nx.map (·.2))=some w
theorem Cf1{nx:List (Int×Rat)}{w:Nat}(hw:0<w)(hw9:w<=9999)(hlen:nx.length<=100)(hsm:∀b∈nx,(b.2).den∣w/\shB b.2=true/\0<b.2)(hq:∀b∈nx,(T b.2).length<=9000000):
 ∀(l:List (Int×Rat)) (i:Nat) (acc:Int) (x:Rat),nx.drop i=l->(acc:Rat)=(w:Rat)*x->0<=acc->acc<=99980001*i->
  Ev fun f=>∀k,l.length<k->V4 f (nx.map eB) (w:Int) k acc (i:Int)=some (decide (Da2 l x=1),(w:Int))
 |[],i,acc,x,hd,hx,_,_=>Ev.of fun f k hk=>by
  obtain⟨k,rfl⟩:∃j,k=j+1:=⟨k-1,by simp at hk;omega⟩
  have:=drop_nil hd;unfold V4;rw[dF_ (by simp;omega)];simp only[cond_false];congr 2;unfold Da2;have hw':(w:Rat)≠0:=by exact_mod_cast (by omega:w≠0)
  by_cases h:x=1
  ·subst h;rw[Rat.mul_one]at hx;have:acc=(w:Int):=by exact_mod_cast hx
   simp[this]
  ·rw[dF_ h,beq_eq_false_iff_ne];intro h';apply h;subst h';have:(w:Rat)*x=(w:Rat)*1:=by rw[<-hx,Rat.mul_one];norm_cast
   grind
 |b::l,i,acc,x,hd,hx,h0,h1=>by
  obtain⟨hi,hb,hd'⟩:=T7 hd;have hmem:b∈nx:=by rw[<-hb];exact List.getElem_mem hi
  obtain⟨e1,e2,e3⟩:=hsm b hmem;have hs:=Dp9 e2;obtain⟨c,hc⟩:=e1;have hc0:0<c:=Nat.pos_of_ne_zero fun e=>by subst e;simp at hc;omega
  have hcw:c<=9999:=by
   have:c<=b.2.den*c:=Nat.le_mul_of_pos_left _ hs.2.1;omega
  have hnum:0<b.2.num:=Az4.2 e3;have hq0:Int.tdiv (w:Int) (b.2.den:Int)=(c:Int):=by
   rw[(tdm (by omega)).1,hc];push_cast;exact Int.mul_ediv_cancel_left _ (by omega)
  have hprod:0<=b.2.num*(c:Int)/\b.2.num*(c:Int)<=99980001:=by
   refine⟨Int.mul_nonneg (by omega) (by omega),?_⟩;have:b.2.num*(c:Int)<=9999*9999:=Int.mul_le_mul (by omega) (by omega) (by omega) (by omega);omega
  have hval:((acc+b.2.num*(c:Int):Int):Rat)=(w:Rat)*(x+b.2):=by
   have hb2:b.2=(b.2.num:Rat)/(b.2.den:Rat):=En6 b.2;have hdn:(b.2.den:Rat)≠0:=by exact_mod_cast (by omega:b.2.den≠0)
   have hcw':(w:Rat)=(b.2.den:Rat)*(c:Rat):=by rw[hc];push_cast;rfl
   have h5:(w:Rat)*b.2=(b.2.num:Rat)*(c:Rat):=by
    conv=>lhs;rw[hb2]
    rw[hcw'];have:=Rat.div_mul_cancel (a:=(b.2.num:Rat)) hdn;grind
   push_cast;rw[hx,Rat.mul_add,h5]
  have hsm0:Ev fun f=>Ch7 f (T b.2)=some (b.2.num,(b.2.den:Int),true):=by
   rcases Bh1 (hq b hmem) with⟨r,hr,_,he⟩|⟨hn,_⟩
   ·rw[At0 hr];exact At0 hr▸he
   ·exact absurd ⟨b.2,rfl,e2⟩ hn
  have hih:acc+b.2.num*(c:Int)<=99980001*((i+1:Nat):Int):=by push_cast;omega
  refine(hsm0.and (Cf1 hw hw9 hlen hsm hq l (i+1) _ _ hd' hval (by omega) hih)).mono fun f h k hk=> ?_
  obtain⟨h2,h3⟩:=h;obtain⟨k,rfl⟩:∃j,k=j+1:=⟨k-1,by simp at hk;omega⟩
  unfold V4;rw[dT_ (by simp;omega)];simp only[cond_true];refine sbe (x:=eB b) (by rw[D4 hi,hb]) (sbe h2 ?_);have hi100:i<100:=by omega
  rw[E1 (dT_ (by show(b.2.den:Int)≠0;omega))];show V4 f (nx.map eB) (w:Int) k (i64.wrap (acc+i64.wrap (b.2.num*i64.wrap (Int.tdiv (w:Int) (b.2.den:Int))))) (i64.wrap ((i:Int)+1))=_;rw[hq0,E7 (i:=(c:Int)) (by omega) (by omega),E7 (i:=b.2.num*(c:Int)) (by omega) (by omega),E7 (i:=acc+b.2.num*(c:Int)) (by omega) (by omega),wi i (by omega)];exact h3 k (by simp at hk;omega)
theorem At3{n:Nat}{last:Int}{v:Nat}{b:C1}{l:List C1}{nx:List (Int×Rat)}{w:Nat}(h:brP n last v (b::l) nx w):∃r nx',nx=(b.To,r)::nx'/\b.P=T r/\last<b.To/\b.To<n/\shB r=true/\0<r/\Nat.lcm v r.den<=9999/\brP n b.To (Nat.lcm v r.den) l nx' w:=by
 obtain⟨h1,h2,h3,h4⟩:=h;cases nx with
 |nil=>cases h1
 |cons c nx'=>
  rw[List.map_cons]at h1;injection h1 with h5 h6
  obtain⟨a1,a2,a3⟩:=h2;obtain⟨b1,b2⟩:=h3 c List.mem_cons_self;rw[List.map_cons]at h4;unfold Be9 at h4;split at h4
  ·rename_i hle;subst h5;exact⟨c.2,nx',rfl,rfl,a1,a2,b1,b2,hle,h6,a3,fun x hx=>h3 x (List.mem_cons_of_mem _ hx),h4⟩
  ·cases h4
theorem Cf0{full:List C1}{d1:List Int}{d2:List (List A2)}{d4:Int}(hn:d1.length<=12)(hlen:full.length<=1000000)(hq:∀b∈full,b.P.length<=9000000):
 ∀(l:List C1) (i:Nat) (last:Int) (v:Nat) (pre:List (Int×Rat)),full.drop i=l->full.take i=pre.map eB->pre.length<=12->(i:Int)<=last+1->last<d1.length\/i=0->(∀b∈pre,b.2.den∣v/\shB b.2=true/\0<b.2)->0<v->v<=9999->
  (∃nx w,brP d1.length last v l nx w/\Ev fun f=>∀k,l.length<k->J4 f full d1 d2 d4 k last (i:Int) (v:Int)=some (decide (Da2 (pre++nx) 0=1),(w:Int)))\/
  ((¬∃nx w,brP d1.length last v l nx w)/\∃w:Int,Ev fun f=>∀k,l.length<k->J4 f full d1 d2 d4 k last (i:Int) (v:Int)=some (false,w))
 |[],i,last,v,pre,hd,ht,hp,hil,hla,hpre,h0,h9=>by
  have hi:=drop_nil hd;have hfull:full=pre.map eB:=by rw[<-ht,List.take_of_length_le hi]
  left;refine⟨[],v,⟨rfl,trivial,fun b h=>(by cases h),rfl⟩,?_⟩;have hq':∀b∈pre,(T b.2).length<=9000000:=fun b hb=>hq (eB b) (by rw[hfull];exact List.mem_map_of_mem hb)
  refine((Cf1 h0 h9 (by omega) hpre hq' pre 0 0 0 rfl (by simp) (by omega) (by omega)).and (Ev.ge 20)).mono fun f h k hk=> ?_
  obtain⟨h1,h2⟩:=h;obtain⟨k,rfl⟩:∃j,k=j+1:=⟨k-1,by simp at hk;omega⟩
  unfold J4;rw[dF_ (by simp;omega)];simp only[cond_false];rw[List.append_nil,hfull];exact h1 f (by omega)
 |b::l,i,last,v,pre,hd,ht,hp,hil,hla,hpre,h0,h9=>by
  obtain⟨hi,hb,hd'⟩:=T7 hd;have hbm:b∈full:=by rw[<-hb];exact List.getElem_mem hi
  have start:∀{f k:Nat} {z:Option (Bool×Int)} {y:Int×Int×Bool},Ch7 f b.P=some y->(Option.bind (bif decide (b.To<=last) then some (true,(v:Int)) else bif decide (b.To>=((d1.map A6).length:Int)) then some (true,(v:Int)) else bif !y.2.2 then some (true,(v:Int)) else bif decide (y.1<1) then some (true,(v:Int)) else Option.bind (Ch9 f y.2.1 d1 d2 (v:Int) d4) fun y15=>some (!y15.1,y15.2)) fun o3=>bif o3.1 then some (false,o3.2) else J4 f full d1 d2 d4 k b.To (i64.wrap ((i:Int)+1)) o3.2)=z->J4 f full d1 d2 d4 (k+1) last (i:Int) (v:Int)=z:=fun{f k z y} hy hz=>by
   conv=>lhs;unfold J4
   rw[dT_ (by simp;omega)];simp only[cond_true];exact sbe (x:=b) (by rw[C7 hi,hb]) (sbe hy hz)
  have fail:∀{y:Int×Int×Bool} {w:Int},(¬∃nx w,brP d1.length last v (b::l) nx w)->(Ev fun f=>Ch7 f b.P=some y)->(Ev fun f=>(bif decide (b.To<=last) then some (true,(v:Int)) else bif decide (b.To>=((d1.map A6).length:Int)) then some (true,(v:Int)) else bif !y.2.2 then some (true,(v:Int)) else bif decide (y.1<1) then some (true,(v:Int)) else Option.bind (Ch9 f y.2.1 d1 d2 (v:Int) d4) fun y15=>some (!y15.1,y15.2))=some (true,w))->
   (∃nx w,brP d1.length last v (b::l) nx w/\Ev fun f=>∀k,(b::l).length<k->J4 f full d1 d2 d4 k last (i:Int) (v:Int)=some (decide (Da2 (pre++nx) 0=1),(w:Int)))\/
   ((¬∃nx w,brP d1.length last v (b::l) nx w)/\∃w:Int,Ev fun f=>∀k,(b::l).length<k->J4 f full d1 d2 d4 k last (i:Int) (v:Int)=some (false,w)):=fun{y w} hno he hw=> .inr ⟨hno,w,(he.and hw).mono fun f h k hk=>by
    obtain⟨h1,h2⟩:=h;obtain⟨k,rfl⟩:∃j,k=j+1:=⟨k-1,by simp at hk;omega⟩
    exact start h1 (sbe h2 rfl)⟩
  have hlm:((d1.map A6).length:Int)=(d1.length:Int):=by simp
  rcases Bh1 (hq b hbm) with⟨r,hr,hs,he⟩|⟨hno,he⟩
  ·have hd:=Dp9 hs;by_cases c1:b.To<=last
   ·exact fail (fun⟨nx,w,h⟩=>by obtain⟨_,_,_,_,h1,_⟩:=At3 h;omega) he (w:=v) (Ev.of fun f=>by rw[dT_ c1];rfl)
   by_cases c2:b.To>=d1.length
   ·exact fail (fun⟨nx,w,h⟩=>by obtain⟨_,_,_,_,_,h1,_⟩:=At3 h;omega) he (w:=v) (Ev.of fun f=>by rw[dF_ c1,hlm,dT_ c2];rfl)
   by_cases c3:r.num<1
   ·exact fail (fun⟨nx,w,h⟩=>by
     obtain⟨r',_,_,h0,_,_,_,h1,_⟩:=At3 h;rw[<-At0 (hr.symm.trans h0)]at h1;have:=Az4.2 h1;omega) he (w:=v) (Ev.of fun f=>by rw[dF_ c1,hlm,dF_ c2];simp only[cond_false,Bool.not_true];rw[dT_ c3];rfl)
   have hval:∀f,10001<=f->(bif decide (b.To<=last) then some (true,(v:Int)) else bif decide (b.To>=((d1.map A6).length:Int)) then some (true,(v:Int)) else bif !(r.num,(r.den:Int),true).2.2 then some (true,(v:Int)) else bif decide ((r.num,(r.den:Int),true).1<1) then some (true,(v:Int)) else Option.bind (Ch9 f (r.num,(r.den:Int),true).2.1 d1 d2 (v:Int) d4) fun y15=>some (!y15.1,y15.2))=some (!decide (Nat.lcm v r.den<=9999),((Nat.lcm v r.den:Nat):Int)):=fun f hf=>by
    rw[dF_ c1,hlm,dF_ c2];simp only[cond_false,Bool.not_true];rw[dF_ c3];simp only[cond_false];rw[Em5 h0 h9 hd.2.1 hd.2.2 (by omega),sb]
   by_cases c4:Nat.lcm v r.den<=9999
   ·have hpos:0<r:=Az4.1 (by omega);have hdv:v∣Nat.lcm v r.den:=Nat.dvd_lcm_left ..;have hlast0:(0:Int)<=b.To:=by omega
    have key:=Cf0 (d4:=d4) (d2:=d2) hn hlen hq l (i+1) b.To (Nat.lcm v r.den) (pre++[(b.To,r)]) hd' (by
     rw[List.take_succ_eq_append_getElem hi,ht,hb,List.map_append];congr 1;show[b]=[eB (b.To,r)];unfold eB;rw[<-hr]) (by
     have:pre.length=i:=by have:=congrArg List.length ht;simp at this;omega
     simp;omega) (by push_cast;omega) (.inl (by omega)) (fun x hx=>by
     rcases List.mem_append.1 hx with hx|hx
     ·obtain⟨a1,a2,a3⟩:=hpre x hx;exact⟨Nat.dvd_trans a1 hdv,a2,a3⟩
     ·rw[List.mem_singleton]at hx;subst hx;exact⟨Nat.dvd_lcm_right ..,hs,hpos⟩) (Nat.lcm_pos h0 hd.2.1) c4
    have step:∀{z:Option (Bool×Int)},(Ev fun f=>∀k,l.length<k->J4 f full d1 d2 d4 k b.To ((i+1:Nat):Int) ((Nat.lcm v r.den:Nat):Int)=z)->Ev fun f=>∀k,(b::l).length<k->J4 f full d1 d2 d4 k last (i:Int) (v:Int)=z:=fun{z} hE=>((he.and hE).and (Ev.ge 10001)).mono fun f h k hk=>by
     obtain⟨⟨h1,h2⟩,h3⟩:=h;obtain⟨k,rfl⟩:∃j,k=j+1:=⟨k-1,by simp at hk;omega⟩
     refine start h1 (sbe (hval f h3) ?_);rw[dT_ c4];simp only[Bool.not_true,cond_false];rw[wi i (by omega)];exact h2 k (by simp at hk;omega)
    rcases key with⟨nx,w,⟨g1,g2,g3,g4⟩,hE⟩|⟨hno,w,hE⟩
    ·left;refine⟨(b.To,r)::nx,w,⟨?_,⟨by omega,by omega,g2⟩,fun x hx=> ?_,?_⟩,?_⟩
     ·rw[List.map_cons,<-g1];congr 1;unfold eB;rw[<-hr]
     ·rcases List.mem_cons.1 hx with rfl|hx
      ·exact⟨hs,hpos⟩
      ·exact g3 x hx
     ·rw[List.map_cons];unfold Be9;rw[if_pos c4];exact g4
     ·have:=step hE;rw[List.append_assoc]at this;exact this
    ·right;refine⟨fun⟨nx,w,h⟩=> ?_,w,step hE⟩;obtain⟨r',nx',_,h2,_,_,_,_,_,h3⟩:=At3 h;rw[<-At0 (hr.symm.trans h2)]at h3;exact hno ⟨nx',w,h3⟩
   ·exact fail (fun⟨nx,w,h⟩=>by
     obtain⟨r',_,_,h2,_,_,_,_,h3,_⟩:=At3 h;rw[<-At0 (hr.symm.trans h2)]at h3;exact c4 h3) he (w:=((Nat.lcm v r.den:Nat):Int)) ((Ev.ge 10001).mono fun f h=>by rw[hval f h,dF_ c4];rfl)
  ·refine fail (fun⟨nx,w,h⟩=> ?_) he (w:=v) (Ev.of fun f=> ?_)
   ·obtain⟨r',_,_,h2,_,_,h3,_⟩:=At3 h;exact hno ⟨r',h2,h3⟩
   ·cases decide (b.To<=last)
    ·cases decide (b.To>=((d1.map A6).length:Int))<;>rfl
    ·rfl
def spP(n v:Nat)(l:List C1)(nx:List (Int×Rat))(w:Nat):Prop:=brP n (-1) v l nx w/\Da2 nx 0=1
theorem Et5:∀{nx nx':List (Int×Rat)},nx.map eB=nx'.map eB->nx=nx'
 |[],[],_=>rfl
 |[],_::_,h=>by cases h
 |_::_,[],h=>by cases h
 |b::nx,b'::nx',h=>by
  rw[List.map_cons,List.map_cons]at h;injection h with e1 e2
  unfold eB at e1;injection e1 with e3 e4
  rw[Et5 e2];congr 1;exact Prod.ext e3 (At0 e4)
theorem Cs9{n:Nat}{last:Int}{v:Nat}{l:List C1}{nx nx':List (Int×Rat)}{w w':Nat}(h:brP n last v l nx w)(h':brP n last v l nx' w'):nx=nx'/\w=w':=by
 obtain⟨h1,_,_,h4⟩:=h;obtain⟨h1',_,_,h4'⟩:=h';have e:nx=nx':=Et5 (h1.symm.trans h1');subst e;exact⟨rfl,by rw[h4]at h4';exact Option.some.inj h4'⟩
theorem Ea8{l:List C1}{d1:List Int}{d2:List (List A2)}{d4:Int}{v:Nat}(hn:d1.length<=12)(hlen:l.length<=1000000)(hq:∀b∈l,b.P.length<=9000000)(h0:0<v)(h9:v<=9999):
 (∃nx w,spP d1.length v l nx w/\Ev fun f=>Dl2 f l d1 d2 (v:Int) d4=some (true,(w:Int)))\/
 ((¬∃nx w,spP d1.length v l nx w)/\∃w:Int,Ev fun f=>Dl2 f l d1 d2 (v:Int) d4=some (false,w)):=by
 rcases Cf0 (d4:=d4) (d2:=d2) hn hlen hq l 0 (-1) v [] rfl rfl (by simp) (by omega) (.inr rfl) (fun b h=>(by cases h)) h0 h9 with⟨nx,w,h1,h2⟩|⟨h1,w,h2⟩
 ·by_cases hs:Da2 nx 0=1
  ·left;refine⟨nx,w,⟨h1,hs⟩,(h2.and (Ev.ge 1000001)).mono fun f h=> ?_⟩;have:=h.1 f (by have:=h.2;omega);rw[List.nil_append,dT_ hs]at this;exact this
  ·right;refine⟨fun⟨nx',w',h3,h4⟩=> ?_,(w:Int),(h2.and (Ev.ge 1000001)).mono fun f h=> ?_⟩
   ·obtain⟨e1,e2⟩:=Cs9 h1 h3;subst e1;exact hs h4
   ·have:=h.1 f (by have:=h.2;omega);rw[List.nil_append,dF_ hs]at this;exact this
 ·right;refine⟨fun⟨nx,w,h3,_⟩=>h1 ⟨nx,w,h3⟩,w,(h2.and (Ev.ge 1000001)).mono fun f h=>h.1 f (by have:=h.2;omega)⟩
def Ft8(n:Nat):Nat->List (List C1)->List (List (Int×Rat))->Nat->Prop
 |v,[],nxs,w=>nxs=[]/\v=w
 |v,l::ls,nxs,w=>∃nx nxs' u,nxs=nx::nxs'/\spP n v l nx u/\Ft8 n u ls nxs' w
theorem Bl3{d0:List Int}{d1:List (List A2)}{d3:Int}(hn:d0.length<=12):∀(ys:List (Int×A2)) (v:Nat),(∀y∈ys,y.2.Next.length<=1000000/\∀b∈y.2.Next,b.P.length<=9000000)->0<v->v<=9999->
 (∃nxs w,Ft8 d0.length v (ys.map (·.2.Next)) nxs w/\Ev fun f=>K7 f d0 d1 d3 ys (v:Int)=some (true,(w:Int)))\/
 ((¬∃nxs w,Ft8 d0.length v (ys.map (·.2.Next)) nxs w)/\∃w:Int,Ev fun f=>K7 f d0 d1 d3 ys (v:Int)=some (false,w))
 |[],v,_,_,_=> .inl ⟨[],v,⟨rfl,rfl⟩,Ev.of fun f=>rfl⟩
 |y::ys,v,hl,h0,h9=>by
  obtain⟨a1,a2⟩:=hl y List.mem_cons_self;rcases Ea8 (d4:=d3) (d2:=d1) hn a1 a2 h0 h9 with⟨nx,u,h1,he⟩|⟨hno,w,he⟩
  ·obtain⟨hu0,hu9,_,_⟩:=Bf0 h1.1.2.2.2 h0 h9;have step:∀{z:Option (Bool×Int)},(Ev fun f=>K7 f d0 d1 d3 ys (u:Int)=z)->Ev fun f=>K7 f d0 d1 d3 (y::ys) (v:Int)=z:=fun{z} hE=>(he.and hE).mono fun f h=>by
    rw[K7];exact sbe h.1 h.2
   rcases Bl3 (d1:=d1) (d3:=d3) hn ys u (fun z hz=>hl z (List.mem_cons_of_mem _ hz)) hu0 hu9 with⟨nxs,w,h2,hE⟩|⟨hno,w,hE⟩
   ·exact .inl ⟨nx::nxs,w,⟨nx,nxs,u,rfl,h1,h2⟩,step hE⟩
   ·refine .inr ⟨fun⟨nxs,w',h⟩=> ?_,w,step hE⟩;obtain⟨nx',nxs',u',_,h3,h4⟩:=h;obtain⟨_,e⟩:=Cs9 h1.1 h3.1;subst e;exact hno ⟨nxs',w',h4⟩
  ·refine .inr ⟨fun⟨nxs,w',h⟩=> ?_,w,he.mono fun f h=> ?_⟩
   ·obtain⟨nx',nxs',u',_,h3,h4⟩:=h;exact hno ⟨nx',u',h3⟩
   ·rw[K7];exact sbe h rfl
end
end Go.Proofs.YtdlnalepibeibaaGreatDoor
end
section
namespace Go.Proofs.YtdlnalepibeibaaGreatDoor
open Go Go.RowKit Kx Go.IntKind
set_option maxRecDepth 100000
open Classical in
section
noncomputable def unT (q:List UInt8):Rat:=if h:∃r,q=T r then h.choose else 0
theorem Fq0(r:Rat):unT (T r)=r:=by
 have h:∃r',T r=T r':=⟨r,rfl⟩
 unfold unT;rw[dif_pos h];exact(At0 h.choose_spec).symm
noncomputable def unB (b:C1):Int×Rat:=(b.To,unT b.P)
noncomputable def unC (x:A2):Cho:=⟨x.Act,unT x.Gain,x.Next.map unB⟩
noncomputable def unM (y:B6):Mdl:=⟨y.Owner,y.Choices.map (·.map unC)⟩
theorem Ey2(b:Int×Rat):unB (eB b)=b:=by unfold unB eB;rw[Fq0]
def Bc0(s:Nat):List (List A2)->List (Int×A2)
 |[]=>[]
 |l::ls=>l.map (fun c=>((s:Int),c))++Bc0 (s+1) ls
theorem Aa3{α:Type}(h:A2->α):∀(s:Nat) (ls:List (List A2)),(Bc0 s ls).map (fun y=>h y.2)=ls.flatten.map h
 |s,[]=>rfl
 |s,l::ls=>by
  rw[Bc0,List.map_append,Aa3 h (s+1) ls,List.flatten_cons,List.map_append,List.map_map];rfl
theorem Cs2{s:Nat}{ls:List (List A2)}{y:Int×A2}(hy:y∈Bc0 s ls):y.2∈ls.flatten:=by
 have:=Aa3 id s ls;rw[List.map_id]at this;rw[<-this];exact List.mem_map_of_mem hy
theorem Er7{l:List A2}{s:Nat}{z:List (Int×A2)}{rec_:Int->Option (List (Int×A2))}(hl:l.length<=1000000)(hs:s<=1000000)(hz:rec_ ((s+1:Nat):Int)=some z):∀(r i k:Nat),i+r=l.length->r<k->Ak5 (s:Int) l rec_ k (i:Int)=some ((l.drop i).map (fun c=>((s:Int),c))++z)
 |_,_,0,_,h=>absurd h (by omega)
 |0,i,k+1,hi,_=>by
  unfold Ak5;rw[dF_ (by simp;omega),List.drop_of_length_le (by omega),wi s (by omega)];exact hz
 |r+1,i,k+1,hi,hk=>by
  have hil:i<l.length:=by omega
  unfold Ak5;rw[dT_ (by simp;omega)];simp only[cond_true];rw[C7 hil,sb,wi i (by omega),Er7 hl hs hz r (i+1) k (by omega) (by omega),sb,List.drop_eq_getElem_cons hil];rfl
theorem Er6{fuel:Nat}{ch:List (List A2)}(hf:1000001<fuel)(hc:ch.length<=1000000)(hl:∀l∈ch,l.length<=1000000):∀(r i k:Nat),i+r=ch.length->r<k->Aa0 fuel ch k (i:Int)=some (Bc0 i (ch.drop i))
 |_,_,0,_,h=>absurd h (by omega)
 |0,i,k+1,hi,_=>by
  unfold Aa0;rw[dF_ (by simp;omega),List.drop_of_length_le (by omega)];rfl
 |r+1,i,k+1,hi,hk=>by
  have hil:i<ch.length:=by omega
  have h1:=hl ch[i] (List.getElem_mem hil);unfold Aa0;rw[dT_ (by simp;omega)];simp only[cond_true];rw[C7 hil,sb];have:=Er7 (s:=i) (rec_:=Aa0 fuel ch k) h1 (by omega) (Er6 hf hc hl r (i+1) k (by omega) (by omega)) ch[i].length 0 fuel (by omega) (by omega);rw[List.drop_zero]at this;rw[List.drop_eq_getElem_cons hil,Bc0];exact this
theorem Fz9{fuel:Nat}{own:List Int}{ch:List (List A2)}(hf:1000001<fuel)(hc:ch.length<=1000000)(hl:∀l∈ch,l.length<=1000000):Fd5 fuel own ch=some (Bc0 0 ch):=by
 have:=Er6 hf hc hl ch.length 0 fuel (by omega) (by omega);rw[List.drop_zero]at this;exact this
def clB(l:List A2):Bool:=decide (1<=l.length)&&decide (l.length<=4)
theorem Ev1{a:List (List A2)}(hl:a.length<=1000):∀(r i k:Nat),i+r=a.length->r<k->∃j:Int,Ad1 a k (i:Int)=some j/\decide (j>=0)= !((a.drop i).all clB)
 |_,_,0,_,h=>absurd h (by omega)
 |0,i,k+1,hi,_=>by
  unfold Ad1;rw[dF_ (by simp;omega),List.drop_of_length_le (by omega)];exact⟨-1,rfl,rfl⟩
 |r+1,i,k+1,hi,hk=>by
  have hil:i<a.length:=by omega
  obtain⟨j,h1,h2⟩:=Ev1 hl r (i+1) k (by omega) (by omega);unfold Ad1;rw[dT_ (by simp;omega),C7 hil,List.drop_eq_getElem_cons hil,List.all_cons];simp only[cond_true,sb];have hc:Fv4 a[i]=some (!clB a[i]):=by
   unfold Fv4 clB;rw[List.length_map];by_cases h3:1<=a[i].length
   ·rw[dF_ (show¬((a[i].length:Nat):Int)<1 by omega),dT_ h3];simp only[cond_false,sb,Bool.true_and];by_cases h4:a[i].length<=4
    ·rw[dT_ h4,dF_ (by omega)];rfl
    ·rw[dF_ h4,dT_ (by omega)];rfl
   ·rw[dT_ (show((a[i].length:Nat):Int)<1 by omega),dF_ h3];rfl
  rw[hc,sb];cases hb:clB a[i] with
  |true=>
   simp only[Bool.not_true,cond_false,Bool.true_and];rw[wi i (by omega)];exact⟨j,h1,h2⟩
  |false=>exact⟨(i:Int),rfl,by simp⟩
def owB(o:Int):Bool:=o==0||o==1
theorem Ev2{a:List Int}(hl:a.length<=1000):∀(r i k:Nat),i+r=a.length->r<k->∃j:Int,Ad2 a k (i:Int)=some j/\decide (j>=0)= !((a.drop i).all owB)
 |_,_,0,_,h=>absurd h (by omega)
 |0,i,k+1,hi,_=>by
  unfold Ad2;rw[dF_ (by simp;omega),List.drop_of_length_le (by omega)];exact⟨-1,rfl,rfl⟩
 |r+1,i,k+1,hi,hk=>by
  have hil:i<a.length:=by omega
  obtain⟨j,h1,h2⟩:=Ev2 hl r (i+1) k (by omega) (by omega);unfold Ad2;rw[dT_ (by simp;omega),C7 hil,List.drop_eq_getElem_cons hil,List.all_cons];simp only[cond_true,sb];have hc:Fv5 a[i]=some (!owB a[i]):=by
   unfold Fv5 owB;cases h0:(a[i]==0)<;>simp[bne,h0]
  rw[hc,sb];cases hb:owB a[i] with
  |true=>
   simp only[Bool.not_true,cond_false,Bool.true_and];rw[wi i (by omega)];exact⟨j,h1,h2⟩
  |false=>exact⟨(i:Int),rfl,by simp⟩
def szB(y:B6):Bool:=decide (1<=y.Owner.length)&&decide (y.Owner.length<=12)&&decide (y.Choices.length=y.Owner.length)&&y.Choices.all clB
theorem Ah1{f:Nat}{y:B6}{a b:Int}(hf:20<f):Dc0 f y.Owner y.Choices a b=some (szB y):=by
 unfold Dc0 szB;simp only[List.length_map];by_cases h1:1<=y.Owner.length
 ·rw[dT_ (show((y.Owner.length:Nat):Int)>=1 by omega),dT_ h1];by_cases h2:y.Owner.length<=12
  ·rw[dT_ (show((y.Owner.length:Nat):Int)<=12 by omega),dT_ h2];by_cases h3:y.Choices.length=y.Owner.length
   ·obtain⟨j,e1,e2⟩:=Ev1 (a:=y.Choices) (by omega) y.Choices.length 0 f (by omega) (by omega);rw[show(((y.Choices.length:Nat):Int)==((y.Owner.length:Nat):Int))=true by rw[h3];exact beq_self_eq_true _,dT_ h3];simp only[cond_true,Bool.true_and];unfold Gk5 Gk7;rw[show Ad1 y.Choices f 0=some j from e1,sb,sb,sb,e2,List.drop_zero,Bool.not_not]
   ·rw[show(((y.Choices.length:Nat):Int)==((y.Owner.length:Nat):Int))=false by rw[beq_eq_false_iff_ne];omega,dF_ h3];rfl
  ·rw[dF_ (show¬((y.Owner.length:Nat):Int)<=12 by omega),dF_ h2];rfl
 ·rw[dF_ (show¬((y.Owner.length:Nat):Int)>=1 by omega),dF_ h1];rfl
theorem Ap8{f:Nat}{own:List Int}{ch:List (List A2)}{a b:Int}(hf:1010<f)(hl:own.length<=1000):Dc1 f own ch a b=some (own.all owB):=by
 obtain⟨j,e1,e2⟩:=Ev2 (a:=own) hl own.length 0 f (by omega) (by omega);unfold Dc1 Gk6 Gk8;rw[show Ad2 own f 0=some j from e1,sb,sb,e2,List.drop_zero,Bool.not_not]
def Fl7(m:Mdl):List Rat:=m.ch.flatten.map (·.gain)
def Fn8(m:Mdl):List Rat:=m.ch.flatten.flatMap fun c=>c.next.map (·.2)
def Gb0(n:Nat)(nx:List (Int×Rat)):Prop:=asc n (-1) nx/\(∀b∈nx,shB b.2=true/\0<b.2)/\Da2 nx 0=1
structure okM(m:Mdl):Prop where
 n1:1<=m.own.length
 n12:m.own.length<=12
 len:m.ch.length=m.own.length
 cl:∀l∈m.ch,1<=l.length/\l.length<=4
 ow:∀o∈m.own,o=0\/o=1
 ac:∀c∈m.ch.flatten,Ed6 c.act=true
 ga:∀c∈m.ch.flatten,shB c.gain=true/\0<=c.gain
 br:∀c∈m.ch.flatten,Gb0 m.own.length c.next
 gg:(Be9 1 (Fl7 m)).isSome=true
 gp:(Be9 1 (Fn8 m)).isSome=true
def gG(m:Mdl):Nat:=(Be9 1 (Fl7 m)).getD 0
def gP(m:Mdl):Nat:=(Be9 1 (Fn8 m)).getD 0
theorem Az6{n:Nat}:∀{ls:List (List C1)} {v w:Nat} {nxs:List (List (Int×Rat))},Ft8 n v ls nxs w↔ls=nxs.map (·.map eB)/\(∀nx∈nxs,Gb0 n nx)/\Be9 v (nxs.flatMap fun nx=>nx.map (·.2))=some w
 |[],v,w,nxs=>by
  constructor
  ·rintro ⟨rfl,rfl⟩;exact⟨rfl,fun nx h=>(by cases h),rfl⟩
  ·rintro ⟨h1,h2,h3⟩
   cases nxs with
   |nil=>exact⟨rfl,Option.some.inj h3⟩
   |cons _ _=>cases h1
 |l::ls,v,w,nxs=>by
  constructor
  ·rintro ⟨nx,nxs',u,rfl,⟨⟨h1,h2,h3,h4⟩,h5⟩,h6⟩
   obtain⟨g1,g2,g3⟩:=Az6.1 h6;refine⟨by rw[List.map_cons,<-h1,<-g1],fun x hx=> ?_,?_⟩
   ·rcases List.mem_cons.1 hx with rfl|hx
    ·exact⟨h2,h3,h5⟩
    ·exact g2 x hx
   ·rw[List.flatMap_cons];exact Bs1.2 ⟨u,h4,g3⟩
  ·rintro ⟨h1,h2,h3⟩
   cases nxs with
   |nil=>cases h1
   |cons nx nxs'=>
    rw[List.map_cons]at h1;injection h1 with e1 e2
    rw[List.flatMap_cons]at h3;obtain⟨u,g1,g2⟩:=Bs1.1 h3;obtain⟨a1,a2,a3⟩:=h2 nx List.mem_cons_self;exact⟨nx,nxs',u,rfl,⟨⟨e1,a1,a2,g1⟩,a3⟩,Az6.2 ⟨e2,fun x hx=>h2 x (List.mem_cons_of_mem _ hx),g2⟩⟩
theorem Cl0(m:Mdl):(eM m).Choices.flatten=m.ch.flatten.map eC:=by
 unfold eM eL;rw[List.map_flatten]
def szY(y:B6):Prop:=∀l∈y.Choices,l.length<=1000000/\∀c∈l,c.Gain.length<=9000000/\c.Next.length<=1000000/\∀b∈c.Next,b.P.length<=9000000
theorem Bf8{m:Mdl}(h:okM m):szB (eM m)=true/\(eM m).Owner.all owB=true/\((Bc0 0 (eM m).Choices).all fun y=>Ed6 y.2.Act)=true/\(∃rs,gnP 1 ((Bc0 0 (eM m).Choices).map (·.2.Gain)) rs (gG m))/\∃nxs,Ft8 (eM m).Owner.length 1 ((Bc0 0 (eM m).Choices).map (·.2.Next)) nxs (gP m):=by
 obtain⟨h1,h2,h3,h4,h5,h6,h7,h8,h9,h10⟩:=h;refine⟨?_,?_,?_,⟨Fl7 m,?_,?_,?_⟩,m.ch.flatten.map (·.next),?_⟩
 ·unfold szB;rw[Bool.and_eq_true,Bool.and_eq_true,Bool.and_eq_true];refine⟨⟨⟨dT_ h1,dT_ h2⟩,dT_ (by simp[eM,h3])⟩,?_⟩;rw[List.all_eq_true];intro l hl;obtain⟨l',hl',rfl⟩:=List.mem_map.1 (show l∈m.ch.map eL from hl);obtain⟨a,b⟩:=h4 l' hl';unfold clB eL;rw[List.length_map,dT_ a,dT_ b];rfl
 ·rw[List.all_eq_true];intro o ho;rcases h5 o ho with rfl|rfl<;>rfl
 ·rw[List.all_eq_true];intro y hy;have:=Cs2 hy;rw[Cl0]at this;obtain⟨c,hc,e⟩:=List.mem_map.1 this;rw[<-e];exact h6 c hc
 ·rw[Aa3 (fun c=>c.Gain),Cl0,List.map_map];unfold Fl7;rw[List.map_map];rfl
 ·intro r hr;obtain⟨c,hc,rfl⟩:=List.mem_map.1 hr;exact h7 c hc
 ·unfold gG;rw[<-Option.some_get h9];rfl
 ·refine Az6.2 ⟨?_,fun nx hnx=> ?_,?_⟩
  ·rw[Aa3 (fun c=>c.Next),Cl0,List.map_map,List.map_map];rfl
  ·obtain⟨c,hc,rfl⟩:=List.mem_map.1 hnx;exact h8 c hc
  ·rw[List.flatMap_map];unfold gP;show Be9 1 (Fn8 m)=_;rw[<-Option.some_get h10];rfl
theorem Gg9{y:B6}(h1:szB y=true)(h2:y.Owner.all owB=true)(h3:((Bc0 0 y.Choices).all fun y=>Ed6 y.2.Act)=true){rs:List Rat}{w:Nat}(h4:gnP 1 ((Bc0 0 y.Choices).map (·.2.Gain)) rs w){nxs:List (List (Int×Rat))}{u:Nat}(h5:Ft8 y.Owner.length 1 ((Bc0 0 y.Choices).map (·.2.Next)) nxs u):
 ∃m,okM m/\y=eM m/\gG m=w/\gP m=u:=by
 rw[Aa3 (fun c=>c.Gain)]at h4;rw[Aa3 (fun c=>c.Next)]at h5;obtain⟨a1,a2,a3⟩:=h4;obtain⟨b1,b2,b3⟩:=Az6.1 h5;have hrs:rs=y.Choices.flatten.map fun c=>unT c.Gain:=by
  have:(y.Choices.flatten.map fun c=>c.Gain).map unT=(rs.map T).map unT:=by rw[a1]
  rw[List.map_map,List.map_map,show unT∘T=id from funext Fq0,List.map_id]at this;exact this.symm
 have hnx:nxs=y.Choices.flatten.map fun c=>c.Next.map unB:=by
  have:(y.Choices.flatten.map fun c=>c.Next).map (·.map unB)=(nxs.map (·.map eB)).map (·.map unB):=by rw[b1]
  rw[List.map_map,List.map_map,show((fun x:List C1=>x.map unB)∘fun x:List (Int×Rat)=>x.map eB)=id from funext fun l=>by
   simp only[Function.comp_def,List.map_map,Ey2];exact List.map_id _,List.map_id]at this
  exact this.symm
 have hg:∀c∈y.Choices.flatten,c.Gain=T (unT c.Gain):=fun c hc=>by
  have:c.Gain∈rs.map T:=by rw[<-a1];exact List.mem_map_of_mem (f:=fun c:A2=>c.Gain) hc
  obtain⟨r,_,e⟩:=List.mem_map.1 this;rw[<-e,Fq0]
 have hb:∀c∈y.Choices.flatten,(c.Next.map unB).map eB=c.Next:=fun c hc=>by
  have:c.Next∈nxs.map (·.map eB):=by rw[<-b1];exact List.mem_map_of_mem (f:=fun c:A2=>c.Next) hc
  obtain⟨nx,_,e⟩:=List.mem_map.1 this;have e2:(nx.map eB).map unB=nx:=by rw[List.map_map,show unB∘eB=id from funext Ey2,List.map_id]
  rw[<-e,e2]
 have hc:∀c∈y.Choices.flatten,eC (unC c)=c:=fun c hc=>by
  unfold eC unC;show(⟨c.Act,T (unT c.Gain),(c.Next.map unB).map eB⟩:A2)=c;rw[hb c hc,<-hg c hc]
 have hm:eM (unM y)=y:=by
  unfold eM unM eL;show(⟨y.Owner,(y.Choices.map (·.map unC)).map fun l=>l.map eC⟩:B6)=y;have:(y.Choices.map (·.map unC)).map (fun l=>l.map eC)=y.Choices:=by
   rw[List.map_map];refine(List.map_congr_left fun l hl=> ?_).trans (List.map_id _);simp only[Function.comp_def,List.map_map];exact(List.map_congr_left fun c h=>hc c (List.mem_flatten.2 ⟨l,hl,h⟩)).trans (List.map_id _)
  rw[this]
 have hfl:(unM y).ch.flatten=y.Choices.flatten.map unC:=by
  unfold unM;rw[List.map_flatten]
 have hgn:Fl7 (unM y)=rs:=by
  unfold Fl7;rw[hfl,List.map_map,hrs];rfl
 have hpr:Fn8 (unM y)=nxs.flatMap fun nx=>nx.map (·.2):=by
  unfold Fn8;rw[hfl,List.flatMap_map,hnx,List.flatMap_map];rfl
 unfold szB at h1;rw[Bool.and_eq_true,Bool.and_eq_true,Bool.and_eq_true,decide_eq_true_eq,decide_eq_true_eq,decide_eq_true_eq]at h1;obtain⟨⟨⟨c1,c2⟩,c3⟩,c4⟩:=h1;rw[List.all_eq_true]at c4 h2 h3;have hact:∀c∈y.Choices.flatten,Ed6 c.Act=true:=fun c hc=>by
  have e:=Aa3 id 0 y.Choices;rw[List.map_id]at e;rw[<-e]at hc;obtain⟨z,hz,rfl⟩:=List.mem_map.1 hc;exact h3 z hz
 refine⟨unM y,⟨c1,c2,by simp[unM,c3],fun l hl=> ?_,fun o ho=> ?_,fun c hc'=> ?_,fun c hc'=> ?_,fun c hc'=> ?_,by rw[hgn,a3];rfl,by rw[hpr,b3];rfl⟩,hm.symm,by unfold gG;rw[hgn,a3];rfl,by unfold gP;rw[hpr,b3];rfl⟩
 ·obtain⟨l',hl',rfl⟩:=List.mem_map.1 (show l∈y.Choices.map (·.map unC) from hl);have:=c4 l' hl';unfold clB at this;rw[Bool.and_eq_true,decide_eq_true_eq,decide_eq_true_eq]at this;rw[List.length_map];exact this
 ·have:=h2 o ho;unfold owB at this;rw[Bool.or_eq_true,beq_iff_eq,beq_iff_eq]at this;exact this
 ·rw[hfl]at hc';obtain⟨x,hx,rfl⟩:=List.mem_map.1 hc';exact hact x hx
 ·rw[hfl]at hc';obtain⟨x,hx,rfl⟩:=List.mem_map.1 hc';exact a2 (unT x.Gain) (by rw[hrs];exact List.mem_map_of_mem (f:=fun c:A2=>unT c.Gain) hx)
 ·rw[hfl]at hc';obtain⟨x,hx,rfl⟩:=List.mem_map.1 hc';exact b2 (x.Next.map unB) (by rw[hnx];exact List.mem_map_of_mem (f:=fun c:A2=>c.Next.map unB) hx)
theorem Fm4{y:B6}(hz:szY y):
 (∃m,okM m/\y=eM m/\Ev fun f=>Di6 f y=some (⟨y,(gP m:Int),(gG m:Int)⟩,true))\/((¬∃m,okM m/\y=eM m)/\∃c,Ev fun f=>Di6 f y=some (c,false)):=by
 have s0:∀f k a b,I2 f y (k+1) 0 a b=Option.bind (Dc0 f y.Owner y.Choices a b) fun z=>bif !z then some ((⟨y,a,b⟩:B2),false) else I2 f y k 1 a b:=fun f k a b=>by kernel_rfl
 have s1:∀f k a b,I2 f y (k+1) 1 a b=Option.bind (Dc1 f y.Owner y.Choices a b) fun z=>bif !z then some ((⟨y,a,b⟩:B2),false) else I2 f y k 2 a b:=fun f k a b=>by kernel_rfl
 have s2:∀f k a b,I2 f y (k+1) 2 a b=Option.bind (Bw0 f y.Owner y.Choices a b) fun z=>bif !z then some ((⟨y,a,b⟩:B2),false) else I2 f y k 3 a b:=fun f k a b=>by kernel_rfl
 have s3:∀f k a b,I2 f y (k+1) 3 a b=Option.bind (Cg9 f y.Owner y.Choices a b) fun z=>bif !z.1 then some ((⟨y,a,z.2⟩:B2),false) else I2 f y k 4 a z.2:=fun f k a b=>by kernel_rfl
 have s4:∀f k a b,I2 f y (k+1) 4 a b=Option.bind (Dc2 f y.Owner y.Choices a b) fun z=>bif !z.1 then some ((⟨y,z.2,b⟩:B2),false) else I2 f y k 5 z.2 b:=fun f k a b=>by kernel_rfl
 have s5:∀f k a b,I2 f y (k+1) 5 a b=some ((⟨y,a,b⟩:B2),true):=fun f k a b=>by kernel_rfl
 have peel:∀{f:Nat},10<=f->∃k,f=k+6:=fun{f} h=>⟨f-6,by omega⟩
 cases c1:szB y with
 |false=>
  refine .inr ⟨fun⟨m,hm,he⟩=> ?_,(⟨y,0,0⟩:B2),(Ev.ge 100).mono fun f hf=> ?_⟩
  ·have:=(Bf8 hm).1;rw[<-he,c1]at this;cases this
  ·obtain⟨k,hk⟩:=peel (show 10<=f by omega);unfold Di6
   conv=>lhs;arg 3;rw[hk]
   rw[s0,Ah1 (by omega),sb,c1];rfl
 |true=>
  have d1:=c1;unfold szB at d1;rw[Bool.and_eq_true,Bool.and_eq_true,Bool.and_eq_true,decide_eq_true_eq,decide_eq_true_eq,decide_eq_true_eq]at d1;obtain⟨⟨⟨e1,e2⟩,e3⟩,e4⟩:=d1;have hall:∀f,1000002<=f->Fd5 f y.Owner y.Choices=some (Bc0 0 y.Choices):=fun f hf=>Fz9 (by omega) (by omega) fun l hl=>(hz l hl).1
  have hzc:∀z∈Bc0 0 y.Choices,z.2.Gain.length<=9000000/\z.2.Next.length<=1000000/\∀b∈z.2.Next,b.P.length<=9000000:=fun z hz'=>by
   obtain⟨l,hl,hc⟩:=List.mem_flatten.1 (Cs2 hz');exact(hz l hl).2 _ hc
  cases c2:y.Owner.all owB with
  |false=>
   refine .inr ⟨fun⟨m,hm,he⟩=> ?_,(⟨y,0,0⟩:B2),(Ev.ge 2000).mono fun f hf=> ?_⟩
   ·have:=(Bf8 hm).2.1;rw[<-he,c2]at this;cases this
   ·obtain⟨k,hk⟩:=peel (show 10<=f by omega);unfold Di6
    conv=>lhs;arg 3;rw[hk]
    rw[s0,Ah1 (by omega),sb,c1];simp only[Bool.not_true,cond_false];rw[s1,Ap8 (by omega) (by omega),sb,c2];rfl
  |true=>
   cases c3:(Bc0 0 y.Choices).all fun y=>Ed6 y.2.Act with
   |false=>
    refine .inr ⟨fun⟨m,hm,he⟩=> ?_,(⟨y,0,0⟩:B2),(Ev.ge 1000002).mono fun f hf=> ?_⟩
    ·have:=(Bf8 hm).2.2.1;rw[<-he,c3]at this;cases this
    ·obtain⟨k,hk⟩:=peel (show 10<=f by omega);unfold Di6
     conv=>lhs;arg 3;rw[hk]
     rw[s0,Ah1 (by omega),sb,c1];simp only[Bool.not_true,cond_false];rw[s1,Ap8 (by omega) (by omega),sb,c2];simp only[Bool.not_true,cond_false];rw[s2];unfold Bw0 Cq3;rw[sb,hall f hf,sb,Bf4 (by omega),sb,c3];rfl
   |true=>
    rcases Cw0 (d0:=y.Owner) (d1:=y.Choices) (d2:=0) (Bc0 0 y.Choices) 1 (fun z h=>(hzc z h).1) (by decide) (by decide) with⟨rs,w,h4,E4⟩|⟨hno,w,E4⟩
    ·rcases Bl3 (d0:=y.Owner) (d1:=y.Choices) (d3:=(w:Int)) e2 (Bc0 0 y.Choices) 1 (fun z h=>(hzc z h).2) (by decide) (by decide) with⟨nxs,u,h5,E5⟩|⟨hno,u,E5⟩
     ·obtain⟨m,hm,he,hw,hu⟩:=Gg9 c1 c2 c3 h4 h5;refine .inl ⟨m,hm,he,((E4.and E5).and (Ev.ge 1000002)).mono fun f hf=> ?_⟩;obtain⟨⟨f4,f5⟩,hf⟩:=hf;obtain⟨k,hk⟩:=peel (show 10<=f by omega);unfold Di6
      conv=>lhs;arg 3;rw[hk]
      rw[s0,Ah1 (by omega),sb,c1];simp only[Bool.not_true,cond_false];rw[s1,Ap8 (by omega) (by omega),sb,c2];simp only[Bool.not_true,cond_false];rw[s2];unfold Bw0 Cq3;rw[sb,hall f hf,sb,Bf4 (by omega),sb,c3];simp only[Bool.not_true,cond_false];rw[s3];unfold Cg9 Cq3;rw[sb,hall f hf,sb,show H4 f y.Owner y.Choices 0 (Bc0 0 y.Choices) 1=some (true,(w:Int)) from f4,sb];simp only[Bool.not_true,cond_false];rw[s4];unfold Dc2 Cq3;rw[sb,hall f hf,sb,show K7 f y.Owner y.Choices (w:Int) (Bc0 0 y.Choices) 1=some (true,(u:Int)) from f5,sb];simp only[Bool.not_true,cond_false];rw[s5,hw,hu]
     ·refine .inr ⟨fun⟨m,hm,he⟩=> ?_,(⟨y,u,(w:Int)⟩:B2),((E4.and E5).and (Ev.ge 1000002)).mono fun f hf=> ?_⟩
      ·obtain⟨_,_,_,_,nxs,h6⟩:=Bf8 hm;rw[<-he]at h6;exact hno ⟨nxs,_,h6⟩
      ·obtain⟨⟨f4,f5⟩,hf⟩:=hf;obtain⟨k,hk⟩:=peel (show 10<=f by omega);unfold Di6
       conv=>lhs;arg 3;rw[hk]
       rw[s0,Ah1 (by omega),sb,c1];simp only[Bool.not_true,cond_false];rw[s1,Ap8 (by omega) (by omega),sb,c2];simp only[Bool.not_true,cond_false];rw[s2];unfold Bw0 Cq3;rw[sb,hall f hf,sb,Bf4 (by omega),sb,c3];simp only[Bool.not_true,cond_false];rw[s3];unfold Cg9 Cq3;rw[sb,hall f hf,sb,show H4 f y.Owner y.Choices 0 (Bc0 0 y.Choices) 1=some (true,(w:Int)) from f4,sb];simp only[Bool.not_true,cond_false];rw[s4];unfold Dc2 Cq3;rw[sb,hall f hf,sb,show K7 f y.Owner y.Choices (w:Int) (Bc0 0 y.Choices) 1=some (false,u) from f5,sb];rfl
    ·refine .inr ⟨fun⟨m,hm,he⟩=> ?_,(⟨y,0,w⟩:B2),(E4.and (Ev.ge 1000002)).mono fun f hf=> ?_⟩
     ·obtain⟨_,_,_,⟨rs,h6⟩,_⟩:=Bf8 hm;rw[<-he]at h6;exact hno ⟨rs,_,h6⟩
     ·obtain⟨f4,hf⟩:=hf;obtain⟨k,hk⟩:=peel (show 10<=f by omega);unfold Di6
      conv=>lhs;arg 3;rw[hk]
      rw[s0,Ah1 (by omega),sb,c1];simp only[Bool.not_true,cond_false];rw[s1,Ap8 (by omega) (by omega),sb,c2];simp only[Bool.not_true,cond_false];rw[s2];unfold Bw0 Cq3;rw[sb,hall f hf,sb,Bf4 (by omega),sb,c3];simp only[Bool.not_true,cond_false];rw[s3];unfold Cg9 Cq3;rw[sb,hall f hf,sb,show H4 f y.Owner y.Choices 0 (Bc0 0 y.Choices) 1=some (false,w) from f4,sb];rfl
theorem Dv6{y:B6}(hz:szY y):(∃m,okM m/\y=eM m/\Ev fun f=>F61 f y=some 0)\/((¬∃m,okM m/\y=eM m)/\Ev fun f=>F61 f y=some 110):=by
 rcases Fm4 hz with⟨m,h1,h2,h3⟩|⟨h1,c,h3⟩
 ·refine .inl ⟨m,h1,h2,h3.mono fun f h=> ?_⟩;unfold F61;exact sbe h rfl
 ·refine .inr ⟨h1,h3.mono fun f h=> ?_⟩;unfold F61;exact sbe h rfl
end
end Go.Proofs.YtdlnalepibeibaaGreatDoor
end
section
namespace Go.Proofs.YtdlnalepibeibaaGreatDoor
open Go Go.RowKit Kx Go.IntKind
set_option maxRecDepth 100000
section
theorem Cj7{a:Int}(h:(Lit.int .u8 a).wf=true):0<=a/\a<256:=by
 have e1:IntKind.u8.min=0:=by kernel_rfl
 have e2:IntKind.u8.max=255:=by kernel_rfl
 simp[Lit.wf,e1,e2]at h;omega
theorem Ga5{a:Int}(h:(Lit.int .u16 a).wf=true):0<=a/\a<65536:=by
 have e1:IntKind.u16.min=0:=by kernel_rfl
 have e2:IntKind.u16.max=65535:=by kernel_rfl
 simp[Lit.wf,e1,e2]at h;omega
def u8(x:Int):Prop:=0<=x/\x<256
def Ew6(p:D1):Prop:=u8 p.State/\u8 p.Act/\u8 p.Gain/\u8 p.To.a0/\u8 p.To.a1/\u8 p.To.a2/\u8 p.Part.a0/\u8 p.Part.a1
def Ae7(d:B1):Prop:=u8 d.States/\u8 d.Owners/\u8 d.Grain/\u8 d.Cents/\∀p∈d.Picks,Ew6 p
def cnt(d:B1):Nat:=1+(d.States%5).toNat
theorem Aw2(d:B1):1<=cnt d/\cnt d<=5:=by unfold cnt;omega
theorem Ct6{d:B1}(h:Ae7 d):F42 d=some ((cnt d:Nat):Int):=by
 obtain⟨⟨h0,h1⟩,_⟩:=h;unfold F42 cnt;rw[(tdm h0).2,E7 (i:=d.States%5) (by omega) (by omega),E7 (by omega) (by omega)];congr 1;omega
theorem Dw7{α:Type}{l:List α}{v:Int}(h0:0<=v)(h1:v<l.length):∃x∈l,C6 l v=some x:=by
 rw[Eu8 h0 (by omega)];exact⟨_,List.getElem_mem _,rfl⟩
def prt(w:Int):Nat->List Int->List (Int×Rat)
 |_,[]=>[]
 |i,x::l=>if x>0 then((i:Int),Rat.divInt x w)::prt w (i+1) l else prt w (i+1) l
theorem Ck7{x w:Int}(hw:0<w):((Rat.divInt x w).den:Int)∣w/\(Rat.divInt x w).num.natAbs<=x.natAbs:=by
 have hg:((Int.gcd w x:Nat):Int)∣w:=Int.gcd_dvd_left ..;have hg2:((Int.gcd w x:Nat):Int)∣x:=Int.gcd_dvd_right ..;constructor
 ·rw[Rat.den_divInt,if_neg (by omega)];have:(Int.gcd w x:Nat)∣w.natAbs:=by have:=Int.natAbs_dvd_natAbs.2 hg;rwa [Int.natAbs_natCast]at this
  have h2:w.natAbs/Int.gcd w x∣w.natAbs:=Nat.div_dvd_of_dvd this;have h3:((w.natAbs/Int.gcd w x:Nat):Int)∣((w.natAbs:Nat):Int):=by exact_mod_cast h2
  rwa [show((w.natAbs:Nat):Int)=w by omega]at h3
 ·rw[Rat.num_divInt,Int.sign_eq_one_of_pos hw,Int.one_mul,Int.natAbs_ediv_of_dvd hg2];exact Nat.div_le_self _ _
theorem Et4{x w:Int}(hw:0<w)(hw9:w<=100)(hx:x.natAbs<=1000):shB (Rat.divInt x w)=true:=by
 obtain⟨h1,h2⟩:=Ck7 (x:=x) hw;have h3:=Int.le_of_dvd hw h1;exact(Ao8 (k:=4) (by decide)).2 ⟨by omega,by omega⟩
theorem Cu0{x w:Int}(hx:0<x)(hw:0<w):0<Rat.divInt x w:=by
 rw[Rat.divInt_eq_div];have h1:(0:Rat)<(x:Rat):=Rat.intCast_pos.2 hx;have h2:(0:Rat)<(w:Rat):=Rat.intCast_pos.2 hw;rw[Rat.div_def];exact Rat.mul_pos h1 (Rat.inv_pos.2 h2)
theorem Bt4{w:Int}(hw:0<w)(hw9:w<=100):∀(l:List Int) (i n:Nat) (last:Int),(∀x∈l,0<=x/\x<=w)->last<i->i+l.length<=n->asc n last (prt w i l)/\(∀b∈prt w i l,shB b.2=true/\0<b.2/\(b.2.den:Int)∣w)/\∀x0:Rat,Da2 (prt w i l) x0=x0+Rat.divInt l.sum w
 |[],i,n,last,_,_,_=>⟨trivial,fun b h=>(by cases h),fun x0=>by
  show x0=x0+Rat.divInt 0 w;rw[Rat.zero_divInt,Rat.add_zero]⟩
 |x::l,i,n,last,hx,hl,hn=>by
  simp only[List.length_cons]at hn;have hxx:=hx x List.mem_cons_self;have hs:∀y:Rat,y+Rat.divInt (x::l).sum w=y+Rat.divInt x w+Rat.divInt l.sum w:=fun y=>by
   rw[List.sum_cons,Rat.add_assoc,Rat.divInt_add_divInt _ _ (by omega) (by omega),<-Int.add_mul,Rat.divInt_mul_right (by omega)]
  rw[prt];by_cases h0:x>0
  ·rw[if_pos h0];obtain⟨h1,h2,h3⟩:=Bt4 hw hw9 l (i+1) n (i:Int) (fun y hy=>hx y (List.mem_cons_of_mem _ hy)) (by omega) (by omega);refine⟨⟨hl,by omega,h1⟩,fun b hb=> ?_,fun y=> ?_⟩
   ·rcases List.mem_cons.1 hb with rfl|hb
    ·exact⟨Et4 hw hw9 (by omega),Cu0 h0 hw,(Ck7 hw).1⟩
    ·exact h2 b hb
   ·rw[Da2,h3,hs]
  ·rw[if_neg h0];obtain⟨h1,h2,h3⟩:=Bt4 hw hw9 l (i+1) n last (fun y hy=>hx y (List.mem_cons_of_mem _ hy)) (by omega) (by omega);refine⟨h1,h2,fun y=> ?_⟩;rw[h3,hs,show x=0 by omega,Rat.zero_divInt,Rat.add_zero]
theorem Cn8{l4:List Int}{y1:Nat}{w:Int}{a b:List UInt8}(hw:0<w)(hw9:w<=100)(hl:l4.length=y1)(hy:y1<=5)(hx:∀x∈l4,0<=x/\x<=w):
 ∀(l:List Int) (i:Nat) (acc:List C1),l4.drop i=l->acc.length<=i->Ev fun f=>∀k,l.length<k->Ah7 f l4 (y1:Int) w a b k (i:Int) acc=some ⟨a,b,acc++(prt w i l).map eB⟩
 |[],i,acc,hd,_=>Ev.of fun f k hk=>by
  obtain⟨k,rfl⟩:∃j,k=j+1:=⟨k-1,by simp at hk;omega⟩
  have:=drop_nil hd;unfold Ah7;rw[dF_ (by omega)];simp[prt]
 |x::l,i,acc,hd,ha=>by
  obtain⟨hi,hb,hd'⟩:=T7 hd;have hxx:=hx x (by rw[<-hb];exact List.getElem_mem hi);have hof:=Gs9 (n:=x) (d:=w) (by omega) (by omega) hw (by omega);by_cases h0:x>0
  ·refine(hof.and (Cn8 (a:=a) (b:=b) hw hw9 hl hy hx l (i+1) (acc++[⟨(i:Int),T (Rat.divInt x w)⟩]) hd' (by simp;omega))).mono fun f h k hk=> ?_
   obtain⟨h1,h2⟩:=h;obtain⟨k,rfl⟩:∃j,k=j+1:=⟨k-1,by simp at hk;omega⟩
   unfold Ah7;rw[dT_ (by omega),C7 hi,hb];simp only[cond_true,sb];rw[dT_ h0];simp only[cond_true];refine sbe h1 (sbe (V1 _ _ (by simp;omega)) ?_);unfold Bk1;rw[wi i (by omega),h2 k (by simp at hk;omega),prt,if_pos h0,List.map_cons,List.append_assoc];rfl
  ·refine(Cn8 (a:=a) (b:=b) hw hw9 hl hy hx l (i+1) acc hd' (by omega)).mono fun f h2 k hk=> ?_
   obtain⟨k,rfl⟩:∃j,k=j+1:=⟨k-1,by simp at hk;omega⟩
   unfold Ah7;rw[dT_ (by omega),C7 hi,hb];simp only[cond_true,sb];rw[dF_ h0];simp only[cond_false];unfold Bk1;rw[wi i (by omega),h2 k (by simp at hk;omega),prt,if_neg h0]
theorem Eb4:∀(l:List Int) (i:Nat) (y:Int),i<l.length->(l.set i (l.getD i 0+y)).sum=l.sum+y
 |[],i,y,h=>by simp at h
 |x::l,0,y,_=>by simp;omega
 |x::l,i+1,y,h=>by
  have:=Eb4 l i y (by simpa using h);simp only[List.set_cons_succ,List.sum_cons,List.getD_cons_succ];omega
theorem Bf6:∀(l:List Int),(∀x∈l,0<=x)->0<=l.sum/\∀x∈l,x<=l.sum
 |[],_=>⟨by simp,fun x h=>(by cases h)⟩
 |y::l,h=>by
  obtain⟨h1,h2⟩:=Bf6 l fun x hx=>h x (List.mem_cons_of_mem _ hx)
  have h0:=h y List.mem_cons_self;rw[List.sum_cons];refine⟨by omega,fun x hx=> ?_⟩;rcases List.mem_cons.1 hx with rfl|hx
  ·omega
  ·have:=h2 x hx;omega
theorem Dn8{l:List Int}{n:Nat}{j y:Int}(hl:l.length=n)(hn:l.sum<=1000)(hx:∀x∈l,0<=x)(j0:0<=j)(j1:j<n)(y0:0<=y)(y1:y<=1000):
 ∃x,C6 l j=some x/\∃l',l.set (0+Int.toNat j) (i64.wrap (x+y))=l'/\l'.length=n/\l'.sum=l.sum+y/\∀x∈l',0<=x:=by
 have hj:j.toNat<l.length:=by omega
 have hm:=List.getElem_mem hj;have h2:=(Bf6 l hx).2 _ hm;have h3:=hx _ hm;refine⟨l[j.toNat],Eu8 j0 hj,_,rfl,by simp[hl],?_,fun x hx'=> ?_⟩
 ·rw[E7 (by omega) (by omega),show 0+Int.toNat j=j.toNat by omega,show l[j.toNat]=l.getD j.toNat 0 by simp[hj],Eb4 l _ y hj]
 ·rw[E7 (by omega) (by omega)]at hx';rcases List.mem_or_eq_of_mem_set hx' with h|rfl
  ·exact hx x h
  ·omega
structure Cc8(n w:Nat)(g:Nat)(c:Cho):Prop where
 ac:Ed6 c.act=true
 ga:shB c.gain=true/\0<=c.gain/\c.gain.den∣g
 br:Gb0 n c.next
 dv:∀b∈c.next,b.2.den∣w
theorem Dp1{d:B1}{p:D1}(hd:Ae7 d)(hp:Ew6 p){w g:Int}(hw:C6 [1,2,3,4,6,10,100,5] (Int.tmod d.Grain 8)=some w)(hg:C6 [1,2,3,1] (Int.tmod d.Cents 4)=some g)(w0:0<w)(w9:w<=100)(g0:0<g)(g9:g<=3):
 ∃c,Cc8 (cnt d) w.toNat g.toNat c/\Ev fun f=>F43 f d p=some (eC c):=by
 obtain⟨⟨p1,q1⟩,⟨p2,q2⟩,⟨p3,q3⟩,⟨p4,q4⟩,⟨p5,q5⟩,⟨p6,q6⟩,⟨p7,q7⟩,⟨p8,q8⟩⟩:=hp;obtain⟨c1,c5⟩:=Aw2 d
 --the three parts
 have t0:=Int.emod_nonneg p.Part.a0 (show w+1≠0 by omega);have t1:=Int.emod_lt_of_pos p.Part.a0 (show 0<w+1 by omega);have t2:=Int.emod_nonneg p.Part.a1 (show w-p.Part.a0%(w+1)+1≠0 by omega);have t3:=Int.emod_lt_of_pos p.Part.a1 (show 0<w-p.Part.a0%(w+1)+1 by omega);have j0:∀x:Int,0<=x->0<=x%(cnt d:Int)/\x%(cnt d:Int)<cnt d:=fun x _=>⟨Int.emod_nonneg _ (by omega),Int.emod_lt_of_pos _ (by omega)⟩
 have z0:(List.replicate (cnt d) (0:Int)).sum=0:=by
  induction cnt d with
  |zero=>rfl
  |succ n ih=>rw[List.replicate_succ,List.sum_cons,ih];rfl
 obtain⟨x1,e1,l2,s1,n1,m1,k1⟩:=Dn8 (l:=List.replicate (cnt d) 0) (n:=cnt d) (j:=p.To.a0%(cnt d:Int)) (y:=p.Part.a0%(w+1)) (by simp) (by omega) (fun x hx=>by rw[(List.mem_replicate.1 hx).2];omega) (j0 _ p4).1 (j0 _ p4).2 (by omega) (by omega);obtain⟨x2,e2,l3,s2,n2,m2,k2⟩:=Dn8 (l:=l2) (n:=cnt d) (j:=p.To.a1%(cnt d:Int)) (y:=p.Part.a1%(w-p.Part.a0%(w+1)+1)) n1 (by omega) k1 (j0 _ p5).1 (j0 _ p5).2 (by omega) (by omega);obtain⟨x3,e3,l4,s3,n3,m3,k3⟩:=Dn8 (l:=l3) (n:=cnt d) (j:=p.To.a2%(cnt d:Int)) (y:=w-p.Part.a0%(w+1)-p.Part.a1%(w-p.Part.a0%(w+1)+1)) n2 (by omega) k2 (j0 _ p6).1 (j0 _ p6).2 (by omega) (by omega);have hsum:l4.sum=w:=by omega
 have hle:∀x∈l4,0<=x/\x<=w:=fun x hx=>⟨k3 x hx,by rw[<-hsum];exact(Bf6 l4 k3).2 x hx⟩
 obtain⟨r1,r2,r3⟩:=Bt4 w0 w9 l4 0 (cnt d) (-1) hle (by omega) (by omega);obtain⟨ac,hac,eac⟩:=Dw7 (l:=([[],[97],[103,111],[97,98,99,100,101,102,103,104]]:List (List UInt8))) (v:=Int.tmod p.Act 4) (by rw[(tdm p2).2];omega) (by rw[(tdm p2).2];simp;omega);have gd:=Ck7 (x:=p.Gain%20) g0;refine⟨⟨ac,Rat.divInt (p.Gain%20) g,prt w 0 l4⟩,⟨?_,⟨Et4 g0 (by omega) (by omega),?_,?_⟩,⟨r1,fun b hb=>⟨(r2 b hb).1,(r2 b hb).2.1⟩,?_⟩,fun b hb=> ?_⟩,?_⟩
 ·exact(by decide:∀x∈([[],[97],[103,111],[97,98,99,100,101,102,103,104]]:List (List UInt8)),Ed6 x=true) ac hac
 ·exact(Rat.divInt_nonneg_iff_of_pos_right g0).2 (by omega)
 ·have:(((Rat.divInt (p.Gain%20) g).den:Nat):Int)∣((g.toNat:Nat):Int):=by rw[Int.toNat_of_nonneg (by omega)];exact gd.1
  exact Int.natCast_dvd_natCast.1 this
 ·show Da2 (prt w 0 l4) 0=1;rw[r3,hsum,Rat.zero_add,Rat.divInt_self' (by omega)]
 ·have:((b.2.den:Nat):Int)∣((w.toNat:Nat):Int):=by rw[Int.toNat_of_nonneg (by omega)];exact(r2 b hb).2.2
  exact Int.natCast_dvd_natCast.1 this
 ·refine((Cn8 (a:=ac) (b:=T (Rat.divInt (p.Gain%20) g)) w0 w9 n3 c5 hle l4 0 [] rfl (by simp)).and ((Gs9 (n:=p.Gain%20) (d:=g) (by omega) (by omega) g0 (by omega)).and (Ev.ge 10))).mono fun f h=> ?_
  obtain⟨h1,h2,h3⟩:=h;have W:∀{x:Int},-1000<=x->x<=1000->i64.wrap x=x:=fun a b=>E7 (by omega) (by omega)
  have a1:Int.tmod (i64.wrap p.Part.a0) (i64.wrap (w+1))=p.Part.a0%(w+1):=by rw[W (by omega) (by omega),W (by omega) (by omega),(tdm p7).2]
  have a2:i64.wrap (w-p.Part.a0%(w+1))=w-p.Part.a0%(w+1):=W (by omega) (by omega);have a3:i64.wrap (w-p.Part.a0%(w+1)+1)=w-p.Part.a0%(w+1)+1:=W (by omega) (by omega);have a4:Int.tmod (i64.wrap p.Part.a1) (w-p.Part.a0%(w+1)+1)=p.Part.a1%(w-p.Part.a0%(w+1)+1):=by rw[W (by omega) (by omega),(tdm p8).2]
  have a5:i64.wrap (w-p.Part.a0%(w+1)-p.Part.a1%(w-p.Part.a0%(w+1)+1))=w-p.Part.a0%(w+1)-p.Part.a1%(w-p.Part.a0%(w+1)+1):=W (by omega) (by omega);have b1:∀x:Int,0<=x->x<256->Int.tmod (i64.wrap x) ((cnt d:Nat):Int)=x%(cnt d:Int):=fun x h h'=>by rw[W (by omega) (by omega),(tdm h).2]
  unfold F43;rw[Ct6 hd,sb,hw,sb,a1,a2,a3,a4,a5,b1 _ p4 q4,b1 _ p5 q5,b1 _ p6 q6,W (x:=w+1) (by omega) (by omega)];rw[E1 (dT_ (by omega)),E1 (dT_ (by omega)),Bf2 (by omega),sb,E1 (dT_ (by omega)),e1,sb,sb,s1,sb,E1 (dT_ (by omega)),e2,sb,sb,s2,sb,E1 (dT_ (by omega)),e3,sb,sb,s3,sb,eac,sb,hg,sb,(tdm p3).2,W (x:=p.Gain%20) (by omega) (by omega),h2,sb];exact h1 f (by omega)
theorem T0:T 0=[48]:=rfl
theorem T1:T 1=[49]:=by
 have:=Eh1 1;rw[tx1]at this;rw[<-this];congr 1
theorem Bs2:∀{l:List Rat} {v w:Nat},0<v->v∣w->0<w->w<=9999->(∀r∈l,r.den∣w)->∃u,Be9 v l=some u/\u∣w
 |[],v,w,_,hv,_,_,_=>⟨v,rfl,hv⟩
 |r::l,v,w,v0,hv,h0,h9,h=>by
  have h1:Nat.lcm v r.den∣w:=Nat.lcm_dvd hv (h r List.mem_cons_self);unfold Be9;rw[if_pos (Nat.le_trans (Nat.le_of_dvd h0 h1) h9)];exact Bs2 (Nat.lcm_pos v0 r.den_pos) h1 h0 h9 fun x hx=>h x (List.mem_cons_of_mem _ hx)
def Bv9(d:B1):List Int:=(List.range (cnt d)).map fun s=>if d.Owners.toNat.testBit s then 1 else 0
theorem Fg7{s i:Nat}(hs:s<256)(hi:i<8):
 (IntKind.u8.wrap (BitVec.ofInt IntKind.u8.bits (Int.fdiv (s:Int) (2^(min (Int.toNat (i:Int)) IntKind.u8.bits)))&&&BitVec.ofInt IntKind.u8.bits 1).toNat)=if s.testBit i then 1 else 0:=by
 have h1:Int.fdiv (s:Int) (2^(min (Int.toNat (i:Int)) IntKind.u8.bits))=((s/2^i:Nat):Int):=by
  have:min (Int.toNat (i:Int)) IntKind.u8.bits=i:=by simp[IntKind.bits];omega
  rw[this,Int.fdiv_eq_ediv_of_nonneg _ (by exact_mod_cast Nat.zero_le _)];norm_cast
 have h2:BitVec.ofInt IntKind.u8.bits 1=BitVec.ofNat 8 1:=rfl;have h8:∀x:Nat,(BitVec.ofInt IntKind.u8.bits (x:Int))=BitVec.ofNat 8 x:=fun x=>by
  show BitVec.ofInt 8 (x:Int)=BitVec.ofNat 8 x;simp
 rw[h1,h8,h2];have h4:s/2^i<2^8:=Nat.lt_of_le_of_lt (Nat.div_le_self _ _) hs;have h3:(BitVec.ofNat 8 (s/2^i)&&&BitVec.ofNat 8 1).toNat=if s.testBit i then 1 else 0:=by
  rw[BitVec.toNat_and,BitVec.toNat_ofNat,BitVec.toNat_ofNat,Nat.mod_eq_of_lt h4,show(1:Nat)%2^8=1 from rfl,Nat.and_one_is_mod];exact Ey0 s i
 have h5:((BitVec.ofNat 8 (s/2^i)&&&BitVec.ofNat 8 1).toNat:Int)=if s.testBit i then 1 else 0:=by
  rw[h3];split<;>rfl
 have key:IntKind.u8.wrap ((BitVec.ofNat 8 (s/2^i)&&&BitVec.ofNat 8 1).toNat:Int)=if s.testBit i then 1 else 0:=by
  have hb:((BitVec.ofNat 8 (s/2^i)&&&BitVec.ofNat 8 1).toNat:Int)<256:=by rw[h5];split<;>decide
  rw[wu8 (by omega) hb,h5]
 exact key
theorem Bt1{f:Nat}{d:B1}(hd:Ae7 d){l2:List (List A2)}:∀(r i k:Nat),i+r=cnt d->r<k->Am9 f d l2 (cnt d:Int) k (i:Int) (fil (fun s=>if d.Owners.toNat.testBit s then(1:Int) else 0) 0 (cnt d) i)=V3 f d (Bv9 d) (cnt d:Int) f 0 l2
 |_,_,0,_,h=>absurd h (by omega)
 |0,i,k+1,hi,_=>by
  obtain rfl:i=cnt d:=by omega
  unfold Am9;rw[dF_ (by omega),El0];rfl
 |r+1,i,k+1,hi,hk=>by
  have hil:i<cnt d:=by omega
  have c5:=(Aw2 d).2;have⟨_,⟨o0,o1⟩,_⟩:=hd;unfold Am9;rw[dT_ (by omega)];simp only[cond_true];have hb:=Fg7 (s:=d.Owners.toNat) (i:=i) (by omega) (by omega);rw[Int.toNat_of_nonneg o0]at hb;rw[E1 (dT_ (by omega)),hb];cases hbit:d.Owners.toNat.testBit i with
  |true=>
   simp only[if_true,show((1:Int)==1)=true from rfl,cond_true];rw[Az0 hil,sb,sb];unfold Bj8;have g1:(fil (fun s=>if d.Owners.toNat.testBit s then(1:Int) else 0) 0 (cnt d) i).set (0+Int.toNat (i:Int)) 1=fil (fun s=>if d.Owners.toNat.testBit s then(1:Int) else 0) 0 (cnt d) (i+1):=by
    rw[tn,<-Bd6 hil,hbit];rfl
   rw[g1,wi i (by omega)];exact Bt1 hd r (i+1) k (by omega) (by omega)
  |false=>
   simp only[Bool.false_eq_true,if_false,show((0:Int)==1)=false from rfl,cond_false];unfold Bj8;rw[wi i (by omega),El1 (f:=fun s=>if d.Owners.toNat.testBit s then(1:Int) else 0) hil (by simp[hbit])];exact Bt1 hd r (i+1) k (by omega) (by omega)
structure Gn9(d:B1)(m:Mdl):Prop where
 ok:okM m
 own:m.own=Bv9 d
 cl:∀l∈m.ch,l.length<=3
 gp:gP m<=100
 gg:gG m<=3
theorem Hl4(n s w g:Nat)(hs:s<n):Cc8 n w g ⟨[],0,[((s:Int),1)]⟩:=by
 refine⟨rfl,⟨rfl,Rat.le_refl,Nat.one_dvd _⟩,⟨⟨by show(-1:Int)<(s:Int);omega,by show(s:Int)<n;omega,trivial⟩,fun b hb=> ?_,Rat.zero_add 1⟩,fun b hb=> ?_⟩
 ·rw[List.mem_singleton]at hb;subst hb;exact⟨rfl,(by decide:(0:Rat)<1)⟩
 ·rw[List.mem_singleton]at hb;subst hb;exact Nat.one_dvd _
theorem Gb9(s:Nat):eC ⟨[],0,[((s:Int),1)]⟩=(⟨[],[48],[(⟨(s:Int),[49]⟩:C1)]⟩:A2):=by
 unfold eC eB;rw[List.map_singleton,T0,T1]
theorem Fn2{d:B1}{cs:List (List Cho)}{w g:Nat}(hc:cs.length=cnt d)(hl:∀l∈cs,1<=l.length/\l.length<=3/\∀c∈l,Cc8 (cnt d) w g c)(w0:0<w)(w9:w<=100)(g0:0<g)(g9:g<=3):Gn9 d ⟨Bv9 d,cs⟩:=by
 have ho:(Bv9 d).length=cnt d:=by simp[Bv9]
 obtain⟨c1,c5⟩:=Aw2 d;have hf:∀c∈cs.flatten,Cc8 (cnt d) w g c:=fun c hc=>by
  obtain⟨l,h1,h2⟩:=List.mem_flatten.1 hc;exact(hl l h1).2.2 c h2
 obtain⟨u,hu,hud⟩:=Bs2 (l:=Fl7 ⟨Bv9 d,cs⟩) (v:=1) (w:=g) (by decide) (Nat.one_dvd _) g0 (by omega) fun r hr=>by
  obtain⟨c,hc,rfl⟩:=List.mem_map.1 hr;exact(hf c hc).ga.2.2
 obtain⟨u',hu',hud'⟩:=Bs2 (l:=Fn8 ⟨Bv9 d,cs⟩) (v:=1) (w:=w) (by decide) (Nat.one_dvd _) w0 (by omega) fun r hr=>by
  obtain⟨c,hc,hr⟩:=List.mem_flatMap.1 hr;obtain⟨b,hb,rfl⟩:=List.mem_map.1 hr;exact(hf c hc).dv b hb
 refine⟨⟨by show 1<=(Bv9 d).length;omega,by show(Bv9 d).length<=12;omega,by show cs.length=(Bv9 d).length;omega,fun l h=>⟨(hl l h).1,by have:=(hl l h).2.1;omega⟩,fun o h=> ?_,fun c h=>(hf c h).ac,fun c h=>⟨(hf c h).ga.1,(hf c h).ga.2.1⟩,fun c h=>by rw[ho];exact(hf c h).br,by rw[hu];rfl,by rw[hu'];rfl⟩,rfl,fun l h=>(hl l h).2.1,?_,?_⟩
 ·obtain⟨s,_,rfl⟩:=List.mem_map.1 h;split
  ·exact .inr rfl
  ·exact .inl rfl
 ·unfold gP;rw[hu'];exact Nat.le_trans (Nat.le_of_dvd w0 hud') w9
 ·unfold gG;rw[hu];exact Nat.le_trans (Nat.le_of_dvd g0 hud) g9
theorem Bh0{α β:Type}(f:α->β)(l:List α)(i:Nat)(x:α):(l.map f).set i (f x)=(l.set i x).map f:=by rw[List.map_set]
theorem Bu7{α:Type}{l:List α}{i:Nat}(h:i<l.length):l.set i l[i]=l:=by
 refine List.ext_getElem (by simp) fun j h1 h2=> ?_
 rw[List.getElem_set];split
 ·subst_vars;rfl
 ·rfl
theorem Cm4{d:B1}{w g:Nat}:∀(r i:Nat) (cs:List (List Cho)),i+r=cnt d->cs.length=cnt d->(∀l∈cs,l.length<=3/\∀c∈l,Cc8 (cnt d) w g c)->(∀j,j<i->∀l,cs[j]? =some l->l≠[])->
 ∃cs':List (List Cho),cs'.length=cnt d/\(∀l∈cs',1<=l.length/\l.length<=3/\∀c∈l,Cc8 (cnt d) w g c)/\∀k,r<k->Ah6 (Bv9 d) (cnt d:Int) k (i:Int) (cs.map eL)=some (eM ⟨Bv9 d,cs'⟩)
 |0,i,cs,hi,hc,hl,hn=>by
  refine⟨cs,hc,fun l h=> ?_,fun k hk=> ?_⟩
  ·obtain⟨j,hj,rfl⟩:=List.mem_iff_getElem.1 h;have:=hn j (by omega) cs[j] (List.getElem?_eq_getElem hj);obtain⟨h1,h2⟩:=hl _ h;exact⟨List.length_pos_iff.2 this,h1,h2⟩
  ·obtain⟨k,rfl⟩:∃j,k=j+1:=⟨k-1,by omega⟩
   unfold Ah6;rw[dF_ (by omega)];rfl
 |r+1,i,cs,hi,hc,hl,hn=>by
  have hil:i<cs.length:=by omega
  have c5:=(Aw2 d).2;by_cases he:cs[i]=[]
  ·obtain⟨cs',h1,h2,h3⟩:=Cm4 (d:=d) (w:=w) (g:=g) r (i+1) (cs.set i [⟨[],0,[((i:Int),1)]⟩]) (by omega) (by simp[hc]) (fun l h=>by
    rcases List.mem_or_eq_of_mem_set h with h|rfl
    ·exact hl l h
    ·exact⟨by simp,fun c hc=>by rw[List.mem_singleton]at hc;subst hc;exact Hl4 _ _ _ _ (by omega)⟩) (fun j hj l h=>by
    rw[List.getElem?_set]at h;split at h
    ·cases h;simp
    ·exact hn j (by omega) l h)
   refine⟨cs',h1,h2,fun k hk=> ?_⟩;obtain⟨k,rfl⟩:∃j,k=j+1:=⟨k-1,by omega⟩
   unfold Ah6;rw[dT_ (by omega),D4 hil];simp only[cond_true,sb];rw[show Int.toNat (i:Int)=i by omega,Bh0 eL,Bu7 hil,he];rw[show((((eL []).map B0).length:Nat):Int)==0 from rfl];simp only[cond_true];rw[D4 hil];simp only[sb];rw[<-Gb9 i,show[eC ⟨[],0,[((i:Int),1)]⟩]=eL [⟨[],0,[((i:Int),1)]⟩] from rfl,Bh0 eL];unfold Bj9;rw[wi i (by omega)];exact h3 k (by omega)
  ·obtain⟨cs',h1,h2,h3⟩:=Cm4 (d:=d) (w:=w) (g:=g) r (i+1) cs (by omega) hc hl (fun j hj l h=>by
    rcases Nat.lt_or_ge j i with h'|h'
    ·exact hn j h' l h
    ·obtain rfl:j=i:=by omega
     rw[List.getElem?_eq_getElem hil]at h;cases h;exact he)
   refine⟨cs',h1,h2,fun k hk=> ?_⟩;obtain⟨k,rfl⟩:∃j,k=j+1:=⟨k-1,by omega⟩
   unfold Ah6;rw[dT_ (by omega),D4 hil];simp only[cond_true,sb];rw[show Int.toNat (i:Int)=i by omega,Bh0 eL,Bu7 hil];have hpos:0<cs[i].length:=List.length_pos_iff.2 he;rw[show(((((eL cs[i]).map B0).length:Nat):Int)==0)=false by
    rw[beq_eq_false_iff_ne,List.length_map];unfold eL;rw[List.length_map];omega]
   simp only[cond_false];unfold Bj9;rw[wi i (by omega)];exact h3 k (by omega)
theorem Fn6{d:B1}(hd:Ae7 d){w g:Int}(hw:C6 [1,2,3,4,6,10,100,5] (Int.tmod d.Grain 8)=some w)(hg:C6 [1,2,3,1] (Int.tmod d.Cents 4)=some g)(w0:0<w)(w9:w<=100)(g0:0<g)(g9:g<=3):
 ∀(r i:Nat) (cs:List (List Cho)),i+r=20->cs.length=cnt d->(∀l∈cs,l.length<=3/\∀c∈l,Cc8 (cnt d) w.toNat g.toNat c)->
  ∃m,Gn9 d m/\Ev fun f=>∀k,r<k->V3 f d (Bv9 d) (cnt d:Int) k (i:Int) (cs.map eL)=some (eM m):=by
 have stop:∀(i:Nat) (cs:List (List Cho)),i<=20->(d.Picks.length<=i\/20<=i)->cs.length=cnt d->(∀l∈cs,l.length<=3/\∀c∈l,Cc8 (cnt d) w.toNat g.toNat c)->∃m,Gn9 d m/\Ev fun f=>∀k,0<k->V3 f d (Bv9 d) (cnt d:Int) k (i:Int) (cs.map eL)=some (eM m):=fun i cs hi hs hc hl=>by
  obtain⟨cs',h1,h2,h3⟩:=Cm4 (cnt d) 0 cs (by omega) hc hl (fun j hj=>absurd hj (by omega));refine⟨_,Fn2 h1 h2 (by omega) (by omega) (by omega) (by omega),(Ev.ge 10).mono fun f hf k hk=> ?_⟩;obtain⟨k,rfl⟩:∃j,k=j+1:=⟨k-1,by omega⟩
  have c5:=(Aw2 d).2;unfold V3;have ho:(bif decide ((i:Int)<((d.Picks.map B8).length:Int)) then some (decide ((i:Int)<20)) else some false)=some false:=by
   rw[List.length_map];by_cases h:i<d.Picks.length
   ·rw[dT_ (by omega),dF_ (show¬(i:Int)<20 by omega)];rfl
   ·rw[dF_ (by omega)];rfl
  rw[ho,sb];simp only[cond_false];exact h3 f (by omega)
 intro r
 induction r with
 |zero=>
  intro i cs hi hc hl;exact stop i cs (by omega) (.inr (by omega)) hc hl
 |succ r ih=>
  intro i cs hi hc hl;by_cases hp:i<d.Picks.length
  ·have hpk:=hd.2.2.2.2 d.Picks[i] (List.getElem_mem hp);obtain⟨c,hcc,hce⟩:=Dp1 hd hpk hw hg w0 w9 g0 g9;obtain⟨c1,c5⟩:=Aw2 d;have q0:=hpk.1;obtain⟨s,hs,hsc⟩:∃s:Nat,(s:Int)=d.Picks[i].State%(cnt d:Int)/\s<cs.length:=by
    have a:=Int.emod_nonneg d.Picks[i].State (show(cnt d:Int)≠0 by omega);have b:=Int.emod_lt_of_pos d.Picks[i].State (show 0<(cnt d:Int) by omega);exact⟨(d.Picks[i].State%(cnt d:Int)).toNat,by omega,by omega⟩
   have hidx:Int.tmod (i64.wrap d.Picks[i].State) ((cnt d:Nat):Int)=(s:Int):=by
    obtain⟨a,b⟩:=q0;rw[E7 (by omega) (by omega),(tdm a).2,hs]
   have hsl:=hl cs[s] (List.getElem_mem hsc);have start:∀{f k:Nat} {z:Option B6},(bif decide ((((eL cs[s]).map B0).length:Int)<3) then
    (Option.bind (C6 (cs.map eL) (s:Int)) fun y47=>
    Option.bind (C6 d.Picks (i:Int)) fun y48=>
    Option.bind (F43 f d y48) fun y49=>
    Option.bind (app y47 [y49]) fun l41=>
    Option.bind (some ((cs.map eL).set s l41)) fun l42=>
    Av6 (i:Int) (V3 f d (Bv9 d) (cnt d:Int) k) l42)
   else
    (Av6 (i:Int) (V3 f d (Bv9 d) (cnt d:Int) k) (cs.map eL)))=z->V3 f d (Bv9 d) (cnt d:Int) (k+1) (i:Int) (cs.map eL)=z:=fun{f k z} hz=>by
    conv=>lhs;unfold V3
    rw[List.length_map,dT_ (by omega)];simp only[cond_true];rw[sb,dT_ (show(i:Int)<20 by omega)];simp only[cond_true];rw[C7 hp,sb,E1 (dT_ (by omega)),hidx,D4 hsc,sb,sb,show Int.toNat (s:Int)=s by omega,Bh0 eL,Bu7 hsc];rw[C7 hp,D4 hsc]at hz;rw[D4 hsc];exact hz
   by_cases h3:cs[s].length<3
   ·obtain⟨m,hm,hE⟩:=ih (i+1) (cs.set s (cs[s]++[c])) (by omega) (by simp[hc]) (fun l h=>by
     rcases List.mem_or_eq_of_mem_set h with h|rfl
     ·exact hl l h
     ·refine⟨by simp;omega,fun x hx=> ?_⟩;rcases List.mem_append.1 hx with hx|hx
      ·exact hsl.2 x hx
      ·rw[List.mem_singleton]at hx;subst hx;exact hcc)
    refine⟨m,hm,(hce.and hE).mono fun f h k hk=> ?_⟩;obtain⟨h1,h2⟩:=h;obtain⟨k,rfl⟩:∃j,k=j+1:=⟨k-1,by omega⟩
    refine start ?_;rw[show decide ((((eL cs[s]).map B0).length:Int)<3)=true from dT_ (by unfold eL;simp;omega)];simp only[cond_true];rw[D4 hsc,sb,C7 hp,sb,h1,sb,V1 _ _ (by unfold eL;simp;omega),sb,sb,show eL cs[s]++[eC c]=eL (cs[s]++[c]) by simp[eL],Bh0 eL];unfold Av6;rw[wi i (by omega)];exact h2 k (by omega)
   ·obtain⟨m,hm,hE⟩:=ih (i+1) cs (by omega) hc hl;refine⟨m,hm,hE.mono fun f h2 k hk=> ?_⟩;obtain⟨k,rfl⟩:∃j,k=j+1:=⟨k-1,by omega⟩
    refine start ?_;rw[show decide ((((eL cs[s]).map B0).length:Int)<3)=false from dF_ (by unfold eL;simp;omega)];simp only[cond_false];unfold Av6;rw[wi i (by omega)];exact h2 k (by omega)
  ·obtain⟨m,hm,hE⟩:=stop i cs (by omega) (.inl (by omega)) hc hl;exact⟨m,hm,hE.mono fun f h k hk=>h k (by omega)⟩
theorem Ej0{d:B1}(hd:Ae7 d):∃m,Gn9 d m/\Ev fun f=>F18 f d=some (eM m):=by
 have⟨_,_,⟨a0,a1⟩,⟨b0,b1⟩,_⟩:=hd;obtain⟨w,hw,ew⟩:=Dw7 (l:=([1,2,3,4,6,10,100,5]:List Int)) (v:=Int.tmod d.Grain 8) (by rw[(tdm a0).2];omega) (by rw[(tdm a0).2];simp;omega);obtain⟨g,hg,eg⟩:=Dw7 (l:=([1,2,3,1]:List Int)) (v:=Int.tmod d.Cents 4) (by rw[(tdm b0).2];omega) (by rw[(tdm b0).2];simp;omega);have w1:0<w/\w<=100:=(by decide:∀x∈([1,2,3,4,6,10,100,5]:List Int),0<x/\x<=100) w hw;have g1:0<g/\g<=3:=(by decide:∀x∈([1,2,3,1]:List Int),0<x/\x<=3) g hg;obtain⟨m,hm,hE⟩:=Fn6 hd ew eg w1.1 w1.2 g1.1 g1.2 20 0 (List.replicate (cnt d) []) rfl (by simp) (fun l h=>by
  rw[(List.mem_replicate.1 h).2];exact⟨by simp,fun c h=>(by cases h)⟩)
 refine⟨m,hm,(hE.and (Ev.ge 100)).mono fun f h=> ?_⟩;obtain⟨h1,h2⟩:=h;have c5:=(Aw2 d).2;unfold F18;rw[Ct6 hd,sb,Bf2 (by omega),sb,Bf2 (by omega),sb];have h3:=Bt1 (f:=f) (l2:=List.replicate (cnt d) []) hd (cnt d) 0 f (by omega) (by omega);rw[Ek9]at h3;have h4:=h1 f (by omega);rw[List.map_replicate]at h4;exact h3.trans h4
end
section
theorem Eb3:∀(l:List (Int×Rat)) (x:Rat),(∀b∈l,0<b.2)->x<=Da2 l x/\∀b∈l,x+b.2<=Da2 l x
 |[],x,_=>⟨Rat.le_refl,fun b h=>(by cases h)⟩
 |c::l,x,h=>by
  obtain⟨h1,h2⟩:=Eb3 l (x+c.2) fun b hb=>h b (List.mem_cons_of_mem _ hb)
  have hc:=h c List.mem_cons_self;rw[Da2];refine⟨by grind,fun b hb=> ?_⟩;rcases List.mem_cons.1 hb with rfl|hb
  ·exact h1
  ·have:=h2 b hb;grind
theorem Gf4{r:Rat}(h0:0<r)(h1:r<=1):r.num.natAbs<=1*r.den:=by
 have h2:=Az4.2 h0;rw[Rat.le_iff]at h1;simp at h1;omega
theorem Gg7{n g:Nat}{c:Cho}(hn:n<=12)(h:Gb0 n c.next)(hg:0<g)(hd:∀b∈c.next,b.2.den∣g):okN g n c:=by
 obtain⟨h1,h2,h3⟩:=h;obtain⟨_,h4⟩:=Eb3 c.next 0 fun b hb=>(h2 b hb).2
 refine⟨?_,fun b hb=>⟨Gx8 hg (hd b hb) (Gf4 (h2 b hb).2 ?_),?_,?_⟩⟩
 ·by_cases h0:0<n
  ·have:=Do1 h1 (by omega);omega
  ·cases hc:c.next with
   |nil=>simp
   |cons b l=>rw[hc]at h1;obtain⟨a,b,_⟩:=h1;omega
 ·have:=h4 b hb;rw[h3,Rat.zero_add]at this;exact this
 ·have:=Cj4 h1 b hb;omega
 ·have:=Cj4 h1 b hb;omega
theorem Ap6{m:Mdl}(h:okM m):0<gP m/\gP m<=9999/\∀c∈m.ch.flatten,∀b∈c.next,b.2.den∣gP m:=by
 have hp:Be9 1 (Fn8 m)=some (gP m):=by unfold gP;rw[<-Option.some_get h.gp];rfl
 obtain⟨a,b,_,d⟩:=Bf0 hp (by decide) (by decide);exact⟨a,b,fun c hc x hx=>d x.2 (List.mem_flatMap.2 ⟨c,hc,List.mem_map_of_mem hx⟩)⟩
theorem Dn7{r:Rat}(h:shB r=true):(T r).length<=20:=by
 obtain⟨h1,h2⟩:=(Ao8 (k:=4) (by decide)).1 h;have:=Ff2 (L:=4) (r:=r) ⟨Bj3 (by
  have:(10:Int)^4=10000:=by decide
  rw[this];omega),Bj3 (by
  have:(10:Int)^4=10000:=by decide
  rw[this];omega)⟩
 omega
theorem Gh0{m:Mdl}(h:okM m):szY (eM m):=by
 intro l hl;obtain⟨l',hl',rfl⟩:=List.mem_map.1 (show l∈m.ch.map eL from hl);refine⟨by unfold eL;rw[List.length_map];have:=(h.cl l' hl').2;omega,fun c hc=> ?_⟩;obtain⟨c',hc',rfl⟩:=List.mem_map.1 hc;have hm:=List.mem_flatten.2 ⟨l',hl',hc'⟩;have hb:=h.br c' hm;have h12:=h.n12;refine⟨Nat.le_trans (Dn7 (h.ga c' hm).1) (by decide),?_,fun b hb'=> ?_⟩
 ·have:=(Gg7 h12 hb (Ap6 h).1 ((Ap6 h).2.2 c' hm)).1;unfold eC;rw[List.length_map];omega
 ·obtain⟨b',hb'',rfl⟩:=List.mem_map.1 hb';exact Nat.le_trans (Dn7 (hb.2.1 b' hb'').1) (by decide)
theorem Cc0{m:Mdl}(h:okM m):Ev fun f=>F61 f (eM m)=some 0:=by
 rcases Dv6 (Gh0 h) with⟨m',_,_,h3⟩|⟨h1,_⟩
 ·exact h3
 ·exact absurd ⟨m,h,rfl⟩ h1
theorem Er8{a b:Nat}(ha:a<18446744073709551616)(hb:b<18446744073709551616):
 (u64.wrap (BitVec.ofInt u64.bits (a:Int)&&&BitVec.ofInt u64.bits (b:Int)).toNat)=((a&&&b:Nat):Int):=by
 have key:u64.wrap ((BitVec.ofNat 64 a&&&BitVec.ofNat 64 b).toNat:Int)=((a&&&b:Nat):Int):=by
  rw[wu (BitVec.isLt _),BitVec.toNat_and,BitVec.toNat_ofNat,BitVec.toNat_ofNat,Nat.mod_eq_of_lt ha,Nat.mod_eq_of_lt hb]
 rw[Am2,Am2];exact key
theorem Cm6{n:Nat}(hn:n<62):u64.wrap (u64.wrap (1*2^(min (Int.toNat (n:Int)) u64.bits))-1)=((2^n-1:Nat):Int):=by
 rw[Bn0 hn];have h1:0<2^n:=Nat.pow_pos (by decide);have h2:2^n<=2^62:=Nat.pow_le_pow_right (by decide) (by omega);have:((2^n:Nat):Int)-1=((2^n-1:Nat):Int):=by omega
 rw[this,wu (by omega)]
end
section
def inB(x:Nat)(c:Cho):Bool:=c.next.all fun b=>x.testBit b.1.toNat
def okT(c:Cho):Prop:=c.next.length<=12/\∀b∈c.next,0<=b.1/\b.1.toNat<12
theorem X3{m:Mdl}(h:okM m){s:Nat}(hs:s<m.own.length):∃hl:s<m.ch.length,m.ch.getD s []=m.ch[s]/\m.ch[s]≠[]/\m.ch[s].length<=4/\∀c∈m.ch[s],okT c/\okN (gP m) m.own.length c/\Gb0 m.own.length c.next:=by
 have hl:s<m.ch.length:=by rw[h.len];exact hs
 have hm:=List.getElem_mem hl;refine⟨hl,by rw[List.getD_eq_getElem?_getD,List.getElem?_eq_getElem hl];rfl,fun e=> ?_,(h.cl _ hm).2,fun c hc=> ?_⟩
 ·have:=(h.cl _ hm).1;rw[e]at this;simp at this
 ·have hf:=List.mem_flatten.2 ⟨_,hm,hc⟩;have hb:=h.br c hf;have hN:=Gg7 h.n12 hb (Ap6 h).1 ((Ap6 h).2.2 c hf);have h12:=h.n12;exact⟨⟨hN.1,fun b hb=>⟨(hN.2 b hb).2.1,by have:=(hN.2 b hb).2.2;omega⟩⟩,hN,hb⟩
theorem Eb0{c:Cho}{x:Nat}(hx:x<18446744073709551616)(hc:okT c):∀(r i k:Nat),i+r=c.next.length->r<k->Ak3 (eC c) (x:Int) k (i:Int)=some ((c.next.drop i).all fun b=>x.testBit b.1.toNat)
 |_,_,0,_,h=>absurd h (by omega)
 |0,i,k+1,hi,_=>by
  unfold Ak3;rw[dF_ (by simp[eC];omega),List.drop_of_length_le (by omega)];rfl
 |r+1,i,k+1,hi,hk=>by
  have hil:i<c.next.length:=by omega
  have h12:=hc.1;obtain⟨h0,h1⟩:=hc.2 _ (List.getElem_mem hil);obtain⟨t,ht⟩:=Int.eq_ofNat_of_zero_le h0;rw[ht,Int.toNat_natCast]at h1;unfold Ak3;rw[dT_ (by simp[eC];omega)];simp only[cond_true];refine sbe (x:=eB c.next[i]) (by rw[show(eC c).Next=c.next.map eB from rfl,D4 hil]) ?_;rw[show(eB c.next[i]).To=(t:Int) from ht,E1 (dT_ (by omega)),T2 hx (by omega),List.drop_eq_getElem_cons hil,List.all_cons,ht,Int.toNat_natCast];cases x.testBit t with
  |true=>
   simp only[if_true,show((1:Int)==0)=false from rfl,cond_false,Bool.true_and];rw[wi i (by omega)];exact Eb0 hx hc r (i+1) k (by omega) (by omega)
  |false=>rfl
theorem Bu9{c:Cho}{x f:Nat}(hx:x<18446744073709551616)(hc:okT c)(hf:13<=f):Ep2 f (eC c) (x:Int)=some (inB x c):=by
 have h12:=hc.1;unfold Ep2;exact Eb0 hx hc c.next.length 0 f (by omega) (by omega)
theorem Bh2{l:List Cho}{x f:Nat}(hx:x<18446744073709551616)(hl:l.length<=4)(hc:∀c∈l,okT c)(hf:13<=f):∀(r i k v:Nat),i+r=l.length->r<k->v<=i->R7 f (x:Int) (l.map eC) k (v:Int) (i:Int)=some ((v+(l.drop i).countP (inB x):Nat):Int)
 |_,_,0,_,_,h,_=>absurd h (by omega)
 |0,i,k+1,v,hi,_,_=>by
  unfold R7;rw[dF_ (by simp;omega),List.drop_of_length_le (by omega)];rfl
 |r+1,i,k+1,v,hi,hk,hv=>by
  have hil:i<l.length:=by omega
  unfold R7;rw[dT_ (by simp;omega)];simp only[cond_true];refine sbe (x:=eC l[i]) (by rw[D4 hil]) (sbe (Bu9 hx (hc _ (List.getElem_mem hil)) hf) ?_);rw[List.drop_eq_getElem_cons hil,List.countP_cons];unfold Am7;cases inB x l[i] with
  |true=>
   simp only[cond_true];rw[wi i (by omega),wi v (by omega),Bh2 hx hl hc hf r (i+1) k (v+1) (by omega) (by omega) (by omega)];congr 2;simp;omega
  |false=>
   simp only[cond_false];rw[wi i (by omega),Bh2 hx hl hc hf r (i+1) k v (by omega) (by omega) (by omega)];simp
theorem Av1{m:Mdl}(h:okM m){s x f:Nat}(hs:s<m.own.length)(hx:x<18446744073709551616)(hf:13<=f){tg:Int}{mo:Bool}{z:Int}:Cg5 f (s:Int) (x:Int) m.own (m.ch.map eL) tg mo z=some (((m.ch.getD s []).countP (inB x):Nat):Int):=by
 obtain⟨hl,e,_,h4,hc⟩:=X3 h hs;unfold Cg5;refine sbe (x:=m.ch[s].map eC) (by rw[D4 hl];rfl) ?_;have:=Bh2 hx h4 (fun c hc'=>(hc c hc').1) hf m.ch[s].length 0 f 0 (by omega) (by omega) (by omega);rw[e];simpa using this
def kpZ(m:Mdl)(mo:Bool)(s x:Nat):Bool:=bif mo then(m.ch.getD s []).all (inB x) else(m.ch.getD s []).any (inB x)
def kpC(m:Mdl)(s x:Nat):Bool:=(m.ch.getD s []).any (inB x)
theorem Dd6{l:List Cho}{p:Cho->Bool}:(((l.countP p:Nat):Int)==((l.length:Nat):Int))=l.all p:=by
 rw[Bool.eq_iff_iff];simp only[beq_iff_eq,List.all_eq_true];rw[show((l.countP p:Nat):Int)=(l.length:Int)↔l.countP p=l.length by omega,List.countP_eq_length]
theorem Bl7{l:List Cho}{p:Cho->Bool}:decide (((l.countP p:Nat):Int)>0)=l.any p:=by
 rw[Bool.eq_iff_iff];simp only[decide_eq_true_eq,List.any_eq_true];rw[show((l.countP p:Nat):Int)>0↔0<l.countP p by omega,List.countP_pos_iff]
theorem Ed1{m:Mdl}(h:okM m){s x f:Nat}(hs:s<m.own.length)(hx:x<18446744073709551616)(hf:13<=f){tg:Int}{mo:Bool}{z:Int}:Dj0 f (s:Int) (x:Int) m.own (m.ch.map eL) tg mo z=some (kpZ m mo s x):=by
 obtain⟨hl,e,_,h4,hc⟩:=X3 h hs;unfold Dj0 kpZ;cases mo with
 |true=>
  simp only[cond_true];refine sbe (Av1 h hs hx hf) (sbe (x:=m.ch[s].map eC) (by rw[D4 hl];rfl) ?_);rw[List.length_map,List.length_map,e,Dd6]
 |false=>
  simp only[cond_false];refine sbe (Av1 h hs hx hf) ?_;rw[Bl7]
theorem Ei2{m:Mdl}(h:okM m){s x f:Nat}(hs:s<m.own.length)(hx:x<18446744073709551616)(hf:13<=f){tg:Int}{mo:Bool}{z:Int}:Fu5 f (s:Int) (x:Int) m.own (m.ch.map eL) tg mo z=some (kpC m s x):=by
 unfold Fu5 kpC;refine sbe (Av1 h hs hx hf) ?_;rw[Bl7]
def sub(a b:Nat):Prop:=∀i,a.testBit i=true->b.testBit i=true
theorem Br6{x y:Nat}(h:sub x y){c:Cho}(hc:inB x c=true):inB y c=true:=by
 unfold inB at hc⊢;rw[List.all_eq_true]at hc⊢;exact fun b hb=>h _ (hc b hb)
theorem Cx1{m:Mdl}{mo:Bool}{s x y:Nat}(h:sub x y)(hk:kpZ m mo s x=true):kpZ m mo s y=true:=by
 unfold kpZ at hk⊢;cases mo with
 |true=>
  simp only[cond_true,List.all_eq_true]at hk⊢;exact fun c hc=>Br6 h (hk c hc)
 |false=>
  simp only[cond_false,List.any_eq_true]at hk⊢;obtain⟨c,h1,h2⟩:=hk;exact⟨c,h1,Br6 h h2⟩
theorem El8{m:Mdl}{s x y:Nat}(h:sub x y)(hk:kpC m s x=true):kpC m s y=true:=Cx1 (mo:=false) h hk
theorem Ai9{a b:Nat}(h:sub a b):a<=b:=by
 have:a=a&&&b:=Ag2 fun i=>by
  rw[Nat.testBit_and];cases ha:a.testBit i with
  |false=>rfl
  |true=>rw[h i ha];rfl
 rw[this];exact Nat.and_le_right
theorem Cf2{a b:Nat}(h:sub a b)(hne:a≠b):a<b:=Nat.lt_of_le_of_ne (Ai9 h) hne
theorem sd1{x i:Nat}(hx:x<4096)(hi:i<12):(∀j,(sd x (2^i)).testBit j=(x.testBit j&& !decide (i=j)))/\sd x (2^i)<4096:=by
 have h2:2^i<=2^12:=Nat.pow_le_pow_right (by decide) (by omega);have hb:∀j,(sd x (2^i)).testBit j=(x.testBit j&& !decide (i=j)):=fun j=>by rw[Bg8 (by omega) (by omega),Nat.testBit_two_pow]
 refine⟨hb,Nat.lt_of_le_of_lt (Ai9 (b:=x) fun j hj=> ?_) hx⟩;rw[hb,Bool.and_eq_true]at hj;exact hj.1
structure Shr(n:Nat)(kp:Nat->Nat->Bool)(x y:Nat):Prop where
 sb:sub y x
 keep:∀s,s<n->y.testBit s=true->kp s y=true
 top:∀w,sub w x->(∀s,s<n->w.testBit s=true->kp s w=true)->sub w y
theorem Ea6{n f:Nat}{kp:Nat->Nat->Bool}(hn:n<=12)(hf:13<=f)(mono:∀s x y,sub x y->kp s x=true->kp s y=true){L2:Int->(Int->Option Int)->Nat->Int->Option Int}{L1:Nat->Int->Option Int}
 (e1:∀k v,L1 (k+1) v=L2 v (L1 k) f 0)
 (e2:∀(v:Nat) cL k (i:Nat),v<4096->i<n->L2 (v:Int) cL (k+1) (i:Int)=bif v.testBit i&& !kp i v then cL (sd v (2^i):Int) else L2 (v:Int) cL k ((i+1:Nat):Int))
 (e3:∀(v:Int) cL k,L2 v cL (k+1) (n:Int)=some v):∀(k x:Nat),x<k->x<4096->∃y:Nat,L1 k (x:Int)=some (y:Int)/\Shr n kp x y
 |0,_,h,_=>absurd h (by omega)
 |k+1,x,hk,hx=>by
  have key:∀(r i q:Nat),i+r=n->r<q->(∀s,s<i->x.testBit s=true->kp s x=true)->∃y:Nat,L2 (x:Int) (L1 k) q (i:Int)=some (y:Int)/\Shr n kp x y:=by
   intro r
   induction r with
   |zero=>
    intro i q hi hq hs;obtain⟨q,rfl⟩:∃j,q=j+1:=⟨q-1,by omega⟩
    obtain rfl:i=n:=by omega
    exact⟨x,e3 _ _ _,fun i h=>h,hs,fun w hw _=>hw⟩
   |succ r ih=>
    intro i q hi hq hs;obtain⟨q,rfl⟩:∃j,q=j+1:=⟨q-1,by omega⟩
    rw[e2 x _ q i hx (by omega)];cases hb:x.testBit i&& !kp i x with
    |false=>
     simp only[cond_false];refine ih (i+1) q (by omega) (by omega) fun s h1 h2=> ?_
     by_cases e:s=i
     ·subst e;rw[h2,Bool.true_and]at hb;simpa using hb
     ·exact hs s (by omega) h2
    |true=>
     simp only[cond_true];rw[Bool.and_eq_true]at hb;obtain⟨b1,b2⟩:=sd1 hx (show i<12 by omega);have hsub:sub (sd x (2^i)) x:=fun j hj=>by rw[b1,Bool.and_eq_true]at hj;exact hj.1
     have hlt:sd x (2^i)<x:=Cf2 hsub fun e=>by
      have:=b1 i;rw[e,hb.1]at this;simp at this
     obtain⟨y,h1,h2⟩:=Ea6 hn hf mono e1 e2 e3 k (sd x (2^i)) (by omega) b2;refine⟨y,h1,fun j hj=>hsub j (h2.sb j hj),h2.keep,fun w hw hkw=>h2.top w (fun j hj=> ?_) hkw⟩;rw[b1,hw j hj,Bool.true_and];by_cases e:i=j
     ·subst e;have:=mono i w x hw (hkw i (by omega) hj);rw[this]at hb;simp at hb
     ·simp[e]
  rw[e1];exact key n 0 f (by omega) (by omega) fun s h=>absurd h (by omega)
theorem Hp0{m:Mdl}(h:okM m){f:Nat}(hf:5000<=f){tg:Int}{mo:Bool}{z:Int}{x:Nat}(hx:x<4096):∃y:Nat,Di8 f (x:Int) m.own (m.ch.map eL) tg mo z=some (y:Int)/\Shr m.own.length (kpZ m mo) x y:=by
 have h12:=h.n12;unfold Di8;refine Ea6 (f:=f) (kp:=kpZ m mo) (L1:=Af7 f m.own (m.ch.map eL) tg mo z) (L2:=fun v cL k i=>Z2 f m.own (m.ch.map eL) tg mo z v cL k i) h12 (by omega) (fun s x y=>Cx1) (fun k v=>rfl) (fun v cL k i hv hi=> ?_) (fun v cL k=> ?_) f x (by omega) hx
 ·skip
  rw[Z2,dT_ (by simp;omega)];simp only[cond_true];rw[E1 (dT_ (by omega)),T2 (by omega) (by omega)];cases hb:v.testBit i with
  |false=>
   simp only[Bool.false_eq_true,if_false,show((0:Int)==1)=false from rfl,cond_false,Bool.false_and,sb];rw[wi i (by omega)]
  |true=>
   simp only[if_true,show((1:Int)==1)=true from rfl,cond_true,Bool.true_and];rw[Ed1 h hi (by omega) (by omega),sb,sb];cases kpZ m mo i v with
   |true=>
    simp only[Bool.not_true,cond_false];rw[wi i (by omega)]
   |false=>
    simp only[Bool.not_false,cond_true];rw[E1 (dT_ (by omega)),Bn0 (by omega),Ea4]
 ·skip
  rw[Z2,dF_ (by simp)];rfl
theorem Hg9{m:Mdl}(h:okM m){f:Nat}(hf:5000<=f){tg:Int}{mo:Bool}{z:Int}{x:Nat}(hx:x<4096):∃y:Nat,Di9 f (x:Int) m.own (m.ch.map eL) tg mo z=some (y:Int)/\Shr m.own.length (kpC m) x y:=by
 have h12:=h.n12;unfold Di9;refine Ea6 (f:=f) (kp:=kpC m) (L1:=Af8 f m.own (m.ch.map eL) tg mo z) (L2:=fun v cL k i=>Z3 f m.own (m.ch.map eL) tg mo z v cL k i) h12 (by omega) (fun s x y=>El8) (fun k v=>rfl) (fun v cL k i hv hi=> ?_) (fun v cL k=> ?_) f x (by omega) hx
 ·skip
  rw[Z3,dT_ (by simp;omega)];simp only[cond_true];rw[E1 (dT_ (by omega)),T2 (by omega) (by omega)];cases hb:v.testBit i with
  |false=>
   simp only[Bool.false_eq_true,if_false,show((0:Int)==1)=false from rfl,cond_false,Bool.false_and,sb];rw[wi i (by omega)]
  |true=>
   simp only[if_true,show((1:Int)==1)=true from rfl,cond_true,Bool.true_and];rw[Ei2 h hi (by omega) (by omega),sb,sb];cases kpC m i v with
   |true=>
    simp only[Bool.not_true,cond_false];rw[wi i (by omega)]
   |false=>
    simp only[Bool.not_false,cond_true];rw[E1 (dT_ (by omega)),Bn0 (by omega),Ea4]
 ·skip
  rw[Z3,dF_ (by simp)];rfl
theorem p12{n:Nat}(h:n<=12):2^n<=4096:=Nat.pow_le_pow_right (n:=2) (by decide) h
theorem Cv1{m:Mdl}(h:okM m){tg:Int}{mo:Bool}{z:Int}:Fs1 m.own (m.ch.map eL) tg mo z=some ((2^m.own.length-1:Nat):Int):=by
 have h12:=h.n12;unfold Fs1;rw[List.length_map,E1 (dT_ (by omega)),Cm6 (by omega)]
theorem Db8{m:Mdl}(h:okM m){f:Nat}(hf:5000<=f){tg:Nat}{mo:Bool}{z:Int}(ht:tg<4096):∃y:Nat,Fs0 f m.own (m.ch.map eL) (tg:Int) mo z=some (y:Int)/\Shr m.own.length (kpZ m mo) (sd (2^m.own.length-1) tg) y:=by
 have h12:=p12 h.n12;have hlt:sd (2^m.own.length-1) tg<4096:=Nat.lt_of_le_of_lt (Ai9 (b:=2^m.own.length-1) fun j hj=>by rw[Bg8 (by omega) (by omega),Bool.and_eq_true]at hj;exact hj.1) (by omega);obtain⟨y,h1,h2⟩:=Hp0 h hf (tg:=(tg:Int)) (mo:=mo) (z:=z) hlt;refine⟨y,?_,h2⟩;unfold Fs0;refine sbe (Cv1 h) ?_;rw[Ea4,h1,sb]
end
end Go.Proofs.YtdlnalepibeibaaGreatDoor
end
