/- SandwichNarrows holds: whatever the input, the call returns true, and what came in reads as it did. No condition. -/
import Derived.Test.YtdlnalepibeibaaGreatDoorRows
import Derived.Test.YtdlnalepibeibaaGreatDoorTie
import Derived.Test.YtdlnalepibeibaaGreatDoorCards
import Derived.WalkKit
import Derived.ShutString
import Derived.ChangeOld
import Derived.Test.YtdlnalepibeibaaGreatDoorNaf
section
namespace Go.Proofs.YtdlnalepibeibaaGreatDoor
open Go Go.RowKit Kx Go.IntKind
set_option maxRecDepth 100000
section
def Ed5(p:Nat->Bool):Nat->Nat
 |0=>0
 |n+1=>if p n then Ed5 p n|||2^n else Ed5 p n
theorem Ay3{p:Nat->Bool}:∀(n i:Nat),(Ed5 p n).testBit i=(decide (i<n)&&p i)
 |0,i=>by simp[Ed5]
 |n+1,i=>by
  rw[Ed5];by_cases h:p n=true
  ·rw[if_pos h,Nat.testBit_or,Ay3 n i,Nat.testBit_two_pow];by_cases e:n=i
   ·subst e;simp[h]
   ·by_cases e2:i<n
    ·simp[e2,e];omega
    ·simp[e2,e];omega
  ·rw[if_neg h,Ay3 n i];by_cases e:n=i
   ·subst e;simp[h]
   ·by_cases e2:i<n
    ·simp[e2];omega
    ·simp[e2];omega
theorem Fh3{p:Nat->Bool}(n:Nat):Ed5 p n<2^n:=Bm6 fun i h=>by rw[Ay3]at h;simp at h;exact h.1
def Fp5(m:Mdl)(y s t:Nat):Prop:=s<m.own.length/\∃c∈m.ch.getD s [],inB y c=true/\∃b∈c.next,b.1.toNat=t
inductive Rch (m:Mdl) (y s:Nat):Nat->Prop
 |refl:Rch m y s s
 |step {t u:Nat} (h:Rch m y s t) (k:Fp5 m y t u):Rch m y s u
theorem Rch.trans{m:Mdl}{y s t u:Nat}(h:Rch m y s t)(k:Rch m y t u):Rch m y s u:=by
 induction k with
 |refl=>exact h
 |step _ k ih=>exact ih.step k
theorem Rch.mono{m:Mdl}{x y s t:Nat}(hs:sub x y)(h:Rch m x s t):Rch m y s t:=by
 induction h with
 |refl=>exact .refl
 |step _ k ih=>
  obtain⟨h1,c,h2,h3,h4⟩:=k;exact ih.step ⟨h1,c,h2,Br6 hs h3,h4⟩
open Classical in
noncomputable def rB (m:Mdl) (y s t:Nat):Bool:=decide (Rch m y s t)
theorem Cx2{m:Mdl}{y s t:Nat}:rB m y s t=true↔Rch m y s t:=by unfold rB;simp
theorem or1{v t:Nat}(hv:v<4096)(ht:t<12):v|||2^t<4096:=by
 have h2:2^t<2^12:=Nat.pow_lt_pow_right (by decide) ht;exact Nat.or_lt_two_pow (n:=12) hv h2
section
variable {m:Mdl} {y s:Nat}
def Bu5(m:Mdl)(y s v:Nat):Prop:=v<4096/\∀t,v.testBit t=true->Rch m y s t
theorem Dy0(h:okM m)(hy:y<18446744073709551616){f:Nat}(hf:13<=f){t:Nat}(ht:t<m.own.length)(hst:Rch m y s t){c:Cho}(hc:c∈m.ch.getD t []){j:Nat}(hj:j<=100){cL:Int->Int->Option Int}:∀(r i k v:Nat),i+r=c.next.length->r<k->Bu5 m y s v->
 ∃w,Bu5 m y s w/\sub v w/\(inB y c=true->∀b∈c.next.drop i,w.testBit b.1.toNat=true)/\Q8 f (y:Int) (j:Int) (eC c) cL k (v:Int) (i:Int)=cL (w:Int) ((j+1:Nat):Int)
 |_,_,0,_,_,h,_=>absurd h (by omega)
 |0,i,k+1,v,hi,_,hv=>by
  refine⟨v,hv,fun _ h=>h,fun _ b hb=> ?_,?_⟩
  ·rw[List.drop_of_length_le (by omega)]at hb;cases hb
  ·unfold Q8;rw[decide_eq_false (by simp[eC];omega),wi j (by omega)];rfl
 |r+1,i,k+1,v,hi,hk,hv=>by
  have hil:i<c.next.length:=by omega
  obtain⟨hl,e,_,h4,hcc⟩:=U4 h ht;have hct:=(hcc c (by rw[<-e];exact hc)).1;have h12:=hct.1;obtain⟨h0,h1⟩:=hct.2 _ (List.getElem_mem hil);obtain⟨u,hu⟩:=Int.eq_ofNat_of_zero_le h0;rw[hu,Int.toNat_natCast]at h1;have run:Q8 f (y:Int) (j:Int) (eC c) cL (k+1) (v:Int) (i:Int)=bif inB y c then Q8 f (y:Int) (j:Int) (eC c) cL k ((v|||2^u:Nat):Int) ((i+1:Nat):Int) else Q8 f (y:Int) (j:Int) (eC c) cL k (v:Int) ((i+1:Nat):Int):=by
   rw[Q8,decide_eq_true (by simp[eC];omega)];simp only[cond_true];refine sbe (x:=eB c.next[i]) (by rw[show(eC c).Next=c.next.map eB from rfl,D2 hil]) (sbe (Bu9 hy hct hf) ?_);have h2:2^u<2^12:=Nat.pow_lt_pow_right (by decide) h1;cases inB y c with
   |true=>
    simp only[cond_true];rw[show(eB c.next[i]).To=(u:Int) from hu,E1 (decide_eq_true (by omega)),Bm8 (by omega),Fn2 (by have:=hv.1;omega) (by omega)];unfold As5;rw[wi i (by omega)]
   |false=>
    simp only[cond_false];unfold As5;rw[wi i (by omega)]
  rw[run];cases hin:inB y c with
  |true=>
   simp only[cond_true];have hv':Bu5 m y s (v|||2^u):=⟨or1 hv.1 h1,fun t' ht'=>by
    rw[Nat.testBit_or,Nat.testBit_two_pow,Bool.or_eq_true,decide_eq_true_eq]at ht';rcases ht' with h'|h'
    ·exact hv.2 _ h'
    ·subst h';exact hst.step ⟨ht,c,hc,hin,c.next[i],List.getElem_mem hil,by rw[hu];rfl⟩⟩
   obtain⟨w,w1,w2,w3,w4⟩:=Dy0 h hy hf ht hst hc hj (cL:=cL) r (i+1) k _ (by omega) (by omega) hv';refine⟨w,w1,fun q hq=>w2 q (by rw[Nat.testBit_or,hq];rfl),fun _ b hb=> ?_,w4⟩;rw[List.drop_eq_getElem_cons hil]at hb;rcases List.mem_cons.1 hb with rfl|hb
   ·rw[hu];exact w2 u (by rw[Nat.testBit_or,Nat.testBit_two_pow];simp)
   ·exact w3 hin b hb
  |false=>
   simp only[cond_false];obtain⟨w,w1,w2,w3,w4⟩:=Dy0 h hy hf ht hst hc hj (cL:=cL) r (i+1) k _ (by omega) (by omega) hv;exact⟨w,w1,w2,fun e=>(by cases e),w4⟩
theorem Ex8(h:okM m)(hy:y<18446744073709551616){f:Nat}(hf:14<=f){t:Nat}(ht:t<m.own.length)(hst:Rch m y s t){cL:Int->Int->Option Int}:∀(r i k v:Nat),i+r=(m.ch.getD t []).length->r<k->Bu5 m y s v->
 ∃w,Bu5 m y s w/\sub v w/\(∀c∈(m.ch.getD t []).drop i,inB y c=true->∀b∈c.next,w.testBit b.1.toNat=true)/\W5 f (y:Int) (t:Int) ((m.ch.getD t []).map eC) cL k (v:Int) (i:Int)=cL (w:Int) ((t+1:Nat):Int)
 |_,_,0,_,_,h,_=>absurd h (by omega)
 |0,i,k+1,v,hi,_,hv=>by
  have h12:=h.n12;refine⟨v,hv,fun _ h=>h,fun c hc=> ?_,?_⟩
  ·rw[List.drop_of_length_le (by omega)]at hc;cases hc
  ·unfold W5;rw[decide_eq_false (by rw[List.length_map,List.length_map];omega)];simp only[cond_false];unfold As4;rw[wi t (by omega)]
 |r+1,i,k+1,v,hi,hk,hv=>by
  obtain⟨hl,e,_,h4,hcc⟩:=U4 h ht;have hil:i<(m.ch.getD t []).length:=by omega
  have hcm:=List.getElem_mem hil;have hct:=(hcc _ (by rw[<-e];exact hcm)).1;have h12:=hct.1;have h4':(m.ch.getD t []).length<=4:=by rw[e];exact h4
  obtain⟨w,w1,w2,w3,w4⟩:=Dy0 h hy (show 13<=f by omega) ht hst hcm (j:=i) (by omega) (cL:=W5 f (y:Int) (t:Int) ((m.ch.getD t []).map eC) cL k) (m.ch.getD t [])[i].next.length 0 f v (by omega) (by omega) hv;obtain⟨x,x1,x2,x3,x4⟩:=Ex8 h hy hf ht hst (cL:=cL) r (i+1) k w (by omega) (by omega) w1;refine⟨x,x1,fun q hq=>x2 q (w2 q hq),fun c hc hin b hb=> ?_,?_⟩
  ·rw[List.drop_eq_getElem_cons hil]at hc;rcases List.mem_cons.1 hc with rfl|hc
   ·exact x2 _ (w3 hin b hb)
   ·exact x3 c hc hin b hb
  ·unfold W5;rw[decide_eq_true (by rw[List.length_map,List.length_map];omega)];simp only[cond_true];refine sbe (x:=eC (m.ch.getD t [])[i]) (by rw[D2 hil]) ?_;exact w4.trans x4
theorem Dx9(h:okM m)(hy:y<18446744073709551616){f:Nat}(hf:14<=f){old:Nat}(ho:Bu5 m y s old){cL:Int->Int->Option Int}:∀(r i k v:Nat),i+r=m.own.length->r<k->Bu5 m y s v->
 ∃w,Bu5 m y s w/\sub v w/\(∀t,i<=t->old.testBit t=true->∀u,Fp5 m y t u->w.testBit u=true)/\M7 f (y:Int) m.own (m.ch.map eL) (old:Int) cL k (v:Int) (i:Int)=cL (w:Int) (old:Int)
 |_,_,0,_,_,h,_=>absurd h (by omega)
 |0,i,k+1,v,hi,_,hv=>by
  refine⟨v,hv,fun _ h=>h,fun t ht _ u hu=>absurd hu.1 (by omega),?_⟩;unfold M7;rw[decide_eq_false (by simp;omega)];rfl
 |r+1,i,k+1,v,hi,hk,hv=>by
  have h12:=h.n12;have hin:i<m.own.length:=by omega
  obtain⟨hl,e,_,h4,hcc⟩:=U4 h hin;have ho1:=ho.1;cases hbit:old.testBit i with
  |false=>
   obtain⟨x,x1,x2,x3,x4⟩:=Dx9 h hy hf ho (cL:=cL) r (i+1) k v (by omega) (by omega) hv;refine⟨x,x1,x2,fun t ht hot=> ?_,?_⟩
   ·rcases Nat.lt_or_ge i t with h'|h'
    ·exact x3 t h' hot
    ·obtain rfl:t=i:=by omega
     rw[hbit]at hot;cases hot
   ·unfold M7;rw[decide_eq_true (by simp;omega)];simp only[cond_true];rw[E1 (decide_eq_true (by omega)),R4 (by omega) (by omega),hbit];simp only[Bool.false_eq_true,if_false,show((0:Int)==0)=true from rfl,cond_true];unfold As4;rw[wi i (by omega)];exact x4
  |true=>
   obtain⟨w,w1,w2,w3,w4⟩:=Ex8 h hy hf hin (ho.2 i hbit) (cL:=M7 f (y:Int) m.own (m.ch.map eL) (old:Int) cL k) (m.ch.getD i []).length 0 f v (by omega) (by rw[e];omega) hv;obtain⟨x,x1,x2,x3,x4⟩:=Dx9 h hy hf ho (cL:=cL) r (i+1) k w (by omega) (by omega) w1;refine⟨x,x1,fun q hq=>x2 q (w2 q hq),fun t ht hot u hu=> ?_,?_⟩
   ·rcases Nat.lt_or_ge i t with h'|h'
    ·exact x3 t h' hot u hu
    ·obtain rfl:t=i:=by omega
     obtain⟨_,c,hc,hinb,b,hb,rfl⟩:=hu;exact x2 _ (w3 c hc hinb b hb)
   ·unfold M7;rw[decide_eq_true (by simp;omega)];simp only[cond_true];rw[E1 (decide_eq_true (by omega)),R4 (by omega) (by omega),hbit];simp only[if_true,show((1:Int)==0)=false from rfl,cond_false];refine sbe (x:=(m.ch.getD i []).map eC) (by rw[D2 hl,e];rfl) ?_;exact w4.trans x4
theorem Ex7(h:okM m)(hy:y<18446744073709551616){f:Nat}(hf:5000<=f):∀(k v old:Nat),4096<k+v->Bu5 m y s v->sub old v->v.testBit s=true->(old≠v->True)->(∀t,old.testBit t=true->∀u,Fp5 m y t u->v.testBit u=true)->
 ∃w:Nat,w<4096/\(∀t,w.testBit t=rB m y s t)/\O2 f (y:Int) m.own (m.ch.map eL) k (v:Int) (old:Int)=some (w:Int)
 |0,v,old,hk,hv,_,_,_,_=>absurd hv.1 (by omega)
 |k+1,v,old,hk,hv,hs,hvs,_,hcl=>by
  have h12:=h.n12;unfold O2;by_cases e:old=v
  ·subst e;refine⟨old,hv.1,fun t=> ?_,by rw[show(((old:Int)) !=(old:Int))=false by simp];rfl⟩;rw[Bool.eq_iff_iff,Cx2];refine⟨hv.2 t,fun hr=> ?_⟩
   induction hr with
   |refl=>exact hvs
   |step _ k ih=>exact hcl _ ih _ k
  ·rw[show((old:Int) !=(v:Int))=true by simp;omega];simp only[cond_true];obtain⟨w,w1,w2,w3,w4⟩:=Dx9 h hy (show 14<=f by omega) hv (cL:=O2 f (y:Int) m.own (m.ch.map eL) k) m.own.length 0 f v (by omega) (by omega) hv;by_cases e2:v=w
   ·subst e2;cases k with
    |zero=>exact absurd w1.1 (by omega)
    |succ k=>
     refine⟨v,w1.1,fun t=> ?_,w4.trans (by unfold O2;rw[show(((v:Int)) !=(v:Int))=false by simp];rfl)⟩;rw[Bool.eq_iff_iff,Cx2];refine⟨hv.2 t,fun hr=> ?_⟩
     induction hr with
     |refl=>exact hvs
     |step _ k ih=>exact w3 _ (Nat.zero_le _) ih _ k
   ·have hlt:=Ce9 w2 e2;obtain⟨x,x1,x2,x3⟩:=Ex7 h hy hf k w v (by omega) w1 w2 (w2 s hvs) (fun _=>trivial) (fun t ht u hu=>w3 t (Nat.zero_le _) ht u hu);exact⟨x,x1,x2,w4.trans x3⟩
theorem Bm9(h:okM m)(hy:y<18446744073709551616){f:Nat}(hf:5000<=f)(hs:s<m.own.length){tg:Int}{mo:Bool}{z:Int}:∃w:Nat,w<4096/\(∀t,w.testBit t=rB m y s t)/\Fq7 f (s:Int) (y:Int) m.own (m.ch.map eL) tg mo z=some (w:Int):=by
 have h12:=h.n12;have h2:2^s<2^12:=Nat.pow_lt_pow_right (by decide) (by omega);have h3:0<2^s:=Nat.pow_pos (by decide);obtain⟨w,w1,w2,w3⟩:=Ex7 (s:=s) h hy hf f (2^s) 0 (by omega) ⟨h2,fun t ht=>by
  rw[Nat.testBit_two_pow,decide_eq_true_eq]at ht;subst ht;exact .refl⟩ (fun i hi=>by rw[Nat.zero_testBit]at hi;cases hi) (by rw[Nat.testBit_two_pow];simp) (fun _=>trivial) (fun t ht=>by rw[Nat.zero_testBit]at ht;cases ht)
 refine⟨w,w1,w2,?_⟩;unfold Fq7;rw[E1 (decide_eq_true (by omega)),Bm8 (by omega)];exact w3
end
end
section
structure isC(m:Mdl)(b:Nat):Prop where
 ne:b≠0
 keep:∀s,s<m.own.length->b.testBit s=true->kpC m s b=true
 all:∀s t,b.testBit s=true->b.testBit t=true->Rch m b s t
def dsj(a b:Nat):Prop:=∀i,a.testBit i=true->b.testBit i=true->False
structure Fu2(m:Mdl)(x:Nat)(bs:List Nat):Prop where
 sb:∀b∈bs,sub b x
 cs:∀b∈bs,isC m b
 dj:bs.Pairwise dsj
 top:∀c,isC m c->sub c x->∃b∈bs,sub c b
theorem Bq3:∀(bs:List Nat) (x:Nat),x<18446744073709551616->(∀b∈bs,sub b x/\b≠0)->bs.Pairwise dsj->bs.length<=x
 |[],_,_,_,_=>Nat.zero_le _
 |b::bs,x,hx,h,hd=>by
  obtain⟨h1,h2⟩:=List.pairwise_cons.1 hd;obtain⟨b1,b2⟩:=h b List.mem_cons_self;have hb:b<18446744073709551616:=Nat.lt_of_le_of_lt (Aj1 b1) hx;have hlt:sd x b<x:=Ce9 (fun i hi=>by rw[Af3 hx hb,Bool.and_eq_true]at hi;exact hi.1) (fun e=>by
   obtain⟨i,hi⟩:=Bx4 b2;have:=Af3 (a:=x) (b:=b) (i:=i) hx hb;rw[e,hi,b1 i hi]at this;simp at this)
  have:=Bq3 bs (sd x b) (by omega) (fun c hc=>⟨fun i hi=>by
   rw[Af3 hx hb,(h c (List.mem_cons_of_mem _ hc)).1 i hi,Bool.true_and];cases hbi:b.testBit i with
   |false=>rfl
   |true=>exact(h1 c hc i hbi hi).elim,(h c (List.mem_cons_of_mem _ hc)).2⟩) h2
  simp only[List.length_cons];omega
section
variable {m:Mdl} {y:Nat}
noncomputable def part (m:Mdl) (y s:Nat):Nat:=Ed5 (fun t=>y.testBit t&&rB m y s t&&rB m y t s) m.own.length
theorem W2{s t:Nat}(hy:y<2^m.own.length):(part m y s).testBit t=true↔y.testBit t=true/\Rch m y s t/\Rch m y t s:=by
 unfold part;rw[Ay3,Bool.and_eq_true,Bool.and_eq_true,Bool.and_eq_true,Cx2,Cx2,decide_eq_true_eq];exact⟨fun h=>⟨h.2.1.1,h.2.1.2,h.2.2⟩,fun h=>⟨Dn8 hy h.1,⟨h.1,h.2.1⟩,h.2.2⟩⟩
theorem Bt3{s t:Nat}(hy:y<2^m.own.length)(h:(part m y s).testBit t=true):part m y t=part m y s:=by
 obtain⟨_,h1,h2⟩:=(W2 hy).1 h;refine Ag3 fun i=> ?_
 rw[Bool.eq_iff_iff,W2 hy,W2 hy];exact⟨fun k=>⟨k.1,h1.trans k.2.1,k.2.2.trans h2⟩,fun k=>⟨k.1,h2.trans k.2.1,k.2.2.trans h1⟩⟩
theorem Cd0{s:Nat}(hy:y<2^m.own.length)(hs:y.testBit s=true):(part m y s).testBit s=true:=(W2 hy).2 ⟨hs,.refl,.refl⟩
theorem Ab0{s:Nat}(hy:y<2^m.own.length):sub (part m y s) y:=fun _ h=>((W2 hy).1 h).1
theorem En2{s t:Nat}(hy:y<2^m.own.length)(h:(part m y s).testBit t=false)(ht:y.testBit t=true):dsj (part m y s) (part m y t):=fun i h1 h2=>by
 have e1:=Bt3 hy h1;have e2:=Bt3 hy h2;have:(part m y s).testBit t=true:=by rw[<-e1,e2];exact Cd0 hy ht
 rw[h]at this;cases this
structure Inv(m:Mdl)(y i:Nat)(l:List Nat):Prop where
 cs:∀b∈l,isC m b/\∃s,s<i/\y.testBit s=true/\(∀j,j<s->(part m y s).testBit j=false)/\sub b (part m y s)
 dj:l.Pairwise dsj
 top:∀s,s<i->y.testBit s=true->∀c,isC m c->sub c (part m y s)->∃b∈l,sub c b
theorem Ei3(hy:y<2^m.own.length)(h12:m.own.length<=12){d1:List Int}{d2:List (List A1)}{d3:Int}{d4:Bool}{d5:Int}{s v48:Nat}(hs:s<12)(h48:v48<4096){rec_:Int->List Int->List (List A1)->Int->Bool->Int->Option (List Int)}{cL:Int->List Int->Option (List Int)}{l:List Nat}(hl:l.length<=5000)(hb:∀b∈l,b<4096){res:Option (List Int)}
 (h1:(∃b∈l,b.testBit s=true)->cL ((s+1:Nat):Int) (l.map fun(b:Nat)=>(b:Int))=res)
 (h2:(∀b∈l,b.testBit s=false)->(∀j,j<s->v48.testBit j=false)->(Option.bind (rec_ (v48:Int) d1 d2 d3 d4 d5) fun y235=>Option.bind (app (l.map fun(b:Nat)=>(b:Int)) y235) fun l11=>cL ((s+1:Nat):Int) l11)=res)
 (h3:(∀b∈l,b.testBit s=false)->(∃j,j<s/\v48.testBit j=true)->cL ((s+1:Nat):Int) (l.map fun(b:Nat)=>(b:Int))=res):
 ∀(r i k:Nat),i+r=l.length->r<k->(∀b∈l.take i,b.testBit s=false)->An6 d1 d2 d3 d4 d5 (l.map fun(b:Nat)=>(b:Int)) (s:Int) (v48:Int) rec_ cL k (i:Int)=res
 |_,_,0,_,h,_=>absurd h (by omega)
 |0,i,k+1,hi,_,hn=>by
  have h2p:2^s<2^12:=Nat.pow_lt_pow_right (by decide) hs;have h0p:0<2^s:=Nat.pow_pos (by decide);rw[List.take_of_length_le (by omega)]at hn;unfold An6;rw[decide_eq_false (by simp;omega)];simp only[cond_false];rw[E1 (decide_eq_true (by omega)),Cm0 (by omega),Es0 (by omega) (by omega)];unfold An5;rw[wi s (by omega)];by_cases e:∀j,j<s->v48.testBit j=false
  ·have:v48&&&(2^s-1)=0:=Ag3 fun j=>by
    rw[Nat.testBit_and,Az2,Nat.zero_testBit];by_cases hj:j<s
    ·rw[e j hj];rfl
    ·simp[hj]
   rw[this];exact h2 hn e
  ·have hex:∃j,j<s/\v48.testBit j=true:=by
    simp only[Classical.not_forall]at e;obtain⟨j,h1,h2⟩:=e;exact⟨j,h1,by simpa using h2⟩
   obtain⟨j,hj1,hj2⟩:=hex;rw[show((((v48&&&(2^s-1):Nat):Int))==0)=false from beq_false_of_ne (fun e0=>by
    have e0:v48&&&(2^s-1)=0:=by omega
    have:=Nat.testBit_and v48 (2^s-1) j;rw[e0,Nat.zero_testBit,hj2,Az2,decide_eq_true hj1]at this;cases this)]
   exact h3 hn ⟨j,hj1,hj2⟩
 |r+1,i,k+1,hi,hk,hn=>by
  have hil:i<l.length:=by omega
  have hbi:=hb _ (List.getElem_mem hil);unfold An6;rw[decide_eq_true (by simp;omega)];simp only[cond_true];refine sbe (D2 hil) ?_;rw[E1 (decide_eq_true (by omega)),R4 (by omega) (by omega)];cases hbit:l[i].testBit s with
  |true=>
   simp only[if_true,show((1:Int)==1)=true from rfl,cond_true];unfold An5;rw[wi s (by omega)];exact h1 ⟨_,List.getElem_mem hil,hbit⟩
  |false=>
   simp only[Bool.false_eq_true,if_false,show((0:Int)==1)=false from rfl,cond_false];rw[wi i (by omega)];refine Ei3 hy h12 hs h48 hl hb h1 h2 h3 r (i+1) k (by omega) (by omega) fun b hb'=> ?_
   rw[List.take_succ_eq_append_getElem hil]at hb';rcases List.mem_append.1 hb' with h|h
   ·exact hn b h
   ·rw[List.mem_singleton]at h;rw[h];exact hbit
theorem Gb4(h:okM m)(hy:y<2^m.own.length){f:Nat}(hf:5000<=f){tg:Int}{mo:Bool}{z:Int}{s:Nat}(hs:y.testBit s=true){rec_:Int->List Int->List (List A1)->Int->Bool->Int->Option (List Int)}{cL:Int->List Int->Option (List Int)}{l8:List Int}:∀(r i k:Nat),i+r=m.own.length->r<k->
 Ai1 f m.own (m.ch.map eL) tg mo z l8 (s:Int) (y:Int) rec_ cL k ((Ed5 (fun t=>y.testBit t&&rB m y s t&&rB m y t s) i:Nat):Int) (i:Int)=(bif part m y s==y then some [(y:Int)] else An6 m.own (m.ch.map eL) tg mo z l8 (s:Int) ((part m y s:Nat):Int) rec_ cL f 0)
 |_,_,0,_,h=>absurd h (by omega)
 |0,i,k+1,hi,_=>by
  obtain rfl:i=m.own.length:=by omega
  unfold Ai1;rw[decide_eq_false (by simp)];simp only[cond_false];rw[show((((Ed5 (fun t=>y.testBit t&&rB m y s t&&rB m y t s) m.own.length:Nat):Int))==(y:Int))=(part m y s==y) by
   unfold part;rw[Bool.eq_iff_iff,beq_iff_eq,beq_iff_eq];omega]
  rfl
 |r+1,i,k+1,hi,hk=>by
  have h12:=h.n12;have h12':=p12 h.n12;have hin:i<m.own.length:=by omega
  have hsn:=Dn8 hy hs;have h2:2^i<2^12:=Nat.pow_lt_pow_right (by decide) (by omega);have hv:=Nat.lt_of_lt_of_le (Fh3 (p:=fun t=>y.testBit t&&rB m y s t&&rB m y t s) i) (Nat.le_of_lt h2);obtain⟨w1,a1,a2,a3⟩:=Bm9 (y:=y) h (by omega) hf hsn (tg:=tg) (mo:=mo) (z:=z);obtain⟨w2,b1,b2,b3⟩:=Bm9 (y:=y) h (by omega) hf hin (tg:=tg) (mo:=mo) (z:=z);have ih:=Gb4 h hy hf hs (tg:=tg) (mo:=mo) (z:=z) (rec_:=rec_) (cL:=cL) (l8:=l8) r (i+1) k (by omega) (by omega);unfold Ai1;rw[decide_eq_true (by simp;omega)];simp only[cond_true];refine sbe (x:=y.testBit i&&rB m y s i&&rB m y i s) ?_ ?_
  ·rw[E1 (decide_eq_true (by omega)),R4 (by omega) (by omega)];cases y.testBit i with
   |false=>rfl
   |true=>
    simp only[if_true,show((1:Int)==1)=true from rfl,cond_true,Bool.true_and];rw[a3,sb,E1 (decide_eq_true (by omega)),R4 (by omega) (by omega),a2 i];cases rB m y s i with
    |false=>rfl
    |true=>
     simp only[if_true,show((1:Int)==1)=true from rfl,cond_true,Bool.true_and];rw[b3,sb,E1 (decide_eq_true (by omega)),R4 (by omega) (by omega),b2 s];cases rB m y i s<;>rfl
  ·rw[Ed5]at ih;cases hp:y.testBit i&&rB m y s i&&rB m y i s with
   |true=>
    rw[if_pos hp]at ih;simp only[cond_true];rw[E1 (decide_eq_true (by omega)),Bm8 (by omega),Fn2 (by omega) (by omega)];unfold Bk1;rw[wi i (by omega)];exact ih
   |false=>
    rw[if_neg (by rw[hp];decide)]at ih;simp only[cond_false];unfold Bk1;rw[wi i (by omega)];exact ih
theorem Es1{α:Type}{a b:List α}(h:a.length+b.length<=2147483648):app a b=some (a++b):=by
 unfold app;rw[decide_eq_true h];rfl
theorem Gf2(h:okM m)(hy:y<2^m.own.length){c s:Nat}(hc:isC m c)(hs:c.testBit s=true)(hsub:sub c y):sub c (part m y s):=fun i hi=>
 (W2 hy).2 ⟨hsub i hi,(hc.all s i hs hi).mono hsub,(hc.all i s hi hs).mono hsub⟩
theorem Shr.uniq{n:Nat}{kp:Nat->Nat->Bool}{x y z:Nat}(h:Shr n kp x y)(k:Shr n kp x z):y=z:=
 Ag3 fun i=>Bool.eq_iff_iff.2 ⟨k.top y h.sb h.keep i,h.top z k.sb k.keep i⟩
theorem Do5(h:okM m){x:Nat}(hx:x<4096)(hS:Shr m.own.length (kpC m) x y)(hy:y<2^m.own.length){tg:Int}{mo:Bool}{z:Int}{g:Nat->List Nat}
 (hg:∀p,sub p y->p≠y->Fu2 m p (g p)):
 ∀(r i:Nat) (l:List Nat),i+r=m.own.length->Inv m y i l->(∀s,s<i->y.testBit s=true->part m y s≠y)->∃bs,Fu2 m x bs/\∀(f:Nat),5000<=f->∀(rec_:Int->List Int->List (List A1)->Int->Bool->Int->Option (List Int)),(∀p,sub p y->p≠y->rec_ (p:Int) m.own (m.ch.map eL) tg mo z=some ((g p).map fun(b:Nat)=>(b:Int)))->∀k,r<k->
  N9 f m.own (m.ch.map eL) tg mo z (y:Int) rec_ k (i:Int) (l.map fun(b:Nat)=>(b:Int))=some (bs.map fun(b:Nat)=>(b:Int))
 |0,i,l,hi,hI,_=>by
  obtain rfl:i=m.own.length:=by omega
  refine⟨l,⟨fun b hb=> ?_,fun b hb=>(hI.cs b hb).1,hI.dj,fun c hc hcx=> ?_⟩,fun f hf rec_ hrec k hk=> ?_⟩
  ·obtain⟨_,s,_,_,_,hsb⟩:=hI.cs b hb;exact fun i hi=>hS.sb i (Ab0 hy i (hsb i hi))
  ·have hcy:=hS.top c hcx hc.keep;obtain⟨s,hs⟩:=Bx4 hc.ne;exact hI.top s (Dn8 hy (hcy s hs)) (hcy s hs) c hc (Gf2 h hy hc hs hcy)
  ·obtain⟨k,rfl⟩:∃j,k=j+1:=⟨k-1,by omega⟩
   unfold N9;rw[decide_eq_false (by simp)];rfl
 |r+1,i,l,hi,hI,hne=>by
  have h12:=h.n12;have h12':=p12 h.n12;have hin:i<m.own.length:=by omega
  have hl:l.length<=y:=Bq3 l y (by omega) (fun b hb=>⟨fun j hj=>by
   obtain⟨_,s,_,_,_,hsb⟩:=hI.cs b hb;exact Ab0 hy j (hsb j hj),(hI.cs b hb).1.ne⟩) hI.dj
  have hlb:∀b∈l,b<4096:=fun b hb=>by
   obtain⟨_,s,_,_,_,hsb⟩:=hI.cs b hb;exact Nat.lt_of_le_of_lt (Aj1 fun j hj=>Ab0 hy j (hsb j hj)) (by omega)
  have head:∀(f:Nat) (rec_:Int->List Int->List (List A1)->Int->Bool->Int->Option (List Int)) (k:Nat),N9 f m.own (m.ch.map eL) tg mo z (y:Int) rec_ (k+1) (i:Int) (l.map fun(b:Nat)=>(b:Int))=bif y.testBit i then(Ai1 f m.own (m.ch.map eL) tg mo z (l.map fun(b:Nat)=>(b:Int)) (i:Int) (y:Int) rec_ (N9 f m.own (m.ch.map eL) tg mo z (y:Int) rec_ k) f 0 0) else N9 f m.own (m.ch.map eL) tg mo z (y:Int) rec_ k ((i+1:Nat):Int) (l.map fun(b:Nat)=>(b:Int)):=fun f rec_ k=>by
   rw[N9,decide_eq_true (by simp;omega)];simp only[cond_true];rw[E1 (decide_eq_true (by omega)),R4 (by omega) (by omega)];cases y.testBit i with
   |false=>
    simp only[Bool.false_eq_true,if_false,show((0:Int)==0)=true from rfl,cond_true,cond_false];unfold An5;rw[wi i (by omega)]
   |true=>rfl
  cases hbit:y.testBit i with
  |false=>
   rw[hbit]at head;obtain⟨bs,e1,e2⟩:=Do5 h hx hS hy (tg:=tg) (mo:=mo) (z:=z) hg r (i+1) l (by omega) ⟨fun b hb=>by
    obtain⟨a,s,b1,b2⟩:=hI.cs b hb;exact⟨a,s,by omega,b2⟩,hI.dj,fun s hs hys=>by
    rcases Nat.lt_or_ge s i with h'|h'
    ·exact hI.top s h' hys
    ·obtain rfl:s=i:=by omega
     rw[hbit]at hys;cases hys⟩ fun s hs hys=>by
    rcases Nat.lt_or_ge s i with h'|h'
    ·exact hne s h' hys
    ·obtain rfl:s=i:=by omega
     rw[hbit]at hys;cases hys
   refine⟨bs,e1,fun f hf rec_ hrec k hk=> ?_⟩;obtain⟨k,rfl⟩:∃j,k=j+1:=⟨k-1,by omega⟩
   rw[head];exact e2 f hf rec_ hrec k (by omega)
  |true=>
   rw[hbit]at head;simp only[cond_true]at head;have h3:=fun(f:Nat) (hf:5000<=f) (rec_:Int->List Int->List (List A1)->Int->Bool->Int->Option (List Int)) (k:Nat)=>Gb4 h hy hf hbit (tg:=tg) (mo:=mo) (z:=z) (rec_:=rec_) (cL:=N9 f m.own (m.ch.map eL) tg mo z (y:Int) rec_ k) (l8:=l.map fun(b:Nat)=>(b:Int)) m.own.length 0 f (by omega) (by omega)
   by_cases he:part m y i=y
   ·refine⟨[y],⟨fun b hb=> ?_,fun b hb=> ?_,by simp,fun c hc hcx=>⟨y,by simp,hS.top c hcx hc.keep⟩⟩,fun f hf rec_ hrec k hk=> ?_⟩
    ·rw[List.mem_singleton]at hb;rw[hb];exact hS.sb
    ·rw[List.mem_singleton]at hb;subst hb;refine⟨fun e=>(by rw[e,Nat.zero_testBit]at hbit;cases hbit),hS.keep,fun s t hs ht=> ?_⟩;rw[<-he]at hs ht;exact((W2 hy).1 hs).2.2.trans ((W2 hy).1 ht).2.1
    ·obtain⟨k,rfl⟩:∃j,k=j+1:=⟨k-1,by omega⟩
     rw[head];refine(h3 f hf rec_ k).trans ?_;rw[beq_iff_eq.2 he];rfl
   ·have hne':∀s,s<i+1->y.testBit s=true->part m y s≠y:=fun s hs hys=>by
     rcases Nat.lt_or_ge s i with h'|h'
     ·exact hne s h' hys
     ·obtain rfl:s=i:=by omega
      exact he
    have keepI:(∃s,s<i/\(part m y i).testBit s=true)->Inv m y (i+1) l:=fun⟨s0,hs0,hp0⟩=>⟨fun b hb=>by
     obtain⟨a,s,b1,b2⟩:=hI.cs b hb;exact⟨a,s,by omega,b2⟩,hI.dj,fun s hs hys=>by
     rcases Nat.lt_or_ge s i with h'|h'
     ·exact hI.top s h' hys
     ·obtain rfl:s=i:=by omega
      rw[<-Bt3 hy hp0];exact hI.top s0 hs0 (Ab0 hy _ hp0)⟩
    have hp4:part m y i<4096:=Nat.lt_of_le_of_lt (Aj1 (Ab0 hy)) (by omega);have hps2:=hg (part m y i) (Ab0 hy) he;have hpl:(g (part m y i)).length<=part m y i:=Bq3 _ _ (by omega) (fun b hb=>⟨hps2.sb b hb,(hps2.cs b hb).ne⟩) hps2.dj;have fin:∀(bs:List Nat),(∀(f:Nat),5000<=f->∀(rec_:Int->List Int->List (List A1)->Int->Bool->Int->Option (List Int)),(∀p,sub p y->p≠y->rec_ (p:Int) m.own (m.ch.map eL) tg mo z=some ((g p).map fun(b:Nat)=>(b:Int)))->∀k,r<k->An6 m.own (m.ch.map eL) tg mo z (l.map fun(b:Nat)=>(b:Int)) (i:Int) ((part m y i:Nat):Int) rec_ (N9 f m.own (m.ch.map eL) tg mo z (y:Int) rec_ k) f 0=some (bs.map fun(b:Nat)=>(b:Int)))->∀(f:Nat),5000<=f->∀(rec_:Int->List Int->List (List A1)->Int->Bool->Int->Option (List Int)),(∀p,sub p y->p≠y->rec_ (p:Int) m.own (m.ch.map eL) tg mo z=some ((g p).map fun(b:Nat)=>(b:Int)))->∀k,r+1<k->
     N9 f m.own (m.ch.map eL) tg mo z (y:Int) rec_ k (i:Int) (l.map fun(b:Nat)=>(b:Int))=some (bs.map fun(b:Nat)=>(b:Int)):=fun bs hb f hf rec_ hrec k hk=>by
     obtain⟨k,rfl⟩:∃j,k=j+1:=⟨k-1,by omega⟩
     rw[head];refine(h3 f hf rec_ k).trans ?_;rw[show(part m y i==y)=false from beq_false_of_ne he];exact hb f hf rec_ hrec k (by omega)
    by_cases c1:∃b∈l,b.testBit i=true
    ·obtain⟨b,hb,hbi⟩:=c1;obtain⟨_,s,hs,hys,_,hsb⟩:=hI.cs b hb;obtain⟨bs,e1,e2⟩:=Do5 h hx hS hy (tg:=tg) (mo:=mo) (z:=z) hg r (i+1) l (by omega) (keepI ⟨s,hs,by rw[Bt3 hy (hsb i hbi)];exact Cd0 hy hys⟩) hne';refine⟨bs,e1,fin bs fun f hf rec_ hrec k hk=> ?_⟩;exact Ei3 hy h12 (show i<12 by omega) hp4 (by omega) hlb (fun _=>e2 f hf rec_ hrec k hk) (fun hn=>absurd hbi (by rw[hn b hb];decide)) (fun hn=>absurd hbi (by rw[hn b hb];decide)) l.length 0 f (by omega) (by omega) (by simp)
    ·by_cases c2:∀j,j<i->(part m y i).testBit j=false
     ·have hI2:Inv m y (i+1) (l++g (part m y i)):=by
       refine⟨fun b hb=> ?_,?_,fun s hs hys c hc hcs=> ?_⟩
       ·rcases List.mem_append.1 hb with hb|hb
        ·obtain⟨a,s,b1,b2⟩:=hI.cs b hb;exact⟨a,s,by omega,b2⟩
        ·exact⟨hps2.cs b hb,i,by omega,hbit,c2,hps2.sb b hb⟩
       ·refine List.pairwise_append.2 ⟨hI.dj,hps2.dj,fun a ha b hb j hja hjb=> ?_⟩;obtain⟨_,s,hs,hys,_,hsb⟩:=hI.cs a ha;have hns:(part m y i).testBit s=false:=c2 s hs;exact En2 hy hns hys j (hps2.sb b hb j hjb) (hsb j hja)
       ·rcases Nat.lt_or_ge s i with h'|h'
        ·obtain⟨b,hb,h5⟩:=hI.top s h' hys c hc hcs;exact⟨b,List.mem_append_left _ hb,h5⟩
        ·obtain rfl:s=i:=by omega
         obtain⟨b,hb,h5⟩:=hps2.top c hc hcs;exact⟨b,List.mem_append_right _ hb,h5⟩
      obtain⟨bs,e1,e2⟩:=Do5 h hx hS hy (tg:=tg) (mo:=mo) (z:=z) hg r (i+1) _ (by omega) hI2 hne';refine⟨bs,e1,fin bs fun f hf rec_ hrec k hk=> ?_⟩;exact Ei3 hy h12 (show i<12 by omega) hp4 (by omega) hlb (fun hn=>absurd hn c1) (fun _ _=>by
       rw[hrec _ (Ab0 hy) he,sb,Es1 (by simp;omega),sb,<-List.map_append];exact e2 f hf rec_ hrec k hk) (fun _ ⟨j,hj,hj2⟩=>absurd hj2 (by rw[c2 j hj];decide)) l.length 0 f (by omega) (by omega) (by simp)
     ·have c2':∃j,j<i/\(part m y i).testBit j=true:=by
       simp only[Classical.not_forall]at c2;obtain⟨j,g1,g2⟩:=c2;exact⟨j,g1,by simpa using g2⟩
      obtain⟨bs,e1,e2⟩:=Do5 h hx hS hy (tg:=tg) (mo:=mo) (z:=z) hg r (i+1) l (by omega) (keepI c2') hne';refine⟨bs,e1,fin bs fun f hf rec_ hrec k hk=> ?_⟩;exact Ei3 hy h12 (show i<12 by omega) hp4 (by omega) hlb (fun hn=>absurd hn c1) (fun _ hn=>absurd hn c2) (fun _ _=>e2 f hf rec_ hrec k hk) l.length 0 f (by omega) (by omega) (by simp)
theorem Ei5(h:okM m){tg:Int}{mo:Bool}{z:Int}:∀x,x<2^m.own.length->∃bs,Fu2 m x bs/\∀f,5001+x<=f->F76 f (x:Int) m.own (m.ch.map eL) tg mo z=some (bs.map fun(b:Nat)=>(b:Int)):=by
 intro x;have h12':=p12 h.n12
 induction x using Nat.strongRecOn with
 |_ x ih=>
  intro hx;obtain⟨y,_,hy2⟩:=Hg4 h (Nat.le_refl 5000) (tg:=tg) (mo:=mo) (z:=z) (show x<4096 by omega);have hyx:=Aj1 hy2.sb;have hex:∀p,∃bs,sub p y->p≠y->Fu2 m p bs/\∀f,5001+p<=f->F76 f (p:Int) m.own (m.ch.map eL) tg mo z=some (bs.map fun(b:Nat)=>(b:Int)):=fun p=>by
   by_cases hp:sub p y/\p≠y
   ·have:=Ce9 hp.1 hp.2;obtain⟨bs,k⟩:=ih p (by omega) (by omega);exact⟨bs,fun _ _=>k⟩
   ·exact⟨[],fun a b=>absurd ⟨a,b⟩ hp⟩
  obtain⟨g,hg⟩:=Classical.axiomOfChoice hex;obtain⟨bs,e1,e2⟩:=Do5 (tg:=tg) (mo:=mo) (z:=z) (g:=g) h (by omega) hy2 (by omega) (fun p a b=>(hg p a b).1) m.own.length 0 [] (by omega) ⟨fun b hb=>(by cases hb),.nil,fun s hs=>absurd hs (by omega)⟩ (fun s hs=>absurd hs (by omega));refine⟨bs,e1,fun f hf=> ?_⟩;obtain⟨f,rfl⟩:∃j,f=j+1:=⟨f-1,by omega⟩
  obtain⟨y',hy1',hy2'⟩:=Hg4 h (show 5000<=f by omega) (tg:=tg) (mo:=mo) (z:=z) (show x<4096 by omega);obtain rfl:=hy2'.uniq hy2;rw[F76];exact sbe hy1' (e2 f (by omega) _ (fun p a b=>(hg p a b).2 f (by have:=Ce9 a b;omega)) f (by have:=h.n12;omega))
end
end
section
theorem Eo7:∀k,F11 (k+206)=some true:=by intro k;kernel_rfl
def rnd(m:Mdl)(tg:Nat)(mo:Bool)(z:Nat)(bs:List Nat)(up:Bool):Nat->List Rat
 |0=>bif up then(List.range m.own.length).map fun s=>if z.testBit s then 0 else 1 else bgn m tg
 |k+1=>nx m tg mo z bs up (rnd m tg mo z bs up k)
section
variable {m:Mdl} {tg z:Nat} {mo:Bool} {bs:List Nat}
theorem Bu3{up:Bool}:∀k,(rnd m tg mo z bs up k).length=m.own.length
 |0=>by unfold rnd;cases up<;>simp[bgn]
 |k+1=>by rw[rnd,Gg5]
theorem Ds2(h:okM m){k:Nat}(hk:k<=61):szs (gP m) (gP m^k) (12^k):=Gz7 (Aw7 h).1 (Aw7 h).2.1 hk
theorem Cd5(h:okM m)(hbs:∀b∈bs,b<18446744073709551616){up:Bool}:∀k,k<=61->∀x∈rnd m tg mo z bs up k,fr (gP m^k) (12^k) x
 |0,_,x,hx=>by
  unfold rnd at hx;cases up with
  |true=>
   simp only[cond_true]at hx;obtain⟨s,_,rfl⟩:=List.mem_map.1 hx;split
   ·exact Al8 (Al9 (by simp)) (by decide)
   ·exact Cu3 (by simp)
  |false=>
   simp only[cond_false]at hx;obtain⟨s,_,rfl⟩:=List.mem_map.1 hx;split
   ·exact Cu3 (by simp)
   ·exact Al8 (Al9 (by simp)) (by decide)
 |k+1,hk,x,hx=>by
  rw[rnd]at hx;have:=Gy2 (tg:=tg) (mo:=mo) (z:=z) h (Bu3 k) (Cd5 h hbs k (by omega)) (Ds2 h (show k<=61 by omega)) (Nat.pow_pos (by decide)) hbs x hx
  rwa [<-Nat.pow_succ,<-Nat.pow_succ']at this
theorem Ey1(h:okM m)(hbs:∀b∈bs,b<18446744073709551616){up:Bool}{k:Nat}(hk:k<=61):∀x∈rnd m tg mo z bs up k,rs x:=fun x hx=>(Ax2 (Ds2 h hk)).1 (Cd5 h hbs k hk x hx)
theorem Fl1{D B p q L:Nat}{r:Rat}(h:fr D B r)(hD:D<=10^p)(hB:B<=10^q)(hpq:p+q<L):Cf6 (L:Int) r=true:=by
 obtain⟨h1,h2⟩:=Ds0 h hD hB hpq;have e:((10^L:Nat):Int)=(10:Int)^L:=by push_cast;rfl
 refine(Ap1 (k:=L) (by omega)).2 ⟨?_,?_⟩
 ·have:=Ad7 h10 (n:=(r.num.natAbs:Int)) (by omega);have h3:=E9 h10 h1;unfold lt at h3;have:(r.num.natAbs:Int)<10^L:=Int.lt_of_lt_of_le this h3;omega
 ·have:=Ad7 h10 (n:=(r.den:Int)) (by omega);have h3:=E9 h10 h2;unfold lt at h3;rw[Int.natAbs_natCast]at h3;have:(r.den:Int)<10^L:=Int.lt_of_lt_of_le this h3;omega
theorem Fo0(h:okM m)(hbs:∀b∈bs,b<18446744073709551616){up:Bool}{k:Nat}(hk:k<=61):∀x∈rnd m tg mo z bs up k,Cf6 2000 x=true:=fun x hx=>by
 have h1:=Cd5 h hbs k hk x hx;obtain⟨a,b,_⟩:=Aw7 h;refine Fl1 (L:=2000) (p:=4*k) (q:=2*k) h1 ?_ ?_ (by omega)
 ·rw[Nat.pow_mul];exact Nat.pow_le_pow_left (by omega) _
 ·rw[Nat.pow_mul];exact Nat.pow_le_pow_left (by decide) _
theorem Ct5{l:List Rat}(hl:l.length<=1000000)(hr:∀x∈l,rs x)(hf:∀x∈l,Cf6 2000 x=true):
 ∀(r i:Nat),i+r=l.length->Ev fun f=>∀k,r<k->Ba8 f (l.map R) k (i:Int) ((l.take i).map T)=some (l.map T,true)
 |0,i,hi=>Ev.of fun f k hk=>by
  obtain⟨k,rfl⟩:∃j,k=j+1:=⟨k-1,by omega⟩
  unfold Ba8;rw[decide_eq_false (by simp;omega),List.take_of_length_le (by omega)];rfl
 |r+1,i,hi=>by
  have hil:i<l.length:=by omega
  refine((Gs7 (hr l[i] (List.getElem_mem hil))).and (Ct5 hl hr hf r (i+1) (by omega))).mono fun f h k hk=> ?_
  obtain⟨h1,h3⟩:=h;obtain⟨k,rfl⟩:∃j,k=j+1:=⟨k-1,by omega⟩
  have hrs:=hr l[i] (List.getElem_mem hil);unfold Ba8;rw[decide_eq_true (by simp;omega)];simp only[cond_true];refine sbe (D2 hil) (sbe (Br4 ⟨Nat.le_trans hrs.1 (by decide),Nat.le_trans hrs.2 (by decide)⟩) ?_);rw[hf _ (List.getElem_mem hil)];simp only[Bool.not_true,cond_false];refine sbe h1 (sbe (Es1 (by simp;omega)) ?_);rw[wi i (by omega)];have:=h3 k (by omega)
  rwa [List.take_add_one,List.getElem?_eq_getElem hil,Option.toList_some,List.map_append]at this
theorem Dr5{l:List Rat}(hl:l.length<=1000000)(hr:∀x∈l,rs x)(hf:∀x∈l,Cf6 2000 x=true):Ev fun f=>F41 f (l.map R)=some (l.map T,true):=by
 refine((Ct5 hl hr hf l.length 0 (by omega)).and (Ev.ge 1000001)).mono fun f h=> ?_
 obtain⟨h1,h2⟩:=h;unfold F41;refine sbe (x:=[]) ?_ (h1 f (by omega));simp only[List.length_map];unfold mkL;rw[show(decide ((0:Int)<=0)&&decide ((0:Int)<=((l.length:Nat):Int))&&decide (((l.length:Nat):Int)<=2147483648))=true by simp;omega];rfl
theorem Gr1{f:Nat}(h:10<=f):cap 10 f=10:=by
 obtain⟨k,rfl⟩:∃k,f=k+10:=⟨f-10,by omega⟩
 rfl
theorem Ho4{z i:Nat}(hz:z<18446744073709551616)(hi:i<64):i64.wrap (u64.wrap (BitVec.ofInt u64.bits 1&&& ~~~BitVec.ofInt u64.bits (Int.fdiv (z:Int) (2^(min (Int.toNat (i:Int)) u64.bits)))).toNat)=if z.testBit i then 0 else 1:=by
 have h1:Int.fdiv (z:Int) (2^(min (Int.toNat (i:Int)) u64.bits))=((z/2^i:Nat):Int):=by
  have:min (Int.toNat (i:Int)) u64.bits=i:=by simp[IntKind.bits];omega
  rw[this,Int.fdiv_eq_ediv_of_nonneg _ (by exact_mod_cast Nat.zero_le _)];norm_cast
 have hd:z/2^i<18446744073709551616:=Nat.lt_of_le_of_lt (Nat.div_le_self _ _) hz;have h2:sd 1 (z/2^i)=if z.testBit i then 0 else 1:=by
  refine Ag3 fun j=> ?_
  rw[Af3 (by decide) hd,Nat.testBit_div_two_pow];by_cases hj:j=0
  ·subst hj;rw[Nat.zero_add];cases z.testBit i<;>rfl
  ·have:(1:Nat).testBit j=false:=by
    rw[show(1:Nat)=2^0 from rfl,Nat.testBit_two_pow];exact decide_eq_false (by omega)
   rw[this,Bool.false_and];split
   ·rw[Nat.zero_testBit]
   ·exact this.symm
 have h3:=Dz9 1 (z/2^i);rw[h1];rw[show((1:Nat):Int)=1 from rfl]at h3;rw[h3,h2];split<;>rfl
def prs(m:Mdl)(tg:Nat)(mo:Bool)(z:Nat)(bs:List Nat):Nat->Nat->List (List A2×List A2)
 |0,_=>[]
 |n+1,i=>((rnd m tg mo z bs false i).map R,(rnd m tg mo z bs true i).map R)::prs m tg mo z bs n (i+1)
theorem Cd8(h:okM m)(hbs:∀b∈bs,b<18446744073709551616)(hbl:bs.length<=1000000)(ht:tg<18446744073709551616)(hz2:z<18446744073709551616):
 ∀(n i:Nat),i+n<=61->Ev fun f=>Bj7 f (sV m tg mo z bs) n ((rnd m tg mo z bs false i).map R) ((rnd m tg mo z bs true i).map R)=some (prs m tg mo z bs n i)
 |0,i,_=>Ev.of fun f=>rfl
 |n+1,i,hi=>by
  have hn:∀up,Ev fun f=>F79 f (sV m tg mo z bs) ((rnd m tg mo z bs up i).map R) up=some ((rnd m tg mo z bs up (i+1)).map R):=fun up=>Fm7 h (Bu3 i) (Cd5 h hbs i (by omega)) (Ds2 h (by omega)) hbs hbl ht hz2
  refine(((hn false).and (hn true)).and (Cd8 h hbs hbl ht hz2 n (i+1) (by omega))).mono fun f hh=> ?_
  obtain⟨⟨h1,h2⟩,h3⟩:=hh;unfold Bj7;exact sbe (sbe h1 (sbe h2 h3)) rfl
theorem Cd7(h:okM m)(hbs:∀b∈bs,b<18446744073709551616)(hbl:bs.length<=1000000)(ht:tg<18446744073709551616)(hz2:z<18446744073709551616){z0:A2}{l1:List A2}(h1:l1.length=m.own.length):
 ∀(r i:Nat),i+r=m.own.length->Ev fun f=>∀k,r<k->Ba7 f (sV m tg mo z bs) l1 k (i:Int) (fil (fun s=>R (if z.testBit s then 0 else 1)) z0 m.own.length i) (fil (fun s=>R (if tg.testBit s then 1 else 0)) z0 m.own.length i)=some (prs m tg mo z bs 10 0)
 |0,i,hi=>by
  refine((Cd8 (mo:=mo) h hbs hbl ht hz2 10 0 (by omega)).and (Ev.ge 10)).mono fun f hh k hk=> ?_
  obtain⟨k,rfl⟩:∃j,k=j+1:=⟨k-1,by omega⟩
  obtain rfl:i=m.own.length:=by omega
  unfold Ba7;rw[decide_eq_false (by simp[h1]),El1,El1,Gr1 hh.2];simp only[cond_false];have:=hh.1;simp only[rnd,bgn,cond_true,cond_false,List.map_map]at this;exact this
 |r+1,i,hi=>by
  have hil:i<m.own.length:=by omega
  have h12:=h.n12;refine((Gm2.and He1).and (Cd7 h hbs hbl ht hz2 (z0:=z0) h1 r (i+1) (by omega))).mono fun f hh k hk=> ?_
  obtain⟨⟨e0,e1⟩,h3⟩:=hh;obtain⟨k,rfl⟩:∃j,k=j+1:=⟨k-1,by omega⟩
  have g1:(fil (fun s=>R (if tg.testBit s then 1 else 0)) z0 m.own.length i).set (0+Int.toNat (i:Int)) (R (if tg.testBit i then 1 else 0))=fil (fun s=>R (if tg.testBit s then 1 else 0)) z0 m.own.length (i+1):=by rw[tn];exact Bd6 hil
  have g2:(fil (fun s=>R (if z.testBit s then 0 else 1)) z0 m.own.length i).set (0+Int.toNat (i:Int)) (R (if z.testBit i then 0 else 1))=fil (fun s=>R (if z.testBit s then 0 else 1)) z0 m.own.length (i+1):=by rw[tn];exact Bd6 hil
  unfold Ba7;rw[decide_eq_true (by simp[h1];omega)];simp only[cond_true];rw[show(sV m tg mo z bs).target=(tg:Int) from rfl,show(sV m tg mo z bs).zero=(z:Int) from rfl,E1 (decide_eq_true (by omega)),R4 ht (by omega)];refine sbe (x:=R (if tg.testBit i then 1 else 0)) ?_ ?_
  ·cases hbit:tg.testBit i with
   |true=>exact e1
   |false=>exact e0
  rw[E1 (decide_eq_true (by omega)),Ho4 hz2 (by omega)];refine sbe (x:=R (if z.testBit i then 0 else 1)) ?_ (sbe (Az1 hil) (sbe rfl (sbe (Az1 hil) (sbe rfl ?_))))
  ·cases hbit:z.testBit i with
   |true=>exact e0
   |false=>exact e1
  ·rw[g1,g2,wi i (by omega)];exact h3 k (by omega)
theorem Dz0(h:okM m)(hbs:∀b∈bs,b<18446744073709551616)(hbl:bs.length<=1000000)(ht:tg<18446744073709551616)(hz2:z<18446744073709551616):Ev fun f=>F39 f (sV m tg mo z bs)=some (prs m tg mo z bs 10 0):=by
 have h12:=h.n12;refine((Cd7 (mo:=mo) h hbs hbl ht hz2 (z0:=(⟨(⟨false,[]⟩:A3),(⟨false,[]⟩:A3)⟩:A2)) (l1:=List.replicate m.own.length (⟨(⟨false,[]⟩:A3),(⟨false,[]⟩:A3)⟩:A2)) (by simp) m.own.length 0 (by omega)).and (Ev.ge 13)).mono fun f hh=> ?_
 obtain⟨h1,h2⟩:=hh;unfold F39;simp only[List.length_map,show(sV m tg mo z bs).Model.Owner=m.own from rfl];refine sbe (Bf1 (by omega) _) (sbe (Bf1 (by omega) _) ?_);have:=h1 f (by omega)
 rwa [El0,El0]at this
theorem Cv0{l:List Int}(hl:l.length<=1000000)(h0:∀x∈l,x=0):∀(r i k:Nat),i+r=l.length->r<k->Ak3 l 1 k (i:Int)=some (-1)
 |0,i,k,hi,hk=>by
  obtain⟨k,rfl⟩:∃j,k=j+1:=⟨k-1,by omega⟩
  unfold Ak3;rw[decide_eq_false (by simp;omega)];rfl
 |r+1,i,k,hi,hk=>by
  obtain⟨k,rfl⟩:∃j,k=j+1:=⟨k-1,by omega⟩
  have hil:i<l.length:=by omega
  unfold Ak3;rw[decide_eq_true (by simp;omega)];simp only[cond_true];refine sbe (C7 hil) ?_;rw[h0 _ (List.getElem_mem hil),wi i (by omega)];exact Cv0 hl h0 r (i+1) k (by omega) (by omega)
theorem Dt7(h:okM m)(h0:∀x∈m.own,x=0):Ev fun f=>F62 f (eM m)=some true:=by
 have h12:=h.n12;refine((Cb5 h).and (Ev.ge 13)).mono fun f hh=> ?_
 unfold F62 Gj7 Gj9;refine sbe (sbe hh.1 ?_) rfl;rw[show(eM m).Owner=m.own from rfl];simp only[show((0:Int)==0)=true from rfl,cond_true];have:=Cv0 (by omega) h0 m.own.length 0 f (by omega) (by omega);rw[show((0:Nat):Int)=0 from rfl]at this;rw[this];rfl
theorem Eo5(h:okM m)(h0:∀x∈m.own,x=0)(ht:tg<2^m.own.length):Ev fun f=>F34 f (eM m) (tg:Int)=some 0:=by
 have h12:=h.n12;refine((Cb5 h).and (Dt7 h h0)).mono fun f hh=> ?_
 unfold F34;refine sbe hh.1 ?_;simp only[show((0:Int) !=0)=false from rfl,cond_false];refine sbe hh.2 ?_;simp only[Bool.not_true,cond_false];rw[List.length_map,show(eM m).Owner=m.own from rfl,E1 (decide_eq_true (by omega))];have h1:Int.fdiv (tg:Int) (2^(min (Int.toNat (m.own.length:Int)) u64.bits))=0:=by
  have:min (Int.toNat (m.own.length:Int)) u64.bits=m.own.length:=by simp[IntKind.bits];omega
  rw[this,Int.fdiv_eq_ediv_of_nonneg _ (by exact_mod_cast Nat.zero_le _)];have:((tg:Int)/2^m.own.length)=((tg/2^m.own.length:Nat):Int):=by norm_cast
  rw[this,Nat.div_eq_of_lt ht];rfl
 rw[h1];rfl
structure okV(m:Mdl)(tg:Nat)(mo:Bool)(z:Nat)(bs:List Nat):Prop where
 zr:Shr m.own.length (kpZ m mo) (sd (2^m.own.length-1) tg) z
 cm:mo=true->Fu2 m (sd (2^m.own.length-1) (tg|||z)) bs
 nb:mo=false->bs=[]
theorem Au8(h:okM m){x:Nat}(hx:x<18446744073709551616):sd (2^m.own.length-1) x<2^m.own.length:=by
 have hp:=p12 h.n12;have h0:0<2^m.own.length:=Nat.pow_pos (by decide);refine Bm6 fun i hi=> ?_
 rw[Af3 (by omega) hx,Az2]at hi;simp at hi;exact hi.1
theorem Cc5(h:okM m)(hv:okV m tg mo z bs)(ht:tg<2^m.own.length):z<2^m.own.length/\∀b∈bs,b<2^m.own.length:=by
 have hp:=p12 h.n12;have hz:z<2^m.own.length:=Nat.lt_of_le_of_lt (Aj1 hv.zr.sb) (Au8 h (by omega));refine⟨hz,fun b hb=> ?_⟩;cases hmo:mo with
 |true=>
  have:=(hv.cm hmo).sb b hb;refine Nat.lt_of_le_of_lt (Aj1 this) (Au8 h ?_);have:=Nat.or_lt_two_pow ht hz;omega
 |false=>rw[hv.nb hmo]at hb;cases hb
theorem Fn1(h:okM m)(hv:okV m tg mo z bs)(ht:tg<2^m.own.length):bs.length<=1000000:=by
 have hp:=p12 h.n12;have hz:=(Cc5 h hv ht).1;cases hmo:mo with
 |true=>
  have hr:=Au8 h (x:=tg|||z) (by have:=Nat.or_lt_two_pow ht hz;omega);have hc:=hv.cm hmo;have:=Bq3 bs _ (Nat.lt_of_lt_of_le hr (by omega)) (fun b hb=>⟨hc.sb b hb,(hc.cs b hb).ne⟩) hc.dj;omega
 |false=>rw[hv.nb hmo];decide
theorem Dz7(h:okM m)(mo:Bool)(ht:tg<2^m.own.length):∃z bs,okV m tg mo z bs/\Ev fun f=>F38 f (eM m) (tg:Int) mo=some (sV m tg mo z bs):=by
 have hp:=p12 h.n12;obtain⟨z,hz1,hz2⟩:=Da1 h (f:=5000) (Nat.le_refl _) (mo:=mo) (z:=0) (show tg<4096 by omega);have hz:∀f,5000<=f->Fs1 f m.own (m.ch.map eL) (tg:Int) mo 0=some (z:Int):=fun f hf=>by
  obtain⟨y,h1,h2⟩:=Da1 h hf (mo:=mo) (z:=0) (show tg<4096 by omega);rw[h1,h2.uniq hz2]
 have hzl:z<2^m.own.length:=Nat.lt_of_le_of_lt (Aj1 hz2.sb) (Au8 h (by omega));cases hmo:mo with
 |false=>
  subst hmo;refine⟨z,[],⟨hz2,fun e=>(by cases e),fun _=>rfl⟩,Ev.from_ 5000 fun f hf=> ?_⟩;unfold F38;refine sbe (hz f hf) rfl
 |true=>
  subst hmo;have hol:=Nat.or_lt_two_pow ht hzl;obtain⟨bs,hb1,hb2⟩:=Ei5 h (tg:=(tg:Int)) (mo:=true) (z:=(z:Int)) (sd (2^m.own.length-1) (tg|||z)) (Au8 h (by omega));refine⟨z,bs,⟨hz2,fun _=>hb1,fun e=>(by cases e)⟩,Ev.from_ 20000 fun f hf=> ?_⟩;unfold F38;refine sbe (hz f (by omega)) ?_;simp only[cond_true];refine sbe (Cu0 h) ?_;rw[Fn2 (by omega) (by omega),Dz9];have hr:=Au8 h (x:=tg|||z) (by omega);exact sbe (hb2 f (by omega)) rfl
theorem Cr8(h:okM m)(hbs:∀b∈bs,b<18446744073709551616):∀(n i k:Nat),i+n<=61->k<n->Ev fun f=>An2 f (prs m tg mo z bs n i) (k:Int)=some ((rnd m tg mo z bs false (i+k)).map T,(rnd m tg mo z bs true (i+k)).map T,0)
 |0,_,_,_,hk=>absurd hk (by omega)
 |n+1,i,0,hi,_=>by
  have h12:=h.n12;have ht:∀up,Ev fun f=>F41 f ((rnd m tg mo z bs up i).map R)=some ((rnd m tg mo z bs up i).map T,true):=fun up=>Dr5 (by rw[Bu3];omega) (Ey1 h hbs (by omega)) (Fo0 h hbs (by omega))
  refine((ht false).and (ht true)).mono fun f hh=> ?_
  unfold An2 prs;exact sbe hh.1 (sbe hh.2 rfl)
 |n+1,i,k+1,hi,hk=>by
  refine(Cr8 h hbs n (i+1) k (by omega) (by omega)).mono fun f hh=> ?_
  unfold An2 prs;show(bif ((k+1:Nat):Int)==0 then _ else An2 f (prs m tg mo z bs n (i+1)) (i64.wrap (((k+1:Nat):Int)-1)))=_;rw[beq_false_of_ne (show((k+1:Nat):Int)≠0 by omega)];simp only[cond_false];rw[E7 (i:=((k+1:Nat):Int)-1) (by omega) (by omega),show((k+1:Nat):Int)-1=(k:Int) by omega,hh,show i+1+k=i+(k+1) by omega]
theorem Dg0(h:okM m)(h0:∀x∈m.own,x=0)(ht:tg<2^m.own.length)(mo:Bool):∃z bs,okV m tg mo z bs/\∀k:Nat,k<10->Ev fun f=>F14 f (eM m) (tg:Int) mo (k:Int)=some ((rnd m tg mo z bs false k).map T,(rnd m tg mo z bs true k).map T,0):=by
 have hp:=p12 h.n12;obtain⟨z,bs,hv,hE⟩:=Dz7 h mo ht;obtain⟨hz,hb⟩:=Cc5 h hv ht;have hbs:∀b∈bs,b<18446744073709551616:=fun b hb'=>by have:=hb b hb';omega
 refine⟨z,bs,hv,fun k hk=> ?_⟩;refine(((Eo5 h h0 ht).and hE).and ((Dz0 (mo:=mo) h hbs (Fn1 h hv ht) (show tg<_ by omega) (show z<_ by omega)).and (Cr8 (tg:=tg) (z:=z) (mo:=mo) h hbs 10 0 k (by omega) hk))).mono fun f hh=> ?_
 obtain⟨⟨h1,h2⟩,h3,h4⟩:=hh;unfold F14;refine sbe h1 ?_;simp only[show((0:Int) !=0)=false from rfl,cond_false];rw[decide_eq_false (by omega),decide_eq_false (by omega)];simp only[cond_false,sb];refine sbe h2 (sbe h3 ?_);rw[Nat.zero_add]at h4;exact h4
end
end
section
theorem Fp1{n:Nat}{b:Int}(hn:n<62)(h0:0<=b)(h1:b<18446744073709551616):∃tg:Nat,tg<2^n/\F20 (n:Int) b=some (tg:Int):=by
 have h2:0<2^n:=Nat.pow_pos (by decide);have h3:2^n<=2^62:=Nat.pow_le_pow_right (by decide) (by omega);obtain⟨c,rfl⟩:∃c:Nat,b=(c:Int):=⟨b.toNat,by omega⟩
 refine⟨c&&&(2^n-1),Nat.lt_of_le_of_lt Nat.and_le_right (by omega),?_⟩;unfold F20;rw[E1 (decide_eq_true (by omega)),Cm0 hn,N7 (i:=(c:Int)) (by omega) h1,Es0 (by omega) (by omega)]
theorem Df3{d:B1}(hd:Ae7 d):∃m,okM m/\m.own.length<=5/\(∀x∈m.own,x=0)/\Ev fun f=>F17 f d=some (eM m):=by
 obtain⟨h1,h2,h3,h4,h5⟩:=hd;obtain⟨m,hm,hE⟩:=Ej1 (d:=⟨d.States,0,d.Grain,d.Cents,d.Picks⟩) ⟨h1,(⟨by decide,by decide⟩:(0:Int)<=0/\(0:Int)<256),h3,h4,h5⟩;refine⟨m,hm.ok,?_,fun x hx=> ?_,hE.mono fun f h=> ?_⟩
 ·rw[hm.own];simp only[Bv8,List.length_map,List.length_range];exact(Aw3 _).2
 ·rw[hm.own]at hx;obtain⟨s,_,rfl⟩:=List.mem_map.1 hx;rw[if_neg];show¬(Int.toNat 0).testBit s=true;rw[show Int.toNat 0=0 from rfl,Nat.zero_testBit];decide
 ·unfold F17;exact sbe h rfl
end
section
abbrev at0(v:List Rat)(s:Nat):Rat:=v.getD s 0
theorem Bt1{a x y:Rat}(ha:0<a)(h:x<=y):a*x<=a*y:=Rat.mul_le_mul_of_nonneg_left h (Rat.le_of_lt ha)
theorem Cb8{v w:List Rat}:∀(l:List (Int×Rat)) (x y:Rat),(∀b∈l,0<b.2/\at0 v b.1.toNat<=at0 w b.1.toNat)->x<=y->Ed8 v l x<=Ed8 w l y
 |[],_,_,_,h=>h
 |b::l,x,y,hb,h=>by
  obtain⟨h1,h2⟩:=hb b List.mem_cons_self;have:=Bt1 h1 h2;exact Cb8 l _ _ (fun c hc=>hb c (List.mem_cons_of_mem _ hc)) (by grind)
theorem Dv6{v:List Rat}{M:Rat}:∀(l:List (Int×Rat)) (x y:Rat),(∀b∈l,0<b.2/\at0 v b.1.toNat<=M)->x<=M*y->Ed8 v l x<=M*Cf8 l y
 |[],_,_,_,h=>h
 |b::l,x,y,hb,h=>by
  obtain⟨h1,h2⟩:=hb b List.mem_cons_self;have:=Bt1 h1 h2;exact Dv6 l _ _ (fun c hc=>hb c (List.mem_cons_of_mem _ hc)) (by rw[Rat.mul_add];grind)
theorem Dv5{v:List Rat}:∀(l:List (Int×Rat)) (x:Rat),(∀b∈l,0<b.2/\0<=at0 v b.1.toNat)->x<=Ed8 v l x
 |[],_,_=>Rat.le_refl
 |b::l,x,hb=>by
  obtain⟨h1,h2⟩:=hb b List.mem_cons_self;have:=Bt1 h1 h2;rw[Rat.mul_zero]at this;have h3:=Dv5 l (x+b.2*at0 v b.1.toNat) fun c hc=>hb c (List.mem_cons_of_mem _ hc)
  rw[Ed8];exact Rat.le_trans (by grind) h3
theorem Am5{m:Mdl}(h:okM m){s:Nat}(hs:s<m.own.length){c:Cho}(hc:c∈m.ch.getD s []):(∀b∈c.next,0<b.2/\b.1.toNat<m.own.length)/\Cf8 c.next 0=1:=by
 obtain⟨hl,e,_,_,hall⟩:=U4 h hs;rw[e]at hc;obtain⟨_,h2,h3⟩:=hall c hc;exact⟨fun b hb=>⟨(h3.2.1 b hb).2,(h2.2 b hb).2.2⟩,h3.2.2⟩
section
variable {m:Mdl} {tg z s:Nat} {mo:Bool} {bs:List Nat} {v w:List Rat} {c:Cho}
def lel(m:Mdl)(v w:List Rat):Prop:=∀s,s<m.own.length->at0 v s<=at0 w s
def Gn9(m:Mdl)(v:List Rat):Prop:=∀s,s<m.own.length->0<=at0 v s
def Gn7(m:Mdl)(v:List Rat):Prop:=∀s,s<m.own.length->at0 v s<=1
theorem Az3(h:okM m)(hs:s<m.own.length)(hc:c∈m.ch.getD s [])(hvw:lel m v w):mix v c<=mix w c:=by
 obtain⟨h1,_⟩:=Am5 h hs hc;exact Cb8 _ _ _ (fun b hb=>⟨(h1 b hb).1,hvw _ (h1 b hb).2⟩) Rat.le_refl
theorem Cb9(h:okM m)(hs:s<m.own.length)(hc:c∈m.ch.getD s []){M:Rat}(hM:∀b∈c.next,at0 v b.1.toNat<=M):mix v c<=M:=by
 obtain⟨h1,h2⟩:=Am5 h hs hc;have:=Dv6 (v:=v) (M:=M) c.next 0 0 (fun b hb=>⟨(h1 b hb).1,hM b hb⟩) (by rw[Rat.mul_zero];exact Rat.le_refl);rw[h2,Rat.mul_one]at this;exact this
theorem Gg2(h:okM m)(hs:s<m.own.length)(hc:c∈m.ch.getD s [])(hv:Gn9 m v):0<=mix v c:=by
 obtain⟨h1,h2⟩:=Am5 h hs hc;exact Dv5 _ _ fun b hb=>⟨(h1 b hb).1,hv _ (h1 b hb).2⟩
def btr(mo:Bool)(x y:Rat):Prop:=bif mo then y<=x else x<=y
theorem Eh9{x:Rat}:btr mo x x:=by cases mo<;>exact Rat.le_refl
theorem Bx6{x y z:Rat}(h:btr mo x y)(k:btr mo y z):btr mo x z:=by cases mo;exact Rat.le_trans h k;exact Rat.le_trans k h
theorem Dn7{x y:Rat}:btr mo (bet mo x y) x/\btr mo (bet mo x y) y:=by
 unfold bet;cases mo with
 |true=>
  by_cases h:x<y
  ·rw[if_pos (by simp[h])];exact⟨Rat.le_of_lt h,Rat.le_refl⟩
  ·rw[if_neg (by simp[h])];exact⟨Rat.le_refl,Rat.not_lt.1 h⟩
 |false=>
  by_cases h:x<y
  ·rw[if_neg (by simp[h])];exact⟨Rat.le_refl,Rat.le_of_lt h⟩
  ·rw[if_pos (by simp[h])];exact⟨Rat.not_lt.1 h,Rat.le_refl⟩
theorem Es5{x y:Rat}:bet mo x y=x\/bet mo x y=y:=by unfold bet;split;exact .inr rfl;exact .inl rfl
theorem Ay2:∀(l:List Rat) (o:Option Rat) (x:Rat),bsA mo l o=some x->(x∈l\/o=some x)/\(∀y∈l,btr mo x y)/\∀y,o=some y->btr mo x y
 |[],o,x,h=>⟨.inr h,fun y hy=>(by cases hy),fun y hy=>by rw[show o=some x from h]at hy;cases hy;exact Eh9⟩
 |a::l,none,x,h=>by
  obtain⟨h1,h2,h3⟩:=Ay2 l (some a) x h;refine⟨.inl ?_,fun y hy=> ?_,fun y hy=>(by cases hy)⟩
  ·rcases h1 with h1|h1
   ·exact List.mem_cons_of_mem _ h1
   ·cases h1;exact List.mem_cons_self
  ·rcases List.mem_cons.1 hy with rfl|hy
   ·exact h3 _ rfl
   ·exact h2 y hy
 |a::l,some b,x,h=>by
  obtain⟨h1,h2,h3⟩:=Ay2 l (some (bet mo b a)) x h;have h4:=h3 _ rfl;obtain⟨b1,b2⟩:= @Dn7 mo b a;refine⟨?_,fun y hy=> ?_,fun y hy=> ?_⟩
  ·rcases h1 with h1|h1
   ·exact .inl (List.mem_cons_of_mem _ h1)
   ·cases h1;rcases@Es5 mo b a with e|e
    ·exact .inr (by rw[e])
    ·exact .inl (by rw[e];exact List.mem_cons_self)
  ·rcases List.mem_cons.1 hy with rfl|hy
   ·exact Bx6 h4 b2
   ·exact h2 y hy
  ·cases hy;exact Bx6 h4 b1
def bL(m:Mdl)(mo:Bool)(v:List Rat)(s:Nat):Rat:=(bsL m mo v s).getD 0
theorem Al2(h:okM m)(hs:s<m.own.length):(∃c∈m.ch.getD s [],bL m mo v s=mix v c)/\∀c∈m.ch.getD s [],btr mo (bL m mo v s) (mix v c):=by
 have h1:=Bp0 (mo:=mo) (v:=v) h hs;unfold bL;cases hb:bsL m mo v s with
 |none=>rw[hb]at h1;cases h1
 |some x=>
  obtain⟨h2,h3,_⟩:=Ay2 _ _ _ hb;refine⟨?_,fun c hc=>h3 _ (List.mem_map_of_mem hc)⟩;rcases h2 with h2|h2
  ·obtain⟨c,hc,rfl⟩:=List.mem_map.1 h2;exact⟨c,hc,rfl⟩
  ·cases h2
theorem Cj1(h:okM m)(hs:s<m.own.length)(hvw:lel m v w):bL m mo v s<=bL m mo w s:=by
 obtain⟨⟨c,hc,e⟩,h2⟩:=Al2 (mo:=mo) (v:=v) h hs;obtain⟨⟨d,hd,e'⟩,h3⟩:=Al2 (mo:=mo) (v:=w) h hs;cases mo with
 |true=>rw[e];exact Rat.le_trans (Az3 h hs hc hvw) (h3 c hc)
 |false=>rw[e'];exact Rat.le_trans (h2 d hd) (Az3 h hs hd hvw)
theorem Dn3(h:okM m)(hs:s<m.own.length)(hv:Gn9 m v):0<=bL m mo v s:=by
 obtain⟨⟨c,hc,e⟩,_⟩:=Al2 (mo:=mo) (v:=v) h hs;rw[e];exact Gg2 h hs hc hv
theorem Es3(h:okM m)(hs:s<m.own.length)(hv:Gn7 m v):bL m mo v s<=1:=by
 obtain⟨⟨c,hc,e⟩,_⟩:=Al2 (mo:=mo) (v:=v) h hs;rw[e];exact Cb9 h hs hc fun b hb=>hv _ ((Am5 h hs hc).1 b hb).2
theorem Eh8(h:okM m){b:Nat}:(∀x,bsO m true b v s=some x->(∃c∈m.ch.getD s [],inB b c=false/\x=mix v c)/\∀c∈m.ch.getD s [],inB b c=false->mix v c<=x)/\(bsO m true b v s=none->∀c∈m.ch.getD s [],inB b c=true):=by
 constructor
 ·intro x hx;obtain⟨h2,h3,_⟩:=Ay2 _ _ _ hx;constructor
  ·rcases h2 with h2|h2
   ·obtain⟨c,hc,rfl⟩:=List.mem_map.1 h2;obtain⟨h4,h5⟩:=List.mem_filter.1 hc;exact⟨c,h4,by simpa using h5,rfl⟩
   ·cases h2
  ·intro c hc hb;exact h3 _ (List.mem_map_of_mem (List.mem_filter.2 ⟨hc,by simp[hb]⟩))
 ·intro hx c hc;cases hb:inB b c with
  |true=>rfl
  |false=>
   exfalso;have:(bsO m true b v s).isSome=true:=Ag4 _ _ (.inl fun e=>by
    have:c∈(m.ch.getD s []).filter fun c=> !inB b c:=List.mem_filter.2 ⟨hc,by simp[hb]⟩
    rw[List.map_eq_nil_iff]at e;rw[e]at this;cases this)
   rw[hx]at this;cases this
theorem Bp1(h:okM m){b:Nat}:∀(r i:Nat) (q:Rat),q<=bv m true b v r i q/\(∀j,i<=j->j<i+r->b.testBit j=true->∀c∈m.ch.getD j [],inB b c=false->mix v c<=bv m true b v r i q)/\∀M,q<=M->(∀j,i<=j->j<i+r->b.testBit j=true->∀c∈m.ch.getD j [],inB b c=false->mix v c<=M)->bv m true b v r i q<=M
 |0,i,q=>⟨Rat.le_refl,fun j h1 h2=>absurd h1 (by omega),fun M h1 _=>h1⟩
 |r+1,i,q=>by
  rw[bv];obtain⟨s1,s2⟩:= @Eh8 m i v h b;cases hb:b.testBit i with
  |false=>
   simp only[Bool.false_eq_true,if_false];obtain⟨h1,h2,h3⟩:=Bp1 h r (i+1) q (b:=b);refine⟨h1,fun j ji jr jb=> ?_,fun M hM hj=>h3 M hM fun j ji jr=>hj j (by omega) (by omega)⟩;rcases Nat.lt_or_eq_of_le ji with hlt|rfl
   ·exact h2 j (by omega) (by omega) jb
   ·rw[hb]at jb;cases jb
  |true=>
   simp only[if_true];cases ho:bsO m true b v i with
   |none=>
    obtain⟨h1,h2,h3⟩:=Bp1 h r (i+1) q (b:=b);refine⟨h1,fun j ji jr jb=> ?_,fun M hM hj=>h3 M hM fun j ji jr=>hj j (by omega) (by omega)⟩;rcases Nat.lt_or_eq_of_le ji with hlt|rfl
    ·exact h2 j (by omega) (by omega) jb
    ·intro c hc hcb;rw[s2 ho c hc]at hcb;cases hcb
   |some x=>
    obtain⟨⟨c0,hc0,hb0,e0⟩,s3⟩:=s1 x ho;obtain⟨h1,h2,h3⟩:=Bp1 h r (i+1) (bet true q x) (b:=b);obtain⟨b1,b2⟩:= @Dn7 true q x;refine⟨Rat.le_trans b1 h1,fun j ji jr jb=> ?_,fun M hM hj=>h3 M ?_ fun j ji jr=>hj j (by omega) (by omega)⟩
    ·rcases Nat.lt_or_eq_of_le ji with hlt|rfl
     ·exact h2 j (by omega) (by omega) jb
     ·intro c hc hcb;exact Rat.le_trans (s3 c hc hcb) (Rat.le_trans b2 h1)
    ·rcases@Es5 true q x with e|e
     ·rw[e];exact hM
     ·rw[e,e0];exact hj i (by omega) (by omega) hb c0 hc0 hb0
theorem Ad6(h:okM m){b:Nat}:0<=Dc1 m true b v/\(∀j,j<m.own.length->b.testBit j=true->∀c∈m.ch.getD j [],inB b c=false->mix v c<=Dc1 m true b v)/\∀M,0<=M->(∀j,j<m.own.length->b.testBit j=true->∀c∈m.ch.getD j [],inB b c=false->mix v c<=M)->Dc1 m true b v<=M:=by
 obtain⟨h1,h2,h3⟩:=Bp1 (v:=v) (b:=b) h m.own.length 0 0;exact⟨h1,fun j hj=>h2 j (by omega) (by omega),fun M hM hj=>h3 M hM fun j _ hj'=>hj j (by omega)⟩
theorem Dn9(h:okM m){b:Nat}(hvw:lel m v w):Dc1 m true b v<=Dc1 m true b w:=by
 obtain⟨h1,h2,_⟩:=Ad6 (v:=w) (b:=b) h;exact(Ad6 h).2.2 _ h1 fun j hj hb c hc hcb=>Rat.le_trans (Az3 h hj hc hvw) (h2 j hj hb c hc hcb)
theorem Eh7(h:okM m){b:Nat}(hv:Gn7 m v):Dc1 m true b v<=1:=
 (Ad6 h).2.2 _ (by decide) fun j hj _ c hc _=>Cb9 h hj hc fun b hb=>hv _ ((Am5 h hj hc).1 b hb).2
theorem Co5{b:Nat}{q:Rat}:∀(r i:Nat) (l:List Rat) (s:Nat),s<l.length->at0 (Ea0 b q r i l) s=if b.testBit s=true/\i<=s/\s<i+r then q else at0 l s
 |0,i,l,s,_=>by rw[Ea0,if_neg (by omega)]
 |r+1,i,l,s,hs=>by
  rw[Ea0,Co5 r (i+1) _ s (by split<;>simpa using hs)];by_cases h1:b.testBit s=true/\i+1<=s/\s<i+1+r
  ·rw[if_pos h1,if_pos ⟨h1.1,by omega,by omega⟩]
  ·rw[if_neg h1];by_cases e:s=i
   ·subst e;cases hb:b.testBit s with
    |true=>rw[if_pos rfl,if_pos ⟨rfl,by omega,by omega⟩];simp[at0,hs]
    |false=>simp
   ·have h2:¬(b.testBit s=true/\i<=s/\s<i+(r+1)):=fun h=>h1 ⟨h.1,by omega,by omega⟩
    rw[if_neg h2];cases b.testBit i with
    |true=>
     simp only[if_true];unfold at0;rw[List.getD_eq_getElem?_getD,List.getD_eq_getElem?_getD,List.getElem?_set_ne (Ne.symm e)]
    |false=>rfl
theorem Cm6(h:okM m)(hs:s<m.own.length):∀(bs:List Nat) (l:List Rat),l.length=m.own.length->(∀b∈bs,b.testBit s=false)->at0 (lev m mo v bs l) s=at0 l s
 |[],_,_,_=>rfl
 |b::bs,l,hl,hb=>by
  rw[lev,Cm6 h hs bs _ (by rw[Ah3,hl]) fun c hc=>hb c (List.mem_cons_of_mem _ hc),Co5 _ _ _ _ (by omega),if_neg];rw[hb b List.mem_cons_self];simp
theorem Ew3(h:okM m)(hs:s<m.own.length):∀(bs:List Nat) (l:List Rat),l.length=m.own.length->bs.Pairwise dsj->∀b∈bs,b.testBit s=true->at0 (lev m mo v bs l) s=Dc1 m mo b v
 |[],_,_,_,b,hb,_=>by cases hb
 |a::bs,l,hl,hd,b,hb,hbs=>by
  obtain⟨d1,d2⟩:=List.pairwise_cons.1 hd;rw[lev];rcases List.mem_cons.1 hb with rfl|hb
  ·rw[Cm6 h hs bs _ (by rw[Ah3,hl]) fun c hc=>by
    cases hc':c.testBit s with
    |false=>rfl
    |true=>exact(d1 c hc s hbs hc').elim,Co5 _ _ _ _ (by omega),if_pos ⟨hbs,by omega,by omega⟩]
  ·exact Ew3 h hs bs _ (by rw[Ah3,hl]) d2 b hb hbs
theorem Ex2{up:Bool}(hs:s<m.own.length):at0 (nx0 m tg mo z up v) s=nx1 m tg mo z up v s:=by
 unfold at0 nx0;rw[List.getD_eq_getElem?_getD,List.getElem?_map,List.getElem?_range hs];rfl
theorem Ap5(hs:s<m.own.length):at0 (nx m tg mo z bs false v) s=if tg.testBit s then 1 else bL m mo v s:=by
 unfold nx;simp only[cond_false];rw[Ex2 hs];unfold nx1 bL;simp
theorem S6(h:okM m)(hv:okV m tg mo z bs)(ht:tg<2^m.own.length)(hs:s<m.own.length):(tg.testBit s=true/\∀u,at0 (nx m tg mo z bs true u) s=1)\/(tg.testBit s=false/\z.testBit s=true/\∀u,at0 (nx m tg mo z bs true u) s=0)\/(tg.testBit s=false/\mo=true/\∃b∈bs,b.testBit s=true/\(∀t,b.testBit t=true->t<m.own.length)/\(∀t,b.testBit t=true->tg.testBit t=false)/\∀t,b.testBit t=true->∀u,at0 (nx m tg mo z bs true u) t=Dc1 m true b u)\/(tg.testBit s=false/\∀u,at0 (nx m tg mo z bs true u) s=bL m mo u s):=by
 have hp:=p12 h.n12;obtain⟨hz,hb⟩:=Cc5 h hv ht;have hcm:∀b∈bs,∀t,b.testBit t=true->t<m.own.length/\tg.testBit t=false/\z.testBit t=false:=fun b hb' t htb=>by
  cases hmo:mo with
  |false=>rw[hv.nb hmo]at hb';cases hb'
  |true=>
   have h1:=(hv.cm hmo).sb b hb' t htb;have h2:=Nat.or_lt_two_pow ht hz;rw[Af3 (by omega) (by omega),Az2,Nat.testBit_or]at h1;simp at h1;exact⟨h1.1,h1.2.1,h1.2.2⟩
 have hout:(∀b∈bs,b.testBit s=false)->∀u,at0 (nx m tg mo z bs true u) s=nx1 m tg mo z true u s:=fun hb' u=>by
  unfold nx;simp only[cond_true];rw[Cm6 h hs bs _ Bf7 hb',Ex2 hs]
 have hno:tg.testBit s=true\/z.testBit s=true->∀b∈bs,b.testBit s=false:=fun ho b hb'=>by
  cases hbt:b.testBit s with
  |false=>rfl
  |true=>
   obtain⟨_,h2,h3⟩:=hcm b hb' s hbt;rcases ho with h|h
   ·rw[h]at h2;cases h2
   ·rw[h]at h3;cases h3
 cases hts:tg.testBit s with
 |true=>
  refine .inl ⟨rfl,fun u=> ?_⟩;rw[hout (hno (.inl hts))];unfold nx1;rw[hts];rfl
 |false=>
  cases hzs:z.testBit s with
  |true=>
   refine .inr (.inl ⟨rfl,rfl,fun u=> ?_⟩);rw[hout (hno (.inr hzs))];unfold nx1;rw[hts,hzs];rfl
  |false=>
   by_cases hx:∃b∈bs,b.testBit s=true
   ·obtain⟨b,hb1,hb2⟩:=hx;have hmo:mo=true:=by
     cases hmo:mo with
     |true=>rfl
     |false=>rw[hv.nb hmo]at hb1;cases hb1
    refine .inr (.inr (.inl ⟨rfl,hmo,b,hb1,hb2,fun t ht'=>(hcm b hb1 t ht').1,fun t ht'=>(hcm b hb1 t ht').2.1,fun t ht' u=> ?_⟩));unfold nx;simp only[cond_true];rw[Ew3 h (hcm b hb1 t ht').1 bs _ Bf7 (hv.cm hmo).dj b hb1 ht',hmo]
   ·refine .inr (.inr (.inr ⟨rfl,fun u=> ?_⟩));rw[hout fun b hb'=>by
     cases hbt:b.testBit s with
     |false=>rfl
     |true=>exact(hx ⟨b,hb',hbt⟩).elim]
    unfold nx1 bL;rw[hts,hzs];rfl
theorem Em6(h:okM m)(hvw:lel m v w):lel m (nx m tg mo z bs false v) (nx m tg mo z bs false w):=fun s hs=>by
 rw[Ap5 hs,Ap5 hs];split
 ·exact Rat.le_refl
 ·exact Cj1 h hs hvw
theorem Ds9(h:okM m)(hv:okV m tg mo z bs)(ht:tg<2^m.own.length)(hvw:lel m v w):lel m (nx m tg mo z bs true v) (nx m tg mo z bs true w):=fun s hs=>by
 rcases S6 h hv ht hs with⟨_,h1⟩|⟨_,_,h1⟩|⟨_,_,b,_,h2,_,_,h1⟩|⟨_,h1⟩
 ·rw[h1,h1];exact Rat.le_refl
 ·rw[h1,h1];exact Rat.le_refl
 ·rw[h1 s h2,h1 s h2];exact Dn9 h hvw
 ·rw[h1,h1];exact Cj1 h hs hvw
theorem lo0(hs:s<m.own.length):at0 (rnd m tg mo z bs false 0) s=if tg.testBit s then 1 else 0:=by
 unfold rnd at0 bgn;simp only[cond_false];rw[List.getD_eq_getElem?_getD,List.getElem?_map,List.getElem?_range hs];rfl
theorem hi0(hs:s<m.own.length):at0 (rnd m tg mo z bs true 0) s=if z.testBit s then 0 else 1:=by
 unfold rnd at0;simp only[cond_true];rw[List.getD_eq_getElem?_getD,List.getElem?_map,List.getElem?_range hs];rfl
theorem Du6(h:okM m):∀k,Gn9 m (rnd m tg mo z bs false k)
 |0,s,hs=>by rw[lo0 hs];split<;>decide
 |k+1,s,hs=>by
  rw[rnd,Ap5 hs];split
  ·decide
  ·exact Dn3 h hs (Du6 h k)
theorem Ew4(h:okM m):∀k,Gn7 m (rnd m tg mo z bs false k)
 |0,s,hs=>by rw[lo0 hs];split<;>decide
 |k+1,s,hs=>by
  rw[rnd,Ap5 hs];split
  ·decide
  ·exact Es3 h hs (Ew4 h k)
theorem Ev5(h:okM m)(hv:okV m tg mo z bs)(ht:tg<2^m.own.length):∀k,Gn9 m (rnd m tg mo z bs true k)
 |0,s,hs=>by rw[hi0 hs];split<;>decide
 |k+1,s,hs=>by
  rw[rnd];rcases S6 h hv ht hs with⟨_,h1⟩|⟨_,_,h1⟩|⟨_,_,b,_,h2,_,_,h1⟩|⟨_,h1⟩
  ·rw[h1];decide
  ·rw[h1];decide
  ·rw[h1 s h2];exact(Ad6 h).1
  ·rw[h1];exact Dn3 h hs (Ev5 h hv ht k)
theorem Ca4(h:okM m)(hv:okV m tg mo z bs)(ht:tg<2^m.own.length):∀k,Gn7 m (rnd m tg mo z bs true k)
 |0,s,hs=>by rw[hi0 hs];split<;>decide
 |k+1,s,hs=>by
  rw[rnd];rcases S6 h hv ht hs with⟨_,h1⟩|⟨_,_,h1⟩|⟨_,_,b,_,h2,_,_,h1⟩|⟨_,h1⟩
  ·rw[h1];decide
  ·rw[h1];decide
  ·rw[h1 s h2];exact Eh7 h (Ca4 h hv ht k)
  ·rw[h1];exact Es3 h hs (Ca4 h hv ht k)
theorem Du7(h:okM m):∀k,lel m (rnd m tg mo z bs false k) (rnd m tg mo z bs false (k+1))
 |0,s,hs=>by
  rw[lo0 hs,rnd,Ap5 hs];split
  ·exact Rat.le_refl
  ·exact Dn3 h hs (Du6 h 0)
 |k+1,s,hs=>by
  rw[rnd,rnd];exact Em6 h (Du7 h k) s hs
theorem Ds8(h:okM m)(hv:okV m tg mo z bs)(ht:tg<2^m.own.length):∀k,lel m (rnd m tg mo z bs true (k+1)) (rnd m tg mo z bs true k)
 |0,s,hs=>by
  cases hz:z.testBit s with
  |false=>rw[hi0 hs,hz];exact Ca4 h hv ht 1 s hs
  |true=>
   rw[hi0 hs,hz,rnd];have hp:=p12 h.n12;have hts:tg.testBit s=false:=by
    have:=hv.zr.sb s hz;rw[Af3 (by omega) (by omega)]at this;simp at this;exact this.2
   rcases S6 h hv ht hs with⟨h2,h1⟩|⟨_,_,h1⟩|⟨_,hmo,b,hb,h2,_,_,h1⟩|⟨_,h1⟩
   ·rw[hts]at h2;cases h2
   ·rw[h1];exact Rat.le_refl
   ·have:=(hv.cm hmo).sb b hb s h2;have h3:=Nat.or_lt_two_pow ht (Cc5 h hv ht).1;rw[Af3 (by omega) (by omega),Nat.testBit_or,hz]at this;simp at this
   ·rw[h1];have hk:=hv.zr.keep s hs hz;have:=Ca4 h hv ht 0;obtain⟨⟨c,hc,e⟩,h3⟩:=Al2 (mo:=mo) (v:=rnd m tg mo z bs true 0) h hs;have hzc:∀c∈m.ch.getD s [],inB z c=true->mix (rnd m tg mo z bs true 0) c<=0:=fun c hc hcz=>Cb9 h hs hc fun b hb=>by
     rw[hi0 ((Am5 h hs hc).1 b hb).2];have:=List.all_eq_true.1 hcz b hb;rw[this];exact Rat.le_refl
    cases hmo:mo with
    |true=>
     subst hmo;unfold kpZ at hk;simp only[cond_true]at hk;rw[e];exact hzc c hc (List.all_eq_true.1 hk c hc)
    |false=>
     subst hmo;unfold kpZ at hk;simp only[cond_false]at hk;obtain⟨d,hd,hdz⟩:=List.any_eq_true.1 hk;exact Rat.le_trans (h3 d hd) (hzc d hd hdz)
 |k+1,s,hs=>by
  rw[rnd,rnd];exact Ds9 h hv ht (Ds8 h hv ht k) s hs
theorem Ha3(h:okM m)(hv:okV m tg mo z bs)(ht:tg<2^m.own.length)(hz:z.testBit s=true):tg.testBit s=false:=by
 have hp:=p12 h.n12;have:=hv.zr.sb s hz;rw[Af3 (by omega) (by omega)]at this;simp at this;exact this.2
theorem Cm7(h:okM m)(hv:okV m tg mo z bs)(ht:tg<2^m.own.length):∀k s,s<m.own.length->z.testBit s=true->at0 (rnd m tg mo z bs false k) s<=0
 |0,s,hs,hz=>by rw[lo0 hs,Ha3 h hv ht hz];exact Rat.le_refl
 |k+1,s,hs,hz=>by
  rw[rnd,Ap5 hs,Ha3 h hv ht hz];have hk:=hv.zr.keep s hs hz;obtain⟨⟨c,hc,e⟩,h3⟩:=Al2 (mo:=mo) (v:=rnd m tg mo z bs false k) h hs;have hzc:∀c∈m.ch.getD s [],inB z c=true->mix (rnd m tg mo z bs false k) c<=0:=fun c hc hcz=>Cb9 h hs hc fun b hb=>
   Cm7 h hv ht k _ ((Am5 h hs hc).1 b hb).2 (List.all_eq_true.1 hcz b hb)
  simp only[Bool.false_eq_true,if_false];cases hmo:mo with
  |true=>
   subst hmo;unfold kpZ at hk;simp only[cond_true]at hk;rw[e];exact hzc c hc (List.all_eq_true.1 hk c hc)
  |false=>
   subst hmo;unfold kpZ at hk;simp only[cond_false]at hk;obtain⟨d,hd,hdz⟩:=List.any_eq_true.1 hk;exact Rat.le_trans (h3 d hd) (hzc d hd hdz)
theorem Gf8(h:okM m)(hv:okV m tg mo z bs)(ht:tg<2^m.own.length):∀k j,lel m (rnd m tg mo z bs false k) (rnd m tg mo z bs true j)
 |0,j,s,hs=>by
  rw[lo0 hs];cases hts:tg.testBit s with
  |false=>exact Ev5 h hv ht j s hs
  |true=>
   cases j with
   |zero=>
    rw[hi0 hs];cases hz:z.testBit s with
    |true=>rw[Ha3 h hv ht hz]at hts;cases hts
    |false=>exact Rat.le_refl
   |succ j=>
    rw[rnd];rcases S6 h hv ht hs with⟨_,h1⟩|⟨h2,_⟩|⟨h2,_⟩|⟨h2,_⟩
    ·rw[h1];exact Rat.le_refl
    all_goals rw[hts]at h2;cases h2
 |k+1,0,s,hs=>by
  rw[hi0 hs];cases hz:z.testBit s with
  |true=>exact Cm7 h hv ht (k+1) s hs hz
  |false=>exact Ew4 h (k+1) s hs
 |k+1,j+1,s,hs=>by
  have ih:=Gf8 h hv ht k;rw[rnd,Ap5 hs];rw[show rnd m tg mo z bs true (j+1)=nx m tg mo z bs true (rnd m tg mo z bs true j) from rfl];rcases S6 h hv ht hs with⟨h2,h1⟩|⟨h2,h3,h1⟩|⟨h2,hmo,b,hb,hbs,hbn,hbt,h1⟩|⟨h2,h1⟩
  ·rw[h1,h2];exact Rat.le_refl
  ·rw[h1,h2];have:=Cm7 h hv ht (k+1) s hs h3;rw[rnd,Ap5 hs,h2]at this;exact this
  ·rw[h1 s hbs,h2];simp only[Bool.false_eq_true,if_false];subst hmo;obtain⟨⟨c,hc,e⟩,_⟩:=Al2 (mo:=true) (v:=rnd m tg true z bs false k) h hs;rw[e];cases hcb:inB b c with
   |false=>exact Rat.le_trans (Az3 h hs hc (ih j)) ((Ad6 h).2.1 s hs hbs c hc hcb)
   |true=>
    refine Cb9 h hs hc fun x hx=> ?_
    have hxb:=List.all_eq_true.1 hcb x hx;have:=ih (j+1) x.1.toNat (hbn _ hxb);rw[show rnd m tg true z bs true (j+1)=nx m tg true z bs true (rnd m tg true z bs true j) from rfl,h1 _ hxb]at this;exact this
  ·rw[h1,h2];exact Cj1 h hs (ih j)
theorem Du8(h:okM m)(hs:s<m.own.length)(ht:tg.testBit s=true):∀k,at0 (rnd m tg mo z bs false k) s=1
 |0=>by rw[lo0 hs,ht];rfl
 |k+1=>by rw[rnd,Ap5 hs,ht];rfl
end
end
section
theorem Fp6{d:List UInt8}{c:UInt8}:((c::d).drop (Int.toNat 1)).take (Int.toNat (((c::d).length:Int)-1))=d:=by
 rw[show Int.toNat 1=1 from rfl,List.drop_succ_cons,List.drop_zero,List.take_of_length_le (by rw[List.length_cons];omega)]
theorem Et4{c:UInt8}(h:48<=c.toNat/\c.toNat<=57):decide ((c.toNat:Int)<48)=false/\decide ((c.toNat:Int)>57)=false:=by
 obtain⟨h1,h2⟩:=h;exact⟨decide_eq_false (by omega),decide_eq_false (by omega)⟩
theorem Gi3{c:UInt8}{d:List UInt8}(hc:∀c∈d,48<=c.toNat/\c.toNat<=57)(hl:d.length<=2000000000):∀(r i k:Nat),i+r=d.length->r<k->Ak0 (c::d) k (i:Int)=some true
 |_,_,0,_,h=>absurd h (by omega)
 |0,i,k+1,hi,_=>by
  unfold Ak0;rw[Fp6,decide_eq_false (by omega)];rfl
 |r+1,i,k+1,hi,hk=>by
  have hil:i<d.length:=by omega
  have hd:=Et4 (hc d[i] (List.getElem_mem hil));unfold Ak0;rw[Fp6,decide_eq_true (by omega),C7 hil];simp only[cond_true,sb,hd.1,hd.2,cond_false];rw[wi i (by omega)];exact Gi3 hc hl r (i+1) k (by omega) (by omega)
theorem Gi4{d:List UInt8}(hc:∀c∈d,48<=c.toNat/\c.toNat<=57)(hl:d.length<=2000000000):∀(r i k:Nat),i+r=d.length->r<k->Ak1 d k (i:Int)=some true
 |_,_,0,_,h=>absurd h (by omega)
 |0,i,k+1,hi,_=>by
  unfold Ak1;rw[decide_eq_false (by omega)];rfl
 |r+1,i,k+1,hi,hk=>by
  have hil:i<d.length:=by omega
  have hd:=Et4 (hc d[i] (List.getElem_mem hil));unfold Ak1;rw[decide_eq_true (by omega),C7 hil];simp only[cond_true,sb,hd.1,hd.2,cond_false];rw[wi i (by omega)];exact Gi4 hc hl r (i+1) k (by omega) (by omega)
theorem Ey0{fuel:Nat}{n:Int}(hl:lt n<=100000000)(hf:2000000010<fuel):Fq9 fuel (tx n)=some true:=by
 have hlen:=K8 n;have hne:∀{c:UInt8} {b:Nat},b<48->48<=c.toNat->((c.toNat:Int)==(b:Int))=false:=fun h1 h2=>beq_false_of_ne (by omega)
 by_cases h0:n=0
 ·subst h0;rfl
 ·unfold Fq9;rw[Hg7,decide_eq_false h0];simp only[cond_false];by_cases h1:n<0
  ·obtain⟨c,s,hcs,hc1,hc2⟩:=Ao5 (show 0< -n by omega);have ht:tx n=45::c::s:=by unfold tx;rw[if_pos h1,hcs]
   rw[ht]at hlen;have hch:=G8 (show 0<=-n by omega);rw[hcs]at hch;simp only[List.length_cons]at hlen;rw[ht,Fp6];rw[decide_eq_true (by simp only[List.length_cons];omega),show C6 (45::c::s) 0=some 45 from rfl];simp only[cond_true,sb];rw[show(((45:UInt8).toNat:Int)==45)=true from rfl];simp only[cond_true];rw[E1 (by simp only[List.length_cons,Bool.and_eq_true,decide_eq_true_eq];omega)];rw[beq_false_of_ne (show((((c::s).length:Nat):Int))≠0 by simp only[List.length_cons];omega),show C6 (c::s) 0=some c from rfl];simp only[cond_false,sb];rw[beq_false_of_ne (show((c.toNat:Nat):Int)≠48 by omega)];simp only[cond_false];exact Gi3 (d:=c::s) hch (by simp only[List.length_cons];omega) (c::s).length 0 fuel (by omega) (by simp only[List.length_cons];omega)
  ·obtain⟨c,s,hcs,hc1,hc2⟩:=Ao5 (show 0<n by omega);have ht:tx n=c::s:=by unfold tx;rw[if_neg h1,hcs]
   rw[ht]at hlen;have hch:=G8 (show 0<=n by omega);rw[hcs]at hch;simp only[List.length_cons]at hlen;rw[ht];rw[decide_eq_true (by simp only[List.length_cons];omega),show C6 (c::s) 0=some c from rfl];simp only[cond_true,sb];rw[beq_false_of_ne (show((c.toNat:Nat):Int)≠45 by omega)];simp only[cond_false];rw[beq_false_of_ne (show((((c::s).length:Nat):Int))≠0 by simp only[List.length_cons];omega)];simp only[cond_false];rw[beq_false_of_ne (show((c.toNat:Nat):Int)≠48 by omega),sb];simp only[cond_false];exact Gi4 (d:=c::s) hch (by simp only[List.length_cons];omega) (c::s).length 0 fuel (by omega) (by simp only[List.length_cons];omega)
theorem Gi1{fuel:Nat}{r:Rat}(h:rs r)(hf:2000000010+r.den<fuel):F91 fuel (T r)=some true:=by
 have hd:=r.den_pos;unfold F91;rw[Hd9 h (by decide) (by omega),sb];simp only;rw[Ey0 (Nat.le_trans h.1 (by decide)) (by omega),Ey0 (Nat.le_trans h.2 (by decide)) (by omega)];simp only[sb,Bool.not_true,cond_false];by_cases h1:r.den=1
 ·rw[decide_eq_false (by omega)];rfl
 ·rw[decide_eq_true h1];simp only[Bool.not_true,cond_false];rw[show([49]:List UInt8)=tx 1 from rfl,Hg2 (Nat.le_trans h.2 (by decide)) (by decide) (by omega),sb,show R5 (r.den:Int) 1=1 by unfold R5;rw[if_neg (by omega),if_pos (by omega)]];simp only[show decide ((1:Int)>0)=true from rfl,cond_true];rw[Hf8 (Nat.le_trans h.1 (by decide)) (Nat.le_trans h.2 (by decide)) (by omega),sb,show((Int.gcd r.num (r.den:Int):Nat):Int)=1 by
   rw[show Int.gcd r.num (r.den:Int)=1 from r.reduced];rfl]
  rfl
theorem Fi7{x:Rat}(hx:rs x):Ev fun f=>F91 f (T x)=some true:=Ev.from_ (2000000010+x.den+1) fun n h=>Gi1 hx (by omega)
theorem Dp5{n:Int}(hn:lt n<=1999):∃k:Nat,k<=2000/\Fr0 (tx n)=some (k:Int):=by
 unfold Fr0 tx;have hl:∀{x:Int},0<=x->lt x=lt n->(dtx x).length<=2000:=fun{x} h0 h1=>by
  rcases Int.lt_or_eq_of_le h0 with h|h
  ·rw[Al6 h];unfold lt at h1 hn;rw[show((x.natAbs:Nat):Int)=x by omega]at h1;omega
  ·subst h;decide
 by_cases h:n<0
 ·have:=hl (show 0<=-n by omega) (Ew6 n);rw[if_pos h];refine⟨(dtx (-n)).length,this,?_⟩;show Option.bind (some (45:UInt8)) _=_;rw[sb,show(((45:UInt8).toNat:Int)==45)=true from rfl];simp only[cond_true,List.length_cons];rw[E7 (by omega) (by omega)];congr 1;omega
 ·have:=hl (show 0<=n by omega) rfl;rw[if_neg h];refine⟨(dtx n).length,this,?_⟩;have hc:=G8 (show 0<=n by omega);cases hd:dtx n with
  |nil=>
   rcases Int.lt_or_eq_of_le (show 0<=n by omega) with h'|h'
   ·obtain⟨c,t,e,_⟩:=Ao5 h';rw[hd]at e;cases e
   ·subst h';cases hd
  |cons c t=>
   rw[hd]at hc;have h48:=(hc c List.mem_cons_self).1;show Option.bind (some c) _=_;rw[sb,beq_false_of_ne (show((c.toNat:Nat):Int)≠45 by omega)];rfl
theorem Gb3{r:Rat}(h:rsz 1999 r):Ev fun f=>F48 f (T r)=some 0:=by
 have hr:rs r:=⟨Nat.le_trans h.1 (by decide),Nat.le_trans h.2 (by decide)⟩
 refine((Fi7 hr).and (Ev.ge 2000000011)).mono fun f hh=> ?_
 obtain⟨k,hk,ek⟩:=Dp5 h.1;obtain⟨j,hj,ej⟩:=Dp5 h.2;unfold F48 F92;refine sbe hh.1 ?_;simp only[Bool.not_true,cond_false];refine sbe (x:=true) (sbe (Bm7 hr (by decide) (by omega)) (sbe (x:=true) (sbe ek ?_) rfl)) rfl;rw[decide_eq_true (by omega)];simp only[cond_true];refine sbe ej ?_;rw[decide_eq_true (by omega)]
section
variable {l w:List Rat}
theorem Ev9(hl:l.length<=1000)(hr:∀x∈l,rsz 1999 x):∀(r i:Nat),i+r=l.length->Ev fun f=>∀k,r<k->Bb1 f (l.map T) k (i:Int)=some (-1)
 |0,i,hi=>Ev.of fun f k hk=>by
  obtain⟨k,rfl⟩:∃j,k=j+1:=⟨k-1,by omega⟩
  unfold Bb1;rw[decide_eq_false (by simp;omega)];rfl
 |r+1,i,hi=>by
  have hil:i<l.length:=by omega
  refine((Gb3 (hr l[i] (List.getElem_mem hil))).and (Ev9 hl hr r (i+1) (by omega))).mono fun f h k hk=> ?_
  obtain⟨h1,h2⟩:=h;obtain⟨k,rfl⟩:∃j,k=j+1:=⟨k-1,by omega⟩
  unfold Bb1;rw[decide_eq_true (by simp;omega)];simp only[cond_true];refine sbe (D2 hil) (sbe (x:=false) (by unfold F47;exact sbe h1 rfl) ?_);simp only[cond_false];rw[wi i (by omega)];exact h2 k (by omega)
theorem Dw6(hl:l.length<=1000)(hr:∀x∈l,rsz 1999 x):Ev fun f=>F22 f (l.map T)=some true:=by
 refine((Ev9 hl hr l.length 0 (by omega)).and (Ev.ge 2000)).mono fun f h=> ?_
 unfold F22 F46 F90;have:=h.1 f (by have:=h.2;omega);rw[show((0:Nat):Int)=0 from rfl]at this;exact sbe (sbe this rfl) rfl
theorem Dn5(hlw:l.length=w.length)(hl:l.length<=1000)(hr:∀x∈l,rs x)(hw:∀x∈w,rs x)(hle:∀s,s<l.length->at0 l s<=at0 w s):∀(r i:Nat),i+r=l.length->Ev fun f=>∀k,r<k->Ba6 f (l.map T) (w.map T) k (i:Int)=some true
 |0,i,hi=>Ev.of fun f k hk=>by
  obtain⟨k,rfl⟩:∃j,k=j+1:=⟨k-1,by omega⟩
  unfold Ba6;rw[decide_eq_false (by simp;omega)];rfl
 |r+1,i,hi=>by
  have hil:i<l.length:=by omega
  have hiw:i<w.length:=by omega
  refine((Gc0 (hr l[i] (List.getElem_mem hil)) (hw w[i] (List.getElem_mem hiw))).and (Dn5 hlw hl hr hw hle r (i+1) (by omega))).mono fun f h k hk=> ?_
  obtain⟨h1,h2⟩:=h;obtain⟨k,rfl⟩:∃j,k=j+1:=⟨k-1,by omega⟩
  unfold Ba6;rw[decide_eq_true (by simp;omega)];simp only[cond_true];refine sbe (D2 hil) (sbe (D2 hiw) (sbe h1 ?_));have:=hle i hil;unfold at0 at this;rw[List.getD_eq_getElem?_getD,List.getD_eq_getElem?_getD,List.getElem?_eq_getElem hil,List.getElem?_eq_getElem hiw]at this;simp only[Option.getD_some]at this;rw[Cs4,decide_eq_false (Rat.not_lt.2 this),wi i (by omega)];exact h2 k (by omega)
theorem Eh4(hlw:l.length=w.length)(hl:l.length<=1000)(hr:∀x∈l,rs x)(hw:∀x∈w,rs x)(hle:∀s,s<l.length->at0 l s<=at0 w s):Ev fun f=>F23 f (l.map T) (w.map T)=some true:=by
 refine((Dn5 hlw hl hr hw hle l.length 0 (by omega)).and (Ev.ge 2000)).mono fun f h=> ?_
 unfold F23;simp only[List.length_map,hlw,bne_self_eq_false,cond_false];exact h.1 f (by have:=h.2;omega)
end
section
variable {m:Mdl} {tg z:Nat} {mo:Bool} {bs:List Nat}
theorem Gi2(h:okM m)(hbs:∀b∈bs,b<18446744073709551616){up:Bool}{k:Nat}(hk:k<=61):∀x∈rnd m tg mo z bs up k,rsz 1999 x:=fun x hx=>by
 have h1:=Cd5 h hbs k hk x hx;obtain⟨a,b,_⟩:=Aw7 h;refine Ds0 (p:=4*k) (q:=2*k) h1 ?_ ?_ (by omega)
 ·rw[Nat.pow_mul];exact Nat.pow_le_pow_left (by omega) _
 ·rw[Nat.pow_mul];exact Nat.pow_le_pow_left (by decide) _
theorem Cw4{lo hi:List Rat}(ht:tg<18446744073709551616)(hn:lo.length<=12)(hlw:lo.length=hi.length)(hr:∀x∈lo,rs x)(hw:∀x∈hi,rs x)(h0:∀s,s<lo.length->0<=at0 lo s)(h1:∀s,s<lo.length->at0 hi s<=1)(h2:∀s,s<lo.length->tg.testBit s=true->at0 lo s=1):∀(r i:Nat),i+r=lo.length->Ev fun f=>∀k,r<k->Ch8 f (tg:Int) (lo.map T,hi.map T,0) k (i:Int)=some true
 |0,i,hi=>Ev.of fun f k hk=>by
  obtain⟨k,rfl⟩:∃j,k=j+1:=⟨k-1,by omega⟩
  unfold Ch8;rw[decide_eq_false (by simp;omega)];rfl
 |r+1,i,hi'=>by
  have hil:i<lo.length:=by omega
  have hiw:i<hi.length:=by omega
  have r1:rs 1:=El3 (Cu3 (D:=1) (by decide)) (p:=1) (q:=1) (by decide) (by decide) (by decide);refine(((Gc1 (hr lo[i] (List.getElem_mem hil))).and (Gc0 (hw hi[i] (List.getElem_mem hiw)) r1)).and (Cw4 ht hn hlw hr hw h0 h1 h2 r (i+1) (by omega))).mono fun f h k hk=> ?_
  obtain⟨⟨e1,e2⟩,e3⟩:=h;obtain⟨k,rfl⟩:∃j,k=j+1:=⟨k-1,by omega⟩
  have a0:=h0 i hil;have a1:=h1 i hil;have a2:=h2 i hil;unfold at0 at a0 a1 a2;rw[List.getD_eq_getElem?_getD,List.getElem?_eq_getElem hil]at a0 a2;rw[List.getD_eq_getElem?_getD,List.getElem?_eq_getElem hiw]at a1;simp only[Option.getD_some]at a0 a1 a2;unfold Ch8;rw[decide_eq_true (by simp;omega)];simp only[cond_true];refine sbe (x:=false) (sbe (D2 hil) (sbe e1 ?_)) ?_
  ·rw[Cs3,decide_eq_false (Rat.not_lt.2 a0)];simp only[cond_false];rw[T1]at e2;refine sbe (D2 hiw) (sbe e2 ?_);rw[Cs4,decide_eq_false (Rat.not_lt.2 a1)];simp only[cond_false];rw[E1 (decide_eq_true (by omega)),R4 ht (by omega)];cases hb:tg.testBit i with
   |true=>
    simp only[if_true,beq_self_eq_true,cond_true];refine sbe (D2 hil) ?_;rw[a2 hb,T1];rfl
   |false=>rfl
  ·simp only[cond_false];rw[wi i (by omega)];exact e3 k (by omega)
end
theorem Ca9{d:B1}{b n:Int}(mo:Bool)(hd:Ae7 d)(b0:0<=b)(b1:b<65536)(hn:0<=n):∃fuel,F5 fuel d b mo n=some true:=by
 obtain⟨m,hM,_,h0,hE⟩:=Df3 hd;have h12:=hM.n12;have hp:=p12 h12;obtain⟨tg,htg,hset⟩:=Fp1 (n:=m.own.length) (b:=b) (by omega) b0 (by omega);obtain⟨k,hk⟩:∃k:Nat,n%7=(k:Int):=⟨(n%7).toNat,by omega⟩
 obtain⟨z,bs,hv,hB⟩:=Dg0 hM h0 htg mo;have hbs:∀b∈bs,b<18446744073709551616:=fun b hb=>by have:=(Cc5 hM hv htg).2 b hb;omega
 have hlen:∀{up:Bool} k,(rnd m tg mo z bs up k).length=m.own.length:=fun k=>Bu3 k
 have hrs:∀{up:Bool} {k},k<=8->∀x∈rnd m tg mo z bs up k,rs x:=fun hk=>Ey1 hM hbs (by omega)
 have hsz:∀{up:Bool} {k},k<=8->∀x∈rnd m tg mo z bs up k,rsz 1999 x:=fun hk=>Gi2 hM hbs (by omega)
 have hnum:∀{up:Bool} {k},k<=8->Ev fun f=>F22 f ((rnd m tg mo z bs up k).map T)=some true:=fun{up k} hk=>Dw6 (by rw[hlen];omega) (hsz hk)
 have hbl:∀{u1 u2:Bool} {k j},k<=8->j<=8->lel m (rnd m tg mo z bs u1 k) (rnd m tg mo z bs u2 j)->Ev fun f=>F23 f ((rnd m tg mo z bs u1 k).map T) ((rnd m tg mo z bs u2 j).map T)=some true:=fun{u1 u2 k j} hk hj hle=>Eh4 (by rw[hlen,hlen]) (by rw[hlen];omega) (hrs hk) (hrs hj) fun s hs=>hle s (by rw[hlen]at hs;exact hs)
 obtain⟨f,hf⟩:=((((hE.and (hB k (by omega))).and ((hB (k+1) (by omega)).and (Ev.ge 2000))).and (((hnum (up:=false) (k:=k) (by omega)).and (hnum (up:=true) (k:=k) (by omega))).and ((hnum (up:=false) (k:=k+1) (by omega)).and (hnum (up:=true) (k:=k+1) (by omega))))).and
  (((hbl (by omega) (by omega) (Du7 hM k)).and (hbl (k:=k+1) (j:=k+1) (by omega) (by omega) (Gf8 hM hv htg (k+1) (k+1)))).and ((hbl (by omega) (by omega) (Ds8 hM hv htg k)).and
   (Cw4 (tg:=tg) (lo:=rnd m tg mo z bs false k) (hi:=rnd m tg mo z bs true k) (by omega) (by rw[hlen];exact h12) (by rw[hlen,hlen]) (hrs (by omega)) (hrs (by omega)) (fun s hs=>Du6 hM k s (by rw[hlen]at hs;exact hs)) (fun s hs=>Ca4 hM hv htg k s (by rw[hlen]at hs;exact hs)) (fun s hs ht=>Du8 hM (by rw[hlen]at hs;exact hs) ht k) m.own.length 0 (by rw[hlen];omega))))).ex
 obtain⟨⟨⟨⟨h1,h2⟩,h3,h4⟩,⟨n1,n2⟩,n3,n4⟩,⟨l1,l2⟩,l3,hL⟩:=hf;refine⟨f,?_⟩;have hw:=Eo7 (f-206);rw[show f-206+206=f by omega]at hw;unfold F5;rw[hw,sb];simp only[Bool.not_true,cond_false];rw[h1,sb,List.length_map,show(eM m).Owner=m.own from rfl,hset,sb,(tdm hn).2,hk,E7 (i:=(k:Int)) (by omega) (by omega),wi k (by omega),h2,sb,h3,sb];simp only[show((0:Int) !=0)=false from rfl,cond_false,List.length_map,hlen,bne_self_eq_false];rw[n1];simp only[sb,Bool.not_true,cond_false];rw[n2];simp only[sb,Bool.not_true,cond_false];rw[n3];simp only[sb,Bool.not_true,cond_false];rw[n4];simp only[sb,Bool.not_true,cond_false];rw[l1];simp only[sb,Bool.not_true,cond_false];rw[l2];simp only[sb,Bool.not_true,cond_false];rw[l3];simp only[sb,Bool.not_true,cond_false];exact hL f (by omega)
end
end Go.Proofs.YtdlnalepibeibaaGreatDoor
end
section
namespace Go.Proofs.YtdlnalepibeibaaGreatDoor.sandwichNarrows
open Go.ChangeShapes Go.WideShapes Go.ChangeAt Go.RowKit Kx
open Go.ChangeMaps (open_string shut_string)
set_option linter.unusedVariables false
set_option maxRecDepth 100000
section
def wf5(x:Int):Prop:=(Lit.int .u8 x).wf=true
theorem Dc5{n:Nat}{ds:List Dat}(h:Fit Tryz.prog (n+1) 5 ds):∃x:Int,ds=[.int .u8 x]/\wf5 x:=by
 exact Dl8 Tryz.underlying5 h
def Hh1(x:Dh4):Prop:=wf5 x.a0/\wf5 x.a1/\wf5 x.a2
theorem Gr8{n:Nat}{ds:List Dat}(h:Fit Tryz.prog (n+2) 94 ds):∃x:Dh4,ds=[.int .u8 x.a0,.int .u8 x.a1,.int .u8 x.a2]/\Hh1 x:=by
 have h0:=Bw1 Tryz.underlying94 h;obtain⟨_,r0,rfl,g0,h1⟩:=h0;obtain⟨x0,rfl,w0⟩:=Dc5 (n:=n+0) g0;obtain⟨_,r1,rfl,g1,h2⟩:=h1;obtain⟨x1,rfl,w1⟩:=Dc5 (n:=n+0) g1;obtain⟨_,r2,rfl,g2,h3⟩:=h2;obtain⟨x2,rfl,w2⟩:=Dc5 (n:=n+0) g2;cases (show r2=[] from h3);exact⟨⟨x0,x1,x2⟩,rfl,⟨w0,w1,w2⟩⟩
def Hh0(x:Dh3):Prop:=wf5 x.a0/\wf5 x.a1
theorem Gr7{n:Nat}{ds:List Dat}(h:Fit Tryz.prog (n+2) 62 ds):∃x:Dh3,ds=[.int .u8 x.a0,.int .u8 x.a1]/\Hh0 x:=by
 have h0:=Bw1 Tryz.underlying62 h;obtain⟨_,r0,rfl,g0,h1⟩:=h0;obtain⟨x0,rfl,w0⟩:=Dc5 (n:=n+0) g0;obtain⟨_,r1,rfl,g1,h2⟩:=h1;obtain⟨x1,rfl,w1⟩:=Dc5 (n:=n+0) g1;cases (show r1=[] from h2);exact⟨⟨x0,x1⟩,rfl,⟨w0,w1⟩⟩
def Ha1(x:D0):Prop:=wf5 x.State/\wf5 x.Act/\wf5 x.Gain/\Hh1 x.To/\Hh0 x.Part
theorem Gr9{n:Nat}{ds:List Dat}(h:Fit Tryz.prog (n+3) 96 ds):∃x:D0,ds=[.int .u8 x.State,.int .u8 x.Act,.int .u8 x.Gain,.int .u8 x.To.a0,.int .u8 x.To.a1,.int .u8 x.To.a2,.int .u8 x.Part.a0,.int .u8 x.Part.a1]/\Ha1 x:=by
 have h0:=Bk4 Tryz.underlying96 h;obtain⟨_,r0,rfl,g0,h1⟩:=h0;obtain⟨x0,rfl,w0⟩:=Dc5 (n:=n+1) g0;obtain⟨_,r1,rfl,g1,h2⟩:=h1;obtain⟨x1,rfl,w1⟩:=Dc5 (n:=n+1) g1;obtain⟨_,r2,rfl,g2,h3⟩:=h2;obtain⟨x2,rfl,w2⟩:=Dc5 (n:=n+1) g2;obtain⟨_,r3,rfl,g3,h4⟩:=h3;obtain⟨x3,rfl,w3⟩:=Gr8 (n:=n+0) g3;obtain⟨_,r4,rfl,g4,h5⟩:=h4;obtain⟨x4,rfl,w4⟩:=Gr7 (n:=n+0) g4;cases (show r4=[] from h5);exact⟨⟨x0,x1,x2,x3,x4⟩,rfl,⟨w0,w1,w2,w3,w4⟩⟩
def Hg8(x:List D0):Prop:=x.length<=maxLen/\∀y∈x,Ha1 y
theorem Gr4{n:Nat}{ds:List Dat}(h:Fit Tryz.prog (n+4) 45 ds):∃x:List D0,ds=[.sl 8 (x.map B8)]/\Hg8 x:=by
 obtain⟨es,rfl,hl,he⟩:=Dl9 Tryz.underlying45 (sz:=8) (by kernel_rfl) h;obtain⟨l,rfl,hq⟩:=Cq4 (en:=B8) (Q:=Ha1) (fun x hx=>Gr9 hx) es he;exact⟨l,rfl,by simpa using hl,hq⟩
def Ha0(x:B1):Prop:=wf5 x.States/\wf5 x.Owners/\wf5 x.Grain/\wf5 x.Cents/\Hg8 x.Picks
theorem Gr5{n:Nat}{ds:List Dat}(h:Fit Tryz.prog (n+5) 47 ds):∃x:B1,ds=[.int .u8 x.States,.int .u8 x.Owners,.int .u8 x.Grain,.int .u8 x.Cents,.sl 8 (x.Picks.map B8)]/\Ha0 x:=by
 have h0:=Bk4 Tryz.underlying47 h;obtain⟨_,r0,rfl,g0,h1⟩:=h0;obtain⟨x0,rfl,w0⟩:=Dc5 (n:=n+3) g0;obtain⟨_,r1,rfl,g1,h2⟩:=h1;obtain⟨x1,rfl,w1⟩:=Dc5 (n:=n+3) g1;obtain⟨_,r2,rfl,g2,h3⟩:=h2;obtain⟨x2,rfl,w2⟩:=Dc5 (n:=n+3) g2;obtain⟨_,r3,rfl,g3,h4⟩:=h3;obtain⟨x3,rfl,w3⟩:=Dc5 (n:=n+3) g3;obtain⟨_,r4,rfl,g4,h5⟩:=h4;obtain⟨x4,rfl,w4⟩:=Gr4 (n:=n+0) g4;cases (show r4=[] from h5);exact⟨⟨x0,x1,x2,x3,x4⟩,rfl,⟨w0,w1,w2,w3,w4⟩⟩
def Hg9(x:Int):Prop:=(Lit.int .u16 x).wf=true
theorem Gr6{n:Nat}{ds:List Dat}(h:Fit Tryz.prog (n+1) 50 ds):∃x:Int,ds=[.int .u16 x]/\Hg9 x:=by
 exact Dl8 Tryz.underlying50 h
def wf4(x:Bool):Prop:=True
theorem Hk8{n:Nat}{ds:List Dat}(h:Fit Tryz.prog (n+1) 4 ds):∃x:Bool,ds=[.bool x]/\wf4 x:=by
 obtain⟨b,e⟩:=Eg1 Tryz.underlying4 h;exact⟨b,e,trivial⟩
theorem Gg8{d:B1}(h:Ha0 d):Ae7 d:=
 ⟨Db9 h.1,Db9 h.2.1,Db9 h.2.2.1,Db9 h.2.2.2.1,fun p hp=>by
  obtain⟨h1,h2,h3,⟨h4,h5,h6⟩,h7,h8⟩:=h.2.2.2.2.2 p hp;exact⟨Db9 h1,Db9 h2,Db9 h3,Db9 h4,Db9 h5,Db9 h6,Db9 h7,Db9 h8⟩⟩
theorem law(x0:B1)(x1:Int)(x2:Bool)(x3:Int)(h0:Ha0 x0)(h1:Hg9 x1)(h2:wf4 x2)(h3:wf5 x3):∃fuel,F5 fuel x0 x1 x2 x3=some true:=
 Ca9 x2 (Gg8 h0) (Ga7 h1).1 (Ga7 h1).2 (Db9 h3).1
theorem own:ownKnob Tryz.prog.godebug=none:=by kernel_rfl
theorem Bs1:laidOutB Tryz.prog=true:=by kernel_rfl
theorem Hn7{W:World}(h0:laidMetH Tryz.prog Rows.sandwichNarrowsRow.laid W)(hs:W.ShapedOpen Tryz.prog):GlA (K0 W) W:=by
 have h:laidMet Tryz.prog Rows.sandwichNarrowsRow.laid W:=by
  rw[MakeChecks.laidMetH_plain _ _ _ (by kernel_rfl)]at h0;exact h0
 have all:∀n cs,gl n=some cs->(∃us,X4 (K0 W) n 0 us/\D4 (K0 W) cs us)/\∃c e z,W.heap[n]? =some (.cells c e z)/\c.size=cs.length:=fun n cs e=>by
  refine Cu8 (Q:=fun n cs=>(∃us,X4 (K0 W) n 0 us/\D4 (K0 W) cs us)/\∃c e z,W.heap[n]? =some (.cells c e z)/\c.size=cs.length) ?_ e;show _/\_/\_/\_/\_/\True;exact⟨Ds5 h 0 (g:=4) (t:=340) (e:=5) rfl (by kernel_rfl) (by kernel_rfl) Tryz.underlying340 (by kernel_rfl) (by kernel_rfl) (by kernel_rfl) (by kernel_rfl),
   Ds5 h 1 (g:=5) (t:=341) (e:=5) rfl (by kernel_rfl) (by kernel_rfl) Tryz.underlying341 (by kernel_rfl) (by kernel_rfl) (by kernel_rfl) (by kernel_rfl),
   Ds5 h 2 (g:=3) (t:=320) (e:=32) rfl (by kernel_rfl) (by kernel_rfl) Tryz.underlying320 (by kernel_rfl) (by kernel_rfl) (by kernel_rfl) (by kernel_rfl),
   Ev4 h 4 (g:=1) (t:=189) rfl (by kernel_rfl) (by kernel_rfl) (by kernel_rfl) rfl,
   Ev4 h 3 (g:=2) (t:=189) rfl (by kernel_rfl) (by kernel_rfl) (by kernel_rfl) rfl,
   trivial⟩
 refine⟨⟨fun n cs e=>(all n cs e).1,fun n k e=> ?_⟩,fun n cs e=>(all n cs e).2⟩
 ·simp only[gxT,List.mem_cons,List.mem_nil_iff,or_false,Prod.mk.injEq]at e;obtain⟨rfl,rfl⟩:=e;exact Hn6 hs (zero:= #[.int .i64 0]) (t:=3) (of_decide_eq_true (by kernel_rfl)) (by kernel_rfl) (by kernel_rfl) (by kernel_rfl) Tryz.underlying3 (by kernel_rfl)
theorem Gf6(os:Os)(started:os.Started)(H:Type)(enc:TypeId×Value->H):
 ReturnsInHanded {} Tryz.checked os 5 .any (fun w args=>(Rows.sandwichNarrowsSpec.pre enc Tryz.prog Tryz.f5 Rows.sandwichNarrowsRow.domain false w args/\laidMetH Tryz.prog Rows.sandwichNarrowsRow.laid w)/\sizedMet enc Tryz.prog Tryz.f5 (OpenSpec.ofChange Rows.sandwichNarrowsSpec) false w args)
  (Rows.sandwichNarrowsSpec.post enc Tryz.prog Tryz.f5 false true false false):=by
 refine Ac3 (C:=Tryz.checked) (X:=fun w _=>laidMetH Tryz.prog Rows.sandwichNarrowsRow.laid w) (fun _ _ _ hh h=>h.of_heap hh) own started (by kernel_rfl) Tryz.func5
  (ChangeSpec.witness_shaped (enc:=enc) (C:=Tryz.checked) (os:=os) (X:=fun w _=>laidMetH Tryz.prog Rows.sandwichNarrowsRow.laid w) false (World.laidAll Tryz.prog os Rows.sandwichNarrowsRow.laid) #[.agg #[.int .u8 0,.int .u8 0,.int .u8 0,.int .u8 0,.slice none 0 0],.int .u16 0,.bool false,.int .u8 0] 8 (World.laidAll_os _ _ _)
   (World.shaped_of_ZipB (by kernel_rfl) (by kernel_rfl)) (by kernel_rfl) (by kernel_rfl) (by kernel_rfl)
   (by rw[MakeChecks.laidMetH_plain _ _ _ (by kernel_rfl)];exact laidMet_laidAll _ (by kernel_rfl) (by kernel_rfl))) ?_
 intro W base args ds gs before hval0 hW hcnd hlaid hshape;have hgl:GlA (K0 W) W:=Hn7 hlaid hshape;have hval:∀(j:Nat) t v,Tryz.f5.params[j]? =some t->args[j]? =some v->Value.okWide Tryz.prog W .any base t v:=hval0;have hW':=hW;obtain⟨p,q,hA0,hV,rfl,hfz,hnd⟩:=hW;have hA:DataW.TrodAll enc Tryz.prog W 0 (fun _=>true) true Tryz.f5.params.toList args.toList ds p:=hA0;rw[Tryz.params5]at hA hval;obtain⟨v0,vs0,d0,ds0,p0,q0,hargs,rfl,rfl,h0,r0⟩:=trodAll_cons hA;obtain⟨v1,vs1,d1,ds1,p1,q1,rfl,rfl,rfl,h1,r1⟩:=trodAll_cons r0;obtain⟨v2,vs2,d2,ds2,p2,q2,rfl,rfl,rfl,h2,r2⟩:=trodAll_cons r1;obtain⟨v3,vs3,d3,ds3,p3,q3,rfl,rfl,rfl,h3,r3⟩:=trodAll_cons r2;obtain⟨rfl,rfl,rfl⟩:=trodAll_nil r3;obtain rfl:args= #[v0,v1,v2,v3]:=by cases args;simp_all
 obtain⟨rfl,rfl⟩:=trodVars_none hV;have k0:=h0;have lt0:∀x∈p0,x.block<W.heap.size:=by obtain⟨m,hm⟩:=k0;exact DataW.trod_lt m _ _ _ hm
 obtain⟨c0,rfl⟩:=Gg6 Tryz.underlying47 (hval 0 47 v0 rfl rfl);obtain⟨m0,hm0⟩:=k0;obtain⟨ds0,hr0,hf0⟩:=Ab5 5 47 m0 _ _ (by kernel_rfl) hm0;obtain⟨x0,rfl,wf0_⟩:=Gr5 (n:=0) hf0;have rel0:C0 (K0 W) noR (.agg (dV [.int .u8 x0.States,.int .u8 x0.Owners,.int .u8 x0.Grain,.int .u8 x0.Cents,.sl 8 (x0.Picks.map B8)])) _:=Dy3 hr0;have k1:=h1;have lt1:∀x∈p1,x.block<W.heap.size:=by obtain⟨m,hm⟩:=k1;exact DataW.trod_lt m _ _ _ hm
 obtain⟨a1,rfl,rfl,rfl,w1⟩:=open_int Tryz.underlying50 (hval 1 50 v1 rfl rfl) h1;obtain⟨m1,hm1⟩:=k1;obtain⟨ds1,hr1,hf1⟩:=Ab5 1 50 m1 _ _ (by kernel_rfl) hm1;obtain⟨x1,rfl,wf1_⟩:=Gr6 (n:=0) hf1;have Go0:C0 (K0 W) noR (.d (.int .u16 x1)) _:=Bt9 hr1;have k2:=h2;have lt2:∀x∈p2,x.block<W.heap.size:=by obtain⟨m,hm⟩:=k2;exact DataW.trod_lt m _ _ _ hm
 obtain⟨a2,rfl,rfl,rfl⟩:=open_bool Tryz.underlying4 (hval 2 4 v2 rfl rfl) h2;obtain⟨m2,hm2⟩:=k2;obtain⟨ds2,hr2,hf2⟩:=Ab5 1 4 m2 _ _ (by kernel_rfl) hm2;obtain⟨x2,rfl,wf2_⟩:=Hk8 (n:=0) hf2;have Gy9:C0 (K0 W) noR (.d (.bool x2)) _:=Bt9 hr2;have k3:=h3;have lt3:∀x∈p3,x.block<W.heap.size:=by obtain⟨m,hm⟩:=k3;exact DataW.trod_lt m _ _ _ hm
 obtain⟨a3,rfl,rfl,rfl,w3⟩:=open_int Tryz.underlying5 (hval 3 5 v3 rfl rfl) h3;obtain⟨m3,hm3⟩:=k3;obtain⟨ds3,hr3,hf3⟩:=Ab5 1 5 m3 _ _ (by kernel_rfl) hm3;obtain⟨x3,rfl,wf3_⟩:=Dc5 (n:=0) hf3;have rel3:C0 (K0 W) noR (.d (.int .u8 x3)) _:=Bt9 hr3;obtain⟨fuel,hF⟩:=law x0 x1 x2 x3 wf0_ wf1_ wf2_ wf3_;clear hA0 hval0;refine(Go9 hF (K0 W) W [_,_,_,_] (Da6 W) hgl (by simp only[B5];exact⟨_,_,rfl,rel0,⟨_,_,rfl,Go0,⟨_,_,rfl,Gy9,⟨_,_,rfl,rel3,rfl⟩⟩⟩⟩)).mono fun e W' hE=> ?_
 obtain⟨u,M',rfl,hext,hv⟩:=hE;have bel:=hext.below;have hv:=H1 hv;cases hv;exact⟨_,rfl,_,_,_,[],_,[],hW',trodAll_mk1 (shut_bool Tryz.underlying4 _),(trodAll_cons_mk (Below.trod Bs1 (by kernel_rfl) (of_decide_eq_true (by kernel_rfl)) ⟨_,hm0⟩ bel lt0) (trodAll_cons_mk (Below.trod Bs1 (by kernel_rfl) (of_decide_eq_true (by kernel_rfl)) ⟨_,hm1⟩ bel lt1) (trodAll_cons_mk (Below.trod Bs1 (by kernel_rfl) (of_decide_eq_true (by kernel_rfl)) ⟨_,hm2⟩ bel lt2) (trodAll_cons_mk (Below.trod Bs1 (by kernel_rfl) (of_decide_eq_true (by kernel_rfl)) ⟨_,hm3⟩ bel lt3) trodAll_mk0)))),rfl,bel.frame _,fun h=>by cases h⟩
theorem Dw7:(Rows.sandwichNarrowsRow.inPlace==Tryz.pinned.checked.prog.inPlace 5)=true:=by kernel_rfl
theorem Cc3:(Rows.sandwichNarrowsRow.unfollowed==Tryz.pinned.checked.prog.unfollowed 5)=true:=by kernel_rfl
theorem Df2:(Rows.sandwichNarrowsRow.recurses==Tryz.pinned.checked.prog.recurses 5)=true:=by kernel_rfl
theorem Fm9:(Rows.sandwichNarrowsRow.named==Tryz.pinned.checked.prog.varsNamed 5)=true:=by kernel_rfl
theorem Fh5:joinedFacts Tryz.pinned.checked.prog 5 Tryz.f5 Rows.sandwichNarrowsSpec Rows.sandwichNarrowsRow=true:=by
 unfold joinedFacts;rw[Dw7,Cc3,Df2,Fm9];kernel_rfl
theorem Ho1:Rows.sandwichNarrowsRow.holds Tryz.pinned (OpenSpec.ofChange Rows.sandwichNarrowsSpec):=
 OpenClaim.holds_of_wide 5 Tryz.f5 rfl rfl rfl rfl rfl rfl rfl ⟨rfl,rfl,rfl,rfl,rfl⟩ rfl rfl rfl rfl rfl (by kernel_rfl) Tryz.func5 Fh5
  (of_decide_eq_true (by kernel_rfl)) (by unfold Func.isWrapper;first|(rw[if_pos (by decide+kernel)];kernel_rfl)|(rw[if_neg (by decide+kernel)];exact⟨rfl,rfl⟩))
  (fun os started H enc _=>Gf6 os started H enc)
theorem proved:Rows.SandwichNarrowsCardSaid:=
 Claim7.holds_tied_plain_at .later [] [.data,.data,.data,.sentinel,.sentinel] true (true, "576ca53fc8fd8aa78b63b083a81e19658d4bc94738a8f63b5d4a81637d3c6a55") true Ho1 (fun _ h=>by cases h) (by kernel_rfl) (fun _ h=>by cases h) sandwichNarrows_row_tie rfl ⟨rfl,rfl⟩ (by kernel_rfl) rfl
  (fun f fn hf hfn=>by
   obtain rfl:f=5:=Option.some.inj ((show Tryz.prog.funcNamed "croupier/croupierlaw22.SandwichNarrows" =some 5 by kernel_rfl).symm.trans hf)|>.symm;obtain rfl:fn=Tryz.f5:=(Option.some.inj (Tryz.func5.symm.trans hfn)).symm;exact⟨by kernel_rfl,fun j t ht=>by
    rw[Tryz.params5]at ht;have hm:t∈[47,50,4,5]:=by simpa using Array.mem_of_getElem? ht
    have hall:([47,50,4,5].all fun u=> !Tryz.prog.wantsStandIn u)=true:=by kernel_rfl
    exact(show Tryz.prog.wantsStandIn t=false by simpa using List.all_eq_true.1 hall t hm)⟩)
  (by kernel_rfl)
#print axioms proved
end
end Go.Proofs.YtdlnalepibeibaaGreatDoor.sandwichNarrows
end
