/- One part of the texts that lead to the theorem; it claims nothing by itself. -/
import GoSem.ClaimChange
import GoSem.ClaimWide
import Derived.Lay
import Derived.LaidMore
import Derived.ProofKit
import Derived.OpenShut
import Derived.Handed
import Derived.Stop.Joined
import Derived.SevenTiedAt
import Derived.KernelRfl
import Derived.Test.YtdlnalepibeibaaGreatDoorFib
section
namespace Go.Proofs.YtdlnalepibeibaaGreatDoor.Kx
open Go Go.RowKit Go.IntKind
section
section
variable {S:N0} {wl w:World} {M0 M:Mem} {ρ:Rho} {ob:Nat->Option B9}
theorem Ow.two(h:Ow S wl M0 M ρ ob w){r d:Nat}(hne:r≠d){o o' od:B9}{i i' id:Inf}(hr:ob r=some o)(hi:ρ r=some i)(hg:Ile i i')(hgd:∀k,ρ d=some k->Ile k id)
 (hb:∀b,blk i' o' b->blk i o b\/∃x k,ob d=some x/\ρ d=some k/\blk k x b) (hbd:∀b,blk id od b->blk i o b\/∃x k,ob d=some x/\ρ d=some k/\blk k x b) (hdj:∀b,blk i' o' b->blk id od b->False)
 (hx:∀ρ',Rle M M ρ ρ'->ρ' d=some id->M6 S wl M ρ' w i' o') (hxd:∀ρ',Rle M M ρ ρ'->M6 S wl M ρ' w id od):
 Rle M M ρ (K0 (K0 ρ r i') d id)/\Ow S wl M0 M (K0 (K0 ρ r i') d id) (K0 (K0 ob r o') d od) w:=by
 have hρ:∀q,q≠r->q≠d->K0 (K0 ρ r i') d id q=ρ q:=fun q h1 h2=>by rw[C8 _ _ h2,C8 _ _ h1]
 have hob:∀q,q≠r->q≠d->K0 (K0 ob r o') d od q=ob q:=fun q h1 h2=>by rw[C8 _ _ h2,C8 _ _ h1]
 have hρr:K0 (K0 ρ r i') d id r=some i':=by rw[C8 _ _ hne,B7]
 have hobr:K0 (K0 ob r o') d od r=some o':=by rw[C8 _ _ hne,B7]
 have hle:Rle M M ρ (K0 (K0 ρ r i') d id):=⟨M.le_refl,fun q j hj=>by
  by_cases e:q=d
  ·subst e;exact⟨id,B7 _ _ _,hgd j hj⟩
  ·by_cases e':q=r
   ·subst e';rw[hi]at hj;cases hj;exact⟨i',hρr,hg⟩
   ·exact⟨j,by rw[hρ q e' e];exact hj,Ile.refl j⟩⟩
 have other:∀q y j b,q≠r->q≠d->ob q=some y->ρ q=some j->blk j y b->¬(blk i' o' b\/blk id od b):=fun q y j b e e' hy hj hl hb'=>by
  have:blk i o b\/∃x k,ob d=some x/\ρ d=some k/\blk k x b:=hb'.elim (hb b) (hbd b);rcases this with h1|⟨x,k,h1,h2,h3⟩
  ·exact e (h.inj q r y o j i b hy hr hj hi hl h1)
  ·exact e' (h.inj q d y x j k b hy h1 hj h2 hl h3)
 refine⟨hle,h.size,h.os,h.tape,h.output,h.old,h.sits,h.le,h.gl,h.new,fun q y hy=> ?_,fun q j hj=> ?_,fun q q' y y' j j' b h1 h2 h3 h4 l1 l2=> ?_,fun q j hb hj=> ?_⟩
 ·by_cases e:q=d
  ·subst e;rw[B7]at hy;cases hy;exact⟨id,B7 _ _ _,hxd _ hle⟩
  ·by_cases e':q=r
   ·subst e';rw[hobr]at hy;cases hy;exact⟨i',hρr,hx _ hle (B7 _ _ _)⟩
   ·rw[hob q e' e]at hy;obtain⟨j,h1,h2⟩:=h.own q y hy;exact⟨j,by rw[hρ q e' e];exact h1,h2.mono hle (fun _ _=>rfl) (fun _ _=>rfl)⟩
 ·by_cases e:q=d
  ·subst e;exact⟨od,B7 _ _ _⟩
  ·by_cases e':q=r
   ·subst e';exact⟨o',hobr⟩
   ·rw[hρ q e' e]at hj;rw[hob q e' e];exact h.dom q j hj
 ·have key:∀q y j,K0 (K0 ob r o') d od q=some y->K0 (K0 ρ r i') d id q=some j->blk j y b->(q=d/\blk id od b)\/(q=r/\blk i' o' b)\/(q≠r/\q≠d/\ob q=some y/\ρ q=some j):=fun q y j hy hj hl=>by
   by_cases e:q=d
   ·subst e;rw[B7]at hy hj;cases hy;cases hj;exact .inl ⟨rfl,hl⟩
   ·by_cases e':q=r
    ·subst e';rw[hobr]at hy;rw[hρr]at hj;cases hy;cases hj;exact .inr (.inl ⟨rfl,hl⟩)
    ·rw[hob q e' e]at hy;rw[hρ q e' e]at hj;exact .inr (.inr ⟨e',e,hy,hj⟩)
  rcases key q y j h1 h3 l1 with⟨e1,k1⟩|⟨e1,k1⟩|⟨n1,n2,k1,k2⟩<;>rcases key q' y' j' h2 h4 l2 with⟨e2,k3⟩|⟨e2,k3⟩|⟨n3,n4,k3,k4⟩
  ·rw[e1,e2]
  ·exact(hdj b k3 k1).elim
  ·exact(other q' y' j' b n3 n4 k3 k4 l2 (.inr k1)).elim
  ·exact(hdj b k1 k3).elim
  ·rw[e1,e2]
  ·exact(other q' y' j' b n3 n4 k3 k4 l2 (.inl k1)).elim
  ·exact(other q y j b n1 n2 k1 k2 l1 (.inr k3)).elim
  ·exact(other q y j b n1 n2 k1 k2 l1 (.inl k3)).elim
  ·exact h.inj q q' y y' j j' b k1 k3 k2 k4 l1 l2
 ·obtain⟨k,h1,h2⟩:=h.held q j hb hj;obtain⟨k',h3,h4⟩:=hle.ext q k h1;exact⟨k',h3,h2.trans h4⟩
theorem Ec9:∀{k:Nat} {ds:List Dat} {us:List Value} {bs:List Nat},L6 w M (List.replicate k .z) ds us bs->bs=[]/\D3 M ds us
 |0,_,_,_,h=>by
  simp only[List.replicate_zero,L6]at h;obtain⟨rfl,rfl,rfl⟩:=h;exact⟨rfl,rfl⟩
 |k+1,_,_,_,h=>by
  simp only[List.replicate_succ,L6,Bw9]at h;obtain⟨d,ds',u,us',b1,b2,rfl,rfl,rfl,⟨rfl,h1⟩,h2⟩:=h;obtain⟨rfl,h3⟩:=Ec9 h2;exact⟨rfl,u,us',rfl,h1,h3⟩
theorem Db7:∀{ds:List Dat} {us:List Value},D3 M ds us->L6 w M (List.replicate ds.length .z) ds us []
 |[],us,h=>by
  simp only[List.length_nil,List.replicate_zero,L6];exact⟨trivial,h,trivial⟩
 |d::ds,us,⟨u,us',e,h1,h2⟩=>by
  simp only[List.length_cons,List.replicate_succ,L6,Bw9];exact⟨d,ds,u,us',[],[],rfl,e,rfl,⟨rfl,h1⟩,Db7 h2⟩
theorem Gj4{n:Nat}:∀{es:List (List Dat)} {us:List Value} {bs:List Nat} {j:Nat},M7 (fun _ x u b=>x.length=n/\L6 w M (List.replicate n .z) x u b) n j es us bs->bs=[]/\rL (rDs n) M us es
 |[],_,_,_,h=>⟨h.2,h.1⟩
 |x::es,_,_,j,⟨u,us',b1,b2,e1,e2,e3,⟨e4,e5⟩,e6⟩=>by
  obtain⟨rfl,h1⟩:=Ec9 e5;obtain⟨rfl,h2⟩:=Gj4 e6;exact⟨e2,u,us',e1,⟨e4,h1⟩,h2⟩
theorem Ey7{n:Nat}:∀{es:List (List Dat)} {us:List Value} {j:Nat},rL (rDs n) M us es->M7 (fun _ x u b=>x.length=n/\L6 w M (List.replicate n .z) x u b) n j es us []
 |[],_,_,h=>⟨h,rfl⟩
 |x::es,_,j,⟨u,us',e1,⟨e4,e5⟩,e6⟩=>by
  refine⟨u,us',[],[],e1,rfl,(rDs n).len ⟨e4,e5⟩,⟨e4,?_⟩,Ey7 e6⟩;have:=Db7 (w:=w) e5
  rwa [e4]at this
end
def Bv5(w:World)(M M':Mem)(bs:List Nat):Prop:=M.le M'/\(∀b,b∉bs->M' b=M b)/\∀b,b∈bs->∃c e z,M' b=some c/\w.heap[b]? =some (.cells c e z)
theorem Bv5.nil{w:World}{M:Mem}:Bv5 w M M []:=⟨M.le_refl,fun _ _=>rfl,fun _ h=>by cases h⟩
theorem Bv5.app{w:World}{M M1 M2:Mem}{a b:List Nat}(h:Bv5 w M M1 a)(k:Bv5 w M1 M2 b):Bv5 w M M2 (a++b):=by
 refine⟨Mem.le_trans h.1 k.1,fun y hy=> ?_,fun y hy=> ?_⟩
 ·rw[k.2.1 y (fun h'=>hy (List.mem_append_right _ h')),h.2.1 y (fun h'=>hy (List.mem_append_left _ h'))]
 ·by_cases hb:y∈b
  ·exact k.2.2 y hb
  ·rcases List.mem_append.1 hy with h'|h'
   ·obtain⟨c,e,z,h1,h2⟩:=h.2.2 y h';exact⟨c,e,z,by rw[k.2.1 y hb];exact h1,h2⟩
   ·exact absurd h' hb
mutual
theorem Bw9.hold{w:World}:∀(s:Sh) {M:Mem} {d:Dat} {v:Value} {bs:List Nat},Bw9 w M s d v bs->bs.Nodup->(∀b,b∈bs->M b=none)->∃M',Bv5 w M M' bs/\Q7 M' d v
 | .z,M,d,v,bs,h,_,_=>by
   simp only[Bw9]at h;obtain⟨rfl,h⟩:=h;exact⟨M,Bv5.nil,h⟩
 | .o e sz cs,M,d,v,bs,h,hnd,hM=>by
   simp only[Bw9]at h;obtain⟨es,a,cap,rfl,rfl,h3,h4,h5⟩:=h;rcases h5 with⟨h0,rfl⟩|⟨h0,b,base,bs',pre,us,sp,h6,rfl,h8,h9,h10,h11⟩
   ·have:es=[]:=List.length_eq_zero_iff.1 (by omega);subst this;exact⟨M,Bv5.nil,Aq1⟩
   ·have hnd:=List.nodup_cons.1 hnd;have hM':∀y,y∈bs'->M y=none:=fun y hy=>hM y (List.mem_cons_of_mem _ hy)
    have key:∀(es:List (List Dat)) (us:List Value) (bs':List Nat) (j:Nat) (M:Mem),M7 (fun _ x u b=>x.length=sz/\L6 w M cs x u b) sz j es us bs'->bs'.Nodup->(∀y,y∈bs'->M y=none)->∃M',Bv5 w M M' bs'/\rL (rDs sz) M' us es:=by
     intro es
     induction es with
     |nil=>intro us bs' j M h _ _;obtain⟨rfl,rfl⟩:=h;exact⟨M,Bv5.nil,Aw6⟩
     |cons x es ih=>
      rintro us bs' j M ⟨u,us',b1,b2,rfl,rfl,e3,⟨e4,e5⟩,e6⟩ hnd hM
      obtain⟨n1,n2,n3⟩:=List.nodup_append.1 hnd;obtain⟨M1,g1,g2⟩:=L6.hold cs e5 n1 (fun y hy=>hM y (List.mem_append_left _ hy));have e6':M7 (fun _ x u b=>x.length=sz/\L6 w M1 cs x u b) sz (j+1) es us' b2:=e6.mono (fun _ x u b _ h=>⟨h.1,h.2.mono g1.1 _ (fun _ _=>rfl)⟩);obtain⟨M2,g3,g4⟩:=ih us' b2 (j+1) M1 e6' n2 (fun y hy=>by rw[g1.2.1 y (fun h'=>n3 y h' y hy rfl)];exact hM y (List.mem_append_right _ hy));exact⟨M2,g1.app g3,u,us',rfl,⟨e4,g2.mono g3.1⟩,g4⟩
    obtain⟨M1,g1,g2⟩:=key es us bs' 0 M h11 hnd.2 hM';have hMb:M1 b=none:=by rw[g1.2.1 b hnd.1];exact hM b List.mem_cons_self
    let M2:Mem:=fun y=>if y=b then some (pre++(us++sp)).toArray else M1 y
    have hM2b:M2 b=some (pre++(us++sp)).toArray:=if_pos rfl;have hle:M1.le M2:=fun y c hc=>by
     have hne:y≠b:=fun e=>by rw[e,hMb]at hc;cases hc
     exact⟨c,by simp only[M2,if_neg hne];exact hc,Pre.refl c⟩
    have hh:Bv5 w M1 M2 [b]:=⟨hle,fun y hy=>by simp only[M2];rw[if_neg (by simpa using hy)],fun y hy=>by
     have:y=b:=by simpa using hy
     subst this;exact⟨_,_,_,hM2b,h8⟩⟩
    refine⟨M2,?_,Co1 (off:=0) hM2b (Pre.refl _) h9 (Bg1 hle g2) h3 (fun _=>by rw[h6,Nat.add_zero]) (fun j _=>by rw[Nat.zero_add])⟩;have:=g1.app hh;refine⟨this.1,fun y hy=>this.2.1 y (fun h'=>hy (by simp at h'⊢;exact h'.symm)),fun y hy=>this.2.2 y (by simp at hy⊢;exact hy.symm)⟩
theorem L6.hold{w:World}:∀(cs:List Sh) {M:Mem} {ds:List Dat} {us:List Value} {bs:List Nat},L6 w M cs ds us bs->bs.Nodup->(∀b,b∈bs->M b=none)->∃M',Bv5 w M M' bs/\D3 M' ds us
 |[],M,ds,us,bs,h,_,_=>by
  simp only[L6]at h;obtain⟨rfl,rfl,rfl⟩:=h;exact⟨M,Bv5.nil,rfl⟩
 |s::cs,M,ds,us,bs,h,hnd,hM=>by
  simp only[L6]at h;obtain⟨d,ds',u,us',b1,b2,rfl,rfl,rfl,h4,h5⟩:=h;obtain⟨n1,n2,n3⟩:=List.nodup_append.1 hnd;obtain⟨M1,g1,g2⟩:=Bw9.hold s h4 n1 (fun y hy=>hM y (List.mem_append_left _ hy));obtain⟨M2,g3,g4⟩:=L6.hold cs (h5.mono g1.1 _ (fun _ _=>rfl)) n2 (fun y hy=>by rw[g1.2.1 y (fun h'=>n3 y h' y hy rfl)];exact hM y (List.mem_append_right _ hy));exact⟨M2,g1.app g3,u,us',rfl,g2.mono g3.1,g4⟩
end
theorem M7.hold{w:World}{ρ:Rho}{sz:Nat}{cs:List Sh}:∀{es:List (List Dat)} {us:List Value} {bs:List Nat} {j:Nat} {M:Mem},M7 (Ad6 w M ρ sz cs none) sz j es us bs->bs.Nodup->(∀y,y∈bs->M y=none)->∃M',Bv5 w M M' bs/\rL (rDs sz) M' us es
 |[],us,bs,j,M,h,_,_=>by obtain⟨rfl,rfl⟩:=h;exact⟨M,Bv5.nil,Aw6⟩
 |x::es,us,bs,j,M,⟨u,us',b1,b2,e1,e2,e3,⟨e4,e5⟩,e6⟩,hnd,hM=>by
  subst e1 e2;obtain⟨n1,n2,n3⟩:=List.nodup_append.1 hnd;obtain⟨M1,g1,g2⟩:=L6.hold cs e5 n1 (fun y hy=>hM y (List.mem_append_left _ hy));have e6':M7 (Ad6 w M1 ρ sz cs none) sz (j+1) es us' b2:=e6.mono (fun _ x u b _ h=>⟨h.1,h.2.mono g1.1 _ (fun _ _=>rfl)⟩);obtain⟨M2,g3,g4⟩:=M7.hold e6' n2 (fun y hy=>by rw[g1.2.1 y (fun h'=>n3 y h' y hy rfl)];exact hM y (List.mem_append_right _ hy));exact⟨M2,g1.app g3,u,us',rfl,⟨e4,g2.mono g3.1⟩,g4⟩
section
variable {rr:Option Nat} {P:Program} {N:Nat} {dfr:List Deferred} {fin:Fin} {c:Cfg}
theorem Fy9{g sz:Nat}{e:TypeId}{shs:List Sh}{es:List (List Dat)}(r:Nat)(hr:B4 c.ob r=some (.tree g e sz shs es none))(hk:J rr P N dfr fin ⟨c.sl,Ac3 c.ob r (.buf g e sz es),c.td⟩):J rr P N dfr fin c:=by
 refine⟨hk.1,fun S wl M0 hH M ρ f w ha=> ?_⟩;have h:=ha.ow;obtain⟨i,hi,hok⟩:=h.own r _ hr;obtain⟨a1,a2,a3,a4,a5,a6,a7,a8,a9,a10⟩:=hok;obtain⟨M',hM',hbuf⟩:∃M',Bv5 w M M' i.subs/\(0<i.tot->Ci8 S wl M i g/\∃pre us sp,w.heap[i.b]? =some (.cells (pre++(us++sp)).toArray e (0,0))/\pre.length=i.base*sz/\(us++sp).length=i.tot*sz/\rL (rDs sz) M' us es):=by
  by_cases ht:0<i.tot
  ·obtain⟨b1,b2,pre,us,sp,b3,b4,b5,b6⟩:=a10 ht;obtain⟨M',g1,g2⟩:=b6.hold (List.nodup_cons.1 a8).2 (fun y hy=>(a9 y hy).2.1);exact⟨M',g1,fun _=>⟨b1,pre,us,sp,b3,b4,b5,g2⟩⟩
  ·have:=a7 (by omega);exact⟨M,by rw[this];exact Bv5.nil,fun h=>absurd h ht⟩
 have hib:i.b∉i.subs:=(List.nodup_cons.1 a8).1
 let i':Inf:={i with subs:=[]}
 have hR:Rle M M' ρ (K0 ρ r i'):=⟨hM'.1,fun q j hj=>by
  by_cases e:q=r
  ·subst e;rw[hi]at hj;cases hj;exact⟨i',B7 _ _ _,Nat.le_refl _,fun _=>rfl,fun h=>by rw[a1]at h;cases h⟩
  ·exact⟨j,by rw[C8 _ _ e];exact hj,Ile.refl j⟩⟩
 have hsub:∀b,blk i' (.buf g e sz es) b->blk i (.tree g e sz shs es none) b:=fun b hb=> .inl (show Al9 i (.buf g e sz es)/\i.b=b from P5 (i:=i') hb rfl)
 have ow:Ow S wl M0 M' (K0 ρ r i') (K0 (B4 c.ob) r (.buf g e sz es)) w:=by
  refine⟨h.size,h.os,h.tape,h.output,h.old,fun b cc hb=> ?_,Mem.le_trans h.le hM'.1,h.gl.mono hM'.1,fun b cc hb hlt=> ?_,fun q y hy=> ?_,fun q j hj=> ?_,fun q q' y y' j j' b h1 h2 h3 h4 l1 l2=> ?_,fun q j hb hj=> ?_⟩
  ·by_cases hm:b∈i.subs
   ·obtain⟨c1,e1,z1,q1,q2⟩:=hM'.2.2 b hm;rw[q1]at hb;cases hb;exact⟨_,_,_,q2,Pre.refl _⟩
   ·rw[hM'.2.1 b hm]at hb;exact h.sits b cc hb
  ·by_cases hm:b∈i.subs
   ·rcases(a9 b hm).1 with hs|hs
    ·exact .inr hs
    ·omega
   ·rw[hM'.2.1 b hm]at hb;exact h.new b cc hb hlt
  ·by_cases e:q=r
   ·subst e;rw[B7]at hy;cases hy;refine⟨i',B7 _ _ _,a1,a2,a3,a4,a5,a6,fun hp=> ?_⟩;obtain⟨m,rest⟩:=hbuf hp;exact⟨⟨m.1,fun hg=>by rw[show i'.b=i.b from rfl,hM'.2.1 _ hib];exact m.2.1 hg,fun cc hc=>m.2.2 cc (by rw[<-hM'.2.1 _ hib];exact hc)⟩,rest⟩
   ·rw[C8 _ _ e]at hy;obtain⟨j,h1,h2⟩:=h.own q y hy;exact⟨j,by rw[C8 _ _ e];exact h1,h2.mono hR (fun b hb=>hM'.2.1 b (fun hm=>e (h.inj q r y _ j i b hy hr h1 hi hb (.inr ⟨rfl,hm⟩)))) (fun _ _=>rfl)⟩
  ·by_cases e:q=r
   ·subst e;exact⟨_,B7 _ _ _⟩
   ·rw[C8 _ _ e]at hj⊢;exact h.dom q j hj
  ·have key:∀q y j,K0 (B4 c.ob) r (.buf g e sz es) q=some y->K0 ρ r i' q=some j->blk j y b->∃y0 j0,B4 c.ob q=some y0/\ρ q=some j0/\blk j0 y0 b:=fun q y j hy hj hl=>by
    by_cases e:q=r
    ·subst e;rw[B7]at hy hj;cases hy;cases hj;exact⟨_,i,hr,hi,hsub b hl⟩
    ·rw[C8 _ _ e]at hy hj;exact⟨y,j,hy,hj,hl⟩
   obtain⟨y0,j0,k1,k2,k3⟩:=key q y j h1 h3 l1;obtain⟨y1,j1,k4,k5,k6⟩:=key q' y' j' h2 h4 l2;exact h.inj q q' y0 y1 j0 j1 b k1 k4 k2 k5 k3 k6
  ·obtain⟨k,h1,h2⟩:=h.held q j hb hj;obtain⟨k',h3,h4⟩:=hR.ext q k h1;exact⟨k',h3,h2.trans h4⟩
 exact hk.2 S wl M0 hH M' _ f w ⟨by dsimp only;rw[H8];exact ow,ha.ok,fun t ht=>C0.mono hR _ (ha.sl t ht)⟩
theorem Cr6{g:Nat}{e e2:TypeId}{n:Nat}{es:List (List Dat)}(r d j:Nat)(ds:List (List Dat))(hne:Nat.beq r d=false)(hr:B4 c.ob r=some (.tree g e 1 [.o e2 n (List.replicate n .z)] es none))(hd:B4 c.ob d=none)(hj:es[j]? =some [.sl n ds])
 (hk:J rr P N dfr fin ⟨c.sl,Ac3 (Ac3 c.ob r (.tree g e 1 [.o e2 n (List.replicate n .z)] es (some (j,[.suf d 0 0])))) d (.buf 0 e2 n ds),c.td⟩):J rr P N dfr fin c:=by
 have hne:r≠d:=fun h=>by subst h;rw[Nat.beq_refl]at hne;cases hne
 refine⟨hk.1,fun S wl M0 hH M ρ f w ha=> ?_⟩;obtain⟨i,hi,hok⟩:=ha.ow.own r _ hr;obtain⟨a1,a2,a3,a4,a5,a6,a7,a8,a9,a10⟩:=hok;obtain⟨hjl,hje⟩:=List.getElem?_eq_some_iff.1 hj;have htp:0<i.tot:=by omega
 obtain⟨b1,b2,pre,us,sp,hw,hpre,hlen,b6⟩:=a10 htp;obtain⟨b,g1,hu,c1,c2,hbs,hset⟩:=b6.get hjl;rw[Nat.zero_add]at g1 hset;rw[hje]at g1;obtain⟨_,g2⟩:=g1;simp only[L6,Bw9]at g2;obtain⟨_,_,v,_,bA,_,e1,hv,hbA,⟨ds',ad,cap,e3,rfl,hcap,hcm,hcase⟩,rfl,rfl,rfl⟩:=g2;cases e1;cases e3;rw[List.append_nil]at hbA;subst hbA;have hρd:=ha.ow.ob_none hd
 --the row's own
 obtain⟨k,hk0,hkg,hkn,hkt,hkok,hkb,hkp⟩:∃k:Inf,k.subs=[]/\k.g=0/\k.n=ds.length/\k.tot=cap/\(∀ρ',M6 S wl M ρ' w k (.buf 0 e2 n ds))/\(∀y,blk k (.buf 0 e2 n ds) y->y∈b)/\(0<cap->ad=some ⟨k.b,k.base*k.sz,none⟩):=by
  rcases hcase with⟨h0,rfl⟩|⟨h0,bb,base,bs',pre2,us2,sp2,h1,h2,h3,h4,h5,h6⟩
  ·have hds:ds=[]:=List.length_eq_zero_iff.1 (by omega);subst hds;subst h0;exact⟨⟨0,0,0,n,0,0,false,[]⟩,rfl,rfl,rfl,rfl,fun _=>⟨rfl,rfl,rfl,rfl,Nat.le_refl _,Nat.zero_le _,fun h=>absurd h (Nat.lt_irrefl _)⟩,fun y hy=>absurd (P5 hy rfl).1 (Nat.lt_irrefl _),fun h=>absurd h (Nat.lt_irrefl _)⟩
  ·obtain⟨rfl,h7⟩:=Gj4 h6;have hm:=a9 bb (by rw[hbs,h2];simp);refine⟨⟨bb,base,cap,n,ds.length,0,false,[]⟩,rfl,rfl,rfl,rfl,fun _=>⟨rfl,rfl,rfl,rfl,hcap,hcm,fun _=>⟨⟨hm.1,fun _=>hm.2.1,fun c hc=>by rw[show M bb=none from hm.2.1]at hc;cases hc⟩,pre2,us2,sp2,h3,h4,h5,h7⟩⟩,fun y hy=>by rw[h2,<-(P5 hy rfl).2];exact List.mem_cons_self,fun _=>h1⟩
 have hnd:(c1++(b++c2)).Nodup:=by rw[<-hbs];exact(List.nodup_cons.1 a8).2
 have hsub:∀y,y∈c1++c2->y∈i.subs:=fun y hy=>by
  rw[hbs];rcases List.mem_append.1 hy with h|h
  ·exact List.mem_append_left _ h
  ·exact List.mem_append_right _ (List.mem_append_right _ h)
 have hndb:∀y,y∈c1++c2->y∈b->False:=fun y hy hb=>by
  obtain⟨n1,n2,n3⟩:=List.nodup_append.1 hnd;obtain⟨n4,n5,n6⟩:=List.nodup_append.1 n2;rcases List.mem_append.1 hy with h|h
  ·exact n3 y h y (List.mem_append_left _ hb) rfl
  ·exact n6 y hb y h rfl
 have hbsub:∀y,y∈b->y∈i.subs:=fun y hy=>by rw[hbs];simp[hy]
 obtain⟨h5,h6⟩:=ha.ow.two (d:=d) (i':={i with subs:=c1++c2}) (o':= .tree g e 1 [.o e2 n (List.replicate n .z)] es (some (j,[.suf d 0 0]))) (od:= .buf 0 e2 n ds) (id:=k) hne hr hi ⟨Nat.le_refl _,fun _=>rfl,fun h=>by rw[a1]at h;cases h⟩ (fun k hk=>by rw[hρd]at hk;cases hk)
  (fun y hy=> .inl (hy.imp id (fun h=>⟨rfl,hsub y h.2⟩))) (fun y hy=> .inl (.inr ⟨rfl,hbsub y (hkb y hy)⟩))
  (fun y hy hy'=>by
   have hb:=hkb y hy';rcases hy with⟨_,h⟩|⟨_,h⟩
   ·exact(List.nodup_cons.1 a8).1 (by rw[show i.b=y from h];exact hbsub y hb)
   ·exact hndb y h hb)
  (fun ρ' hle hρ'=>by
   refine⟨a1,a2,a3,a4,a5,a6,fun h=>absurd h (by show i.tot≠0;omega),?_,fun y hy=>a9 y (hsub y hy),fun _=>⟨b1,b2,pre,us,sp,hw,hpre,hlen,?_⟩⟩
   ·refine List.nodup_cons.2 ⟨fun h=>(List.nodup_cons.1 a8).1 (hsub _ h),?_⟩;obtain⟨n1,n2,n3⟩:=List.nodup_append.1 hnd;obtain⟨n4,n5,n6⟩:=List.nodup_append.1 n2;exact List.nodup_append.2 ⟨n1,n5,fun x hx y hy=>n3 x hx y (List.mem_append_right _ hy)⟩
   ·have:=hset (Ad6 w M ρ' 1 [.o e2 n (List.replicate n .z)] (some (j,[.suf d 0 0]))) (es[j]) ((us.drop (j*1)).take 1) [] (fun i0 x u c hi0 hc0 hr0=>⟨fun e=>absurd e hi0,fun _=>hr0⟩) hu ⟨fun _=>⟨rfl,?_,?_⟩,fun e=>absurd rfl e⟩
    ·rw[List.set_getElem_self]at this;have e9:D5 us (j*1) ((us.drop (j*1)).take 1)=us:=by
      have hul:=b6.len;unfold D5;rw[hu,<-List.drop_drop,List.append_assoc,List.take_append_drop,List.take_append_drop]
     rw[e9]at this;simpa using this
    ·rw[hv];simp only[B5];have:=V9 (M:=M) (ρ:=ρ') (q:=d) (g:=0) (off:=0) (p:=ad) hρ' hkg (Nat.zero_le _) (fun h=>by rw[Nat.add_zero];exact hkp (by rw[hkt]at h;exact h));rw[hkn,hkt,Nat.sub_zero,Nat.sub_zero]at this;exact⟨_,[],rfl,this,rfl⟩
    ·rw[hv];intro v' hv';simp only[List.mem_cons,List.mem_nil_iff,or_false]at hv';subst hv';rfl)
  (fun ρ' _=>hkok ρ')
 have:=hk.2 S wl M0 hH M _ f w ⟨by dsimp only;rw[H8,H8];exact h6,ha.ok,fun t ht=>C0.mono h5 _ (ha.sl t ht)⟩;exact this
theorem Fz2{g gd:Nat}{e e2:TypeId}{n:Nat}{es ds:List (List Dat)}(r d j:Nat)(hne:Nat.beq r d=false)(hr:B4 c.ob r=some (.tree g e 1 [.o e2 n (List.replicate n .z)] es (some (j,[.suf d gd 0]))))(hd:B4 c.ob d=some (.buf gd e2 n ds))(hgd:Nat.blt gd 1000000=true)(hj:j<es.length)
 (hk:J rr P N dfr fin ⟨c.sl,Ac3 (Ac3 c.ob r (.tree g e 1 [.o e2 n (List.replicate n .z)] (es.set j [.sl n ds]) none)) d (.buf (gd+1) e2 n []),c.td⟩):J rr P N dfr fin c:=by
 have hne:r≠d:=fun h=>by subst h;rw[Nat.beq_refl]at hne;cases hne
 refine⟨hk.1,fun S wl M0 hH M ρ f w ha=> ?_⟩;obtain⟨i,hi,hok⟩:=ha.ow.own r _ hr;obtain⟨a1,a2,a3,a4,a5,a6,a7,a8,a9,a10⟩:=hok;have htp:0<i.tot:=by omega
 obtain⟨b1,b2,pre,us,sp,hw,hpre,hlen,b6⟩:=a10 htp;obtain⟨b,g1,hu,c1,c2,hbs,hset⟩:=b6.get hj;rw[Nat.zero_add]at g1 hset;obtain⟨rfl,hrel,hone⟩:=g1.1 rfl;obtain⟨k,hkk,hkok⟩:=ha.ow.own d _ hd;obtain⟨k1,k2,k3,k4,k5,k6,k7⟩:=hkok;simp only[B5]at hrel;obtain⟨v,_,hv,hvr,rfl⟩:=hrel;obtain⟨k',hk',_,hvs⟩:=J8 hvr;rw[hkk]at hk';cases hk';obtain⟨_,p,rfl,hp⟩:=hvs k2.symm;rw[Nat.sub_zero,Nat.sub_zero]at hv;have hnd:(c1++c2).Nodup:=by
  have:=(List.nodup_cons.1 a8).2;rw[hbs]at this;simpa using this
 have hsub:i.subs=c1++c2:=by rw[hbs];simp
 have hkb:0<k.tot->k.b∉c1++c2/\k.b≠i.b:=fun hp=>⟨fun h=>hne (ha.ow.inj r d _ _ i k k.b hr hd hi hkk (.inr ⟨rfl,by rw[hsub];exact h⟩) (.inl ⟨hp,rfl⟩)),fun h=>hne (ha.ow.inj r d _ _ i k k.b hr hd hi hkk (.inl ⟨htp,h.symm⟩) (.inl ⟨hp,rfl⟩))⟩
 --the row's blocks,as the tree's
 obtain⟨bd,hbd1,hbd2,hown⟩:∃bd:List Nat,(∀y,y∈bd->0<k.tot/\y=k.b)/\bd.Nodup/\L6 w M [.o e2 n (List.replicate n .z)] [.sl n ds] [.slice p k.n k.tot] bd:=by
  simp only[L6,Bw9];by_cases ht:0<k.tot
  ·obtain⟨m,pre2,us2,sp2,h1,h2,h3,h4⟩:=k7 ht;have hp:=hp ht;subst hp;refine⟨[k.b],fun y hy=>⟨ht,by simpa using hy⟩,by simp,_,[],_,[],[k.b],[],rfl,rfl,by simp,⟨ds,_,k.tot,rfl,by rw[k4],k4▸k5,k6,.inr ⟨ht,k.b,k.base,[],pre2,us2,sp2,by rw[Nat.add_zero,k3],rfl,h1,h2,h3,Ey7 h4⟩⟩,rfl,rfl,rfl⟩
  ·have h0:k.tot=0:=by omega
   refine⟨[],fun y hy=>(by cases hy),by simp,_,[],_,[],[],[],rfl,rfl,by simp,⟨ds,p,k.tot,rfl,by rw[k4],k4▸k5,k6,.inl ⟨h0,rfl⟩⟩,rfl,rfl,rfl⟩
 have hbdn:∀y,y∈bd->y∉c1++c2/\y≠i.b:=fun y hy=>by
  obtain⟨h1,h2⟩:=hbd1 y hy;subst h2;exact hkb h1
 have hmem:∀y,y∈c1++(bd++c2)->y∈c1++c2\/y∈bd:=fun y hy=>by
  simp only[List.mem_append]at hy⊢;rcases hy with h|h|h
  ·exact .inl (.inl h)
  ·exact .inr h
  ·exact .inl (.inr h)
 obtain⟨h5,h6⟩:=ha.ow.two (d:=d) (i':={i with subs:=c1++(bd++c2)}) (o':= .tree g e 1 [.o e2 n (List.replicate n .z)] (es.set j [.sl n ds]) none) (od:= .buf (gd+1) e2 n []) (id:=⟨0,0,0,n,0,gd+1,false,[]⟩) hne hr hi ⟨Nat.le_refl _,fun _=>rfl,fun h=>by rw[a1]at h;cases h⟩ (fun k' hk=>by
  rw[hkk]at hk;cases hk;exact⟨by show k.g<=gd+1;omega,fun h=>absurd h (by show k.g≠gd+1;omega),fun h=>by rw[k1]at h;cases h⟩)
  (fun y hy=>by
   rcases hy with h|⟨_,h⟩
   ·exact .inl (.inl h)
   ·rcases hmem y h with h|h
    ·exact .inl (.inr ⟨rfl,by rw[hsub];exact h⟩)
    ·exact .inr ⟨_,k,hd,hkk,.inl ⟨(hbd1 y h).1,(hbd1 y h).2.symm⟩⟩)
  (fun y hy=>absurd (P5 hy rfl).1 (Nat.lt_irrefl _)) (fun y _ hy=>absurd (P5 hy rfl).1 (Nat.lt_irrefl _))
  (fun ρ' hle _=>by
   refine⟨a1,a2,a3,by rw[List.length_set];exact a4,a5,a6,fun h=>absurd h (by show i.tot≠0;omega),?_,fun y hy=> ?_,fun _=>⟨b1,b2,pre,us,sp,hw,hpre,hlen,?_⟩⟩
   ·refine List.nodup_cons.2 ⟨fun h=> ?_,?_⟩
    ·rcases hmem _ h with h|h
     ·exact(List.nodup_cons.1 a8).1 (by rw[hsub];exact h)
     ·exact(hbdn _ h).2 rfl
    ·obtain⟨n1,n2,n3⟩:=List.nodup_append.1 hnd;refine List.nodup_append.2 ⟨n1,List.nodup_append.2 ⟨hbd2,n2,fun x hx y hy e=>(hbdn x hx).1 (by rw[e];exact List.mem_append_right _ hy)⟩,fun x hx y hy e=> ?_⟩;rcases List.mem_append.1 hy with h|h
     ·exact(hbdn y h).1 (by rw[<-e];exact List.mem_append_left _ hx)
     ·exact n3 x hx y h e
   ·rcases hmem y hy with h|h
    ·exact a9 y (by rw[hsub];exact h)
    ·obtain⟨h1,rfl⟩:=hbd1 y h;obtain⟨m,pre2,us2,sp2,q1,_⟩:=k7 h1;exact⟨m.1,m.2.1 (by rw[<-k2]at hgd;rw[<-k2];exact hgd),(Array.getElem?_eq_some_iff.1 q1).1⟩
   ·have:=hset (Ad6 w M ρ' 1 [.o e2 n (List.replicate n .z)] none) [.sl n ds] ((us.drop (j*1)).take 1) bd (fun i0 x u c hi0 hc0 hr0=>hr0.2 hi0) hu ⟨rfl,by rw[hv];exact hown⟩;have e9:D5 us (j*1) ((us.drop (j*1)).take 1)=us:=by
     have hul:=b6.len;unfold D5;rw[hu,<-List.drop_drop,List.append_assoc,List.take_append_drop,List.take_append_drop]
    rw[e9]at this;exact this)
  (fun ρ' _=>⟨rfl,rfl,rfl,rfl,Nat.le_refl _,Nat.zero_le _,fun h=>absurd h (Nat.lt_irrefl _)⟩)
 have:=hk.2 S wl M0 hH M _ f w ⟨by dsimp only;rw[H8,H8];exact h6,ha.ok,fun t ht=>C0.mono h5 _ (ha.sl t ht)⟩;exact this
theorem Bo8{g gd:Nat}{e e2:TypeId}{n:Nat}{es ds:List (List Dat)}(r d j:Nat)(es':List (List Dat))(hne:Nat.beq r d=false)(hr:B4 c.ob r=some (.tree g e 1 [.o e2 n (List.replicate n .z)] es (some (j,[.suf d gd 0]))))(hd:B4 c.ob d=some (.buf gd e2 n ds))(hgd:Nat.blt gd 1000000=true)(hj:j<es.length)(he:es.set j [.sl n ds]=es')
 (hk:J rr P N dfr fin ⟨c.sl,Ac3 (Ac3 c.ob r (.tree g e 1 [.o e2 n (List.replicate n .z)] es' none)) d (.buf (gd+1) e2 n []),c.td⟩):J rr P N dfr fin c:=by
 subst he;exact Fz2 r d j hne hr hd hgd hj hk
end
theorem Re.pt(cs:List Dat):Re (.rp cs 0) (.d (.pt cs)):=fun M ρ u h=>by
 obtain⟨b,o,us,rfl,hc,hr⟩:=Af1 h;exact Af0 (.pt cs b o us hc hr.len (fun j c u h1 h2=>hr.get h1 h2))
theorem shm{α β:Type}{f:α->β}{l:List α}{j:Nat}{z:α}:(l.map f).set j (f z)=(l.set j z).map f:=List.map_set.symm
theorem gjo{α β:Type}{l:List α}{f:α->β}{i:Int}{y:α}(h:C6 l i=some y):(l.map f)[i.toNat]? =some (f y):=by
 rw[List.getElem?_map,(N5 h).2];rfl
theorem glt{α β:Type}{l:List α}{f:α->β}{i:Int}{y:α}(h:C6 l i=some y):i.toNat<(l.map f).length:=by
 rw[List.length_map];exact(List.getElem?_eq_some_iff.1 (N5 h).2).1
theorem ckI{α β:Type}{l:List α}{f:α->β}{i:Int}{y:α}(h:C6 l i=some y):chk (decide (0<=i)&&(decide (0+i.toNat=i.toNat)&&decide (i.toNat<(l.map f).length)))=some []:=by
 have h0:0<=i:=by have:=(N5 h).1;omega
 rw[dT_ h0,dT_ (Nat.zero_add _),dT_ (glt h)];rfl
theorem ckE{α β:Type}{l:List α}{f:α->β}{i:Int}{y:α}(h:C6 l i=some y):chk (decide (i.toNat=i.toNat)&&decide (i.toNat<(l.map f).length))=some []:=by
 rw[dT_ rfl,dT_ (glt h)];rfl
end
section
def K1(W:World):Mem:=fun b=>match W.heap[b]? with|some (.cells c _ _)=>some c|_=>none
theorem Dc3(W:World):Ai2 (K1 W) W:=fun b c h=>by
 unfold K1 at h;split at h
 ·rename_i c' e z hh;cases h;exact⟨_,e,z,hh,Pre.refl _⟩
 ·cases h
theorem Ck2{W:World}{a:Addr}{v:Value}(h:W.cell? a=some v):∃c,K1 W a.block=some c/\a.spot=none/\c[a.off]? =some v:=by
 unfold World.cell? at h;split at h
 ·rename_i c e z hh;split at h
  ·cases h
  ·rename_i hs;exact⟨c,by unfold K1;rw[hh],by simpa using hs,h⟩
 ·cases h
theorem Ap2{α β:Type}{f:α->Option β}:∀{l:List α} {us:List β},l.mapM f=some us->us.length=l.length/\∀(i:Nat) (x:α),l[i]? =some x->∃y,us[i]? =some y/\f x=some y
 |[],us,h=>by simp at h;subst h;exact⟨rfl,fun i x h=>by simp at h⟩
 |a::l,us,h=>by
  rw[List.mapM_cons]at h;simp only[Option.bind_eq_bind,Option.bind_eq_some_iff,Option.pure_def,Option.some.injEq]at h;obtain⟨y,hy,ys,hys,rfl⟩:=h;obtain⟨h1,h2⟩:=Ap2 hys;refine⟨by simp[h1],fun i x hi=> ?_⟩;cases i with
  |zero=>simp at hi;subst hi;exact⟨y,by simp,hy⟩
  |succ i=>simpa using h2 i x (by simpa using hi)
theorem Bp5{W:World}{a:Addr}{n:Nat}{us:List Value}(h:W.cells? 0 a n=some us):us.length=n/\∀i,i<n->W.cell? (a.add i)=us[i]? :=by
 unfold World.cells? at h;rw[if_pos (Nat.zero_le _)]at h;obtain⟨h1,h2⟩:=Ap2 h;refine⟨by simpa using h1,fun i hi=> ?_⟩;obtain⟨y,hy,hf⟩:=h2 i i (by simp[hi]);rw[hf,hy]
theorem Bp0{a:Addr}(hs:a.spot=none)(n:Nat):a.add n=⟨a.block,a.off+n,none⟩:=by
 unfold Addr.add;split
 ·rename_i h;subst h;cases a;simp at hs⊢;exact hs
 ·rfl
theorem Bx2(a:Addr):a.add 0=a:=by simp[Addr.add]
def Gl2(F:TypeId->List Dat->Prop):List Field->List Dat->Prop
 |[],ds=>ds=[]
 |f::fs,ds=>∃x y,ds=x++y/\F f.type x/\Gl2 F fs y
def Gl1(F:List Dat->Prop):Nat->List Dat->Prop
 |0,ds=>ds=[]
 |n+1,ds=>∃x y,ds=x++y/\F x/\Gl1 F n y
def Fit(P:Program):Nat->TypeId->List Dat->Prop
 |0,_,_=>False
 |n+1,t,ds=>match P.underlying t with
  |some .bool=>∃b,ds=[.bool b]
  |some (.int k)=>∃m,ds=[.int k m]/\(Lit.int k m).wf=true
  |some .string=>∃s,ds=[.str s]/\s.length<=maxLen
  |some (.slice e)=>∃es,ds=[.sl (P.cellsOf e) es]/\es.length<=maxLen/\∀x∈es,Fit P n e x
  |some (.struct fs)=>Gl2 (Fit P n) fs.toList ds
  |some (.array k e)=>Gl1 (Fit P n e) k ds
  |_=>False
def Bl6(P:Program)(okT:TypeId->Bool):List Field->Nat->Nat->Bool
 |[],o,tot=>Nat.beq o tot
 |f::fs,o,tot=>match Nat.beq f.offset o,okT f.type with|true,true=>Bl6 P okT fs (o+P.cellsOf f.type) tot|_,_=>false
def okT(P:Program):Nat->TypeId->Bool
 |0,_=>false
 |n+1,t=>match P.underlying t with
  |some .bool=>true
  |some (.int _)=>true
  |some .string=>true
  |some (.slice e)=>match Nat.ble 1 (P.cellsOf e) with|true=>okT P n e|false=>false
  |some (.struct fs)=>Bl6 P (okT P n) fs.toList 0 (P.cellsOf t)
  |some (.array k e)=>match Nat.beq (k*P.cellsOf e) (P.cellsOf t) with|true=>okT P n e|false=>false
  |_=>false
section
variable {H:Type} {enc:TypeId×Value->H} {P:Program} {W:World}
theorem Bh6{G:TypeId->List Value->Option (DataW H×List MemPlace)}{F:TypeId->List Dat->Prop}{okt:TypeId->Bool}(hG:∀t cs x,okt t=true->G t cs=some x->∃ds,D3 (K1 W) ds cs/\F t ds):
 ∀(fs:List Field) (o:Nat) (cs:List Value) (xs:List (DataW H×List MemPlace)),Bl6 P okt fs o cs.length=true->fs.mapM (fun f=>G f.type ((cs.drop f.offset).take (P.cellsOf f.type)))=some xs->o<=cs.length->∃ds,D3 (K1 W) ds (cs.drop o)/\Gl2 F fs ds
 |[],o,cs,xs,hc,_,_=>by
  have:o=cs.length:=nB_ hc;rw[List.drop_eq_nil_of_le (by omega)];exact⟨[],by simp[D3],rfl⟩
 |f::fs,o,cs,xs,hc,hm,ho=>by
  unfold Bl6 at hc;split at hc
  ·rename_i hb hok;have hb:=nB_ hb;rw[List.mapM_cons]at hm;simp only[Option.bind_eq_bind,Option.bind_eq_some_iff,Option.pure_def,Option.some.injEq]at hm;obtain⟨y,hy,ys,hys,_⟩:=hm;rw[hb]at hy;obtain⟨d1,r1,f1⟩:=hG _ _ _ hok hy;have hle:o+P.cellsOf f.type<=cs.length:=by
    have key:∀(fs:List Field) (o tot:Nat),Bl6 P okt fs o tot=true->o<=tot:=fun fs=>by
     induction fs with
     |nil=>intro o tot h;have:=nB_ h;omega
     |cons g gs ih=>
      intro o tot h;unfold Bl6 at h;split at h
      ·have:=ih _ _ h;omega
      ·cases h
    exact key fs _ _ hc
   obtain⟨d2,r2,f2⟩:=Bh6 hG fs (o+P.cellsOf f.type) cs ys hc hys hle;refine⟨d1++d2,?_,d1,d2,rfl,f1,f2⟩;have e:cs.drop o=(cs.drop o).take (P.cellsOf f.type)++cs.drop (o+P.cellsOf f.type):=by
    rw[<-List.drop_drop,List.take_append_drop]
   rw[e];exact r1.append r2
  ·cases hc
theorem trod_array{G:List Value->Option (DataW H×List MemPlace)}{F:List Dat->Prop}{sz:Nat}(hG:∀cs x,G cs=some x->∃ds,D3 (K1 W) ds cs/\F ds):
 ∀(n j:Nat) (cs:List Value),cs.length=(j+n)*sz->(∀i,i<n->∃x,G ((cs.drop ((j+i)*sz)).take sz)=some x)->∃ds,D3 (K1 W) ds (cs.drop (j*sz))/\Gl1 F n ds
 |0,j,cs,hl,_=>⟨[],by rw[List.drop_eq_nil_of_le (by rw[hl];simp)];simp[D3],rfl⟩
 |n+1,j,cs,hl,h=>by
  obtain⟨x,hx⟩:=h 0 (by omega);obtain⟨d1,r1,f1⟩:=hG _ _ hx;obtain⟨d2,r2,f2⟩:=trod_array hG n (j+1) cs (by rw[hl];congr 1;omega) (fun i hi=>by obtain⟨y,hy⟩:=h (i+1) (by omega);exact⟨y,by rw[show j+1+i=j+(i+1) by omega];exact hy⟩);refine⟨d1++d2,?_,d1,d2,rfl,f1,f2⟩;have e:cs.drop (j*sz)=(cs.drop ((j+0)*sz)).take sz++cs.drop ((j+1)*sz):=by
   rw[Nat.add_zero,Nat.add_mul,Nat.one_mul,<-List.drop_drop,List.take_append_drop]
  rw[e];exact r1.append r2
theorem W4:∀(m:Nat) (t:TypeId) (n:Nat) (cs:List Value) (x:DataW H×List MemPlace),okT P m t=true->DataW.trod enc P W 0 (fun _=>true) true n t cs=some x->∃ds,D3 (K1 W) ds cs/\Fit P m t ds
 |0,_,_,_,_,h,_=>by cases h
 |m+1,t,0,cs,x,_,h=>by cases h
 |m+1,t,n+1,cs,x,hk,h=>by
  unfold okT at hk;split at hk
  ·rename_i hu;unfold DataW.trod at h;rw[hu]at h;split at h<;>first|(exfalso;simp_all;done)|skip
   rename_i b he;exact⟨[.bool b],⟨_,[],rfl,.bool b,rfl⟩,by unfold Fit;rw[hu];exact⟨b,rfl⟩⟩
  ·rename_i k hu;unfold DataW.trod at h;rw[hu]at h;split at h<;>first|(exfalso;simp_all;done)|skip
   rename_i k1 k2 q he;cases he;split at h
   ·rename_i hkk;obtain⟨rfl,hwf⟩:=hkk;exact⟨[.int _ q],⟨_,[],rfl,.int _ q,rfl⟩,by unfold Fit;rw[hu];exact⟨q,rfl,hwf⟩⟩
   ·cases h
  ·rename_i hu;unfold DataW.trod at h;rw[hu]at h;split at h<;>first|(exfalso;simp_all;done)|skip
   rename_i s he;split at h
   ·rename_i hs;refine⟨[.str s.data.toList],⟨_,[],rfl,?_,rfl⟩,by unfold Fit;rw[hu];exact⟨_,rfl,by simpa using hs⟩⟩;have:Ac5 s.data.toList= .string s:=by simp[Ac5]
    rw[<-this];exact .str _
   ·cases h
  ·rename_i e hu;split at hk
   ·rename_i hsz;have hsz:=Nat.le_of_ble_eq_true hsz;unfold DataW.trod at h;rw[hu]at h;split at h<;>first|(exfalso;simp_all;done)|skip
    ·exact⟨[.sl (P.cellsOf e) []],⟨_,[],rfl,.sl _ [] none 0 0 0 (fun _=>[]) (Nat.le_refl _) (fun h=>absurd rfl h) (fun i hi=>by simp at hi) (fun i cs hi=>by simp at hi) (fun i j cs c u hi=>by simp at hi),rfl⟩,by unfold Fit;rw[hu];exact⟨[],rfl,Nat.zero_le _,fun x hx=>by cases hx⟩⟩
    ·rename_i e' a len cap he;cases he;split at h
     ·rename_i hle;obtain⟨_,hlc,hcap⟩:=hle;simp only[Option.bind_eq_some_iff]at h;obtain⟨elems,hel,_⟩:=h;obtain⟨hlen,hget⟩:=Ap2 hel;rw[List.length_range]at hlen;have hone:∀i,i<len->∃us ds,W.cells? 0 (a.add (i*P.cellsOf e)) (P.cellsOf e)=some us/\D3 (K1 W) ds us/\Fit P m e ds:=fun i hi=>by
       obtain⟨y,_,hy⟩:=hget i i (by simp[hi]);simp only[Option.bind_eq_some_iff]at hy;obtain⟨us,h1,h2⟩:=hy;obtain⟨ds,h3,h4⟩:=W4 m e n us y hk h2;exact⟨us,ds,h1,h3,h4⟩
      have hch:∃es:List (List Dat),es.length=len/\∀i d,es[i]? =some d->∃us,W.cells? 0 (a.add (i*P.cellsOf e)) (P.cellsOf e)=some us/\D3 (K1 W) d us/\Fit P m e d:=by
       have build:∀k,k<=len->∃es:List (List Dat),es.length=k/\∀i d,es[i]? =some d->∃us,W.cells? 0 (a.add (i*P.cellsOf e)) (P.cellsOf e)=some us/\D3 (K1 W) d us/\Fit P m e d:=fun k=>by
        induction k with
        |zero=>exact fun _=>⟨[],rfl,fun i d h=>by simp at h⟩
        |succ k ih=>
         intro hk';obtain⟨es,h1,h2⟩:=ih (by omega);obtain⟨us,ds,h3,h4,h5⟩:=hone k (by omega);refine⟨es++[ds],by simp[h1],fun i d hi=> ?_⟩;by_cases hik:i<es.length
         ·rw[List.getElem?_append_left hik]at hi;exact h2 i d hi
         ·rw[List.getElem?_append_right (by omega)]at hi;have:i-es.length=0:=by
           cases hz:i-es.length with
           |zero=>rfl
           |succ z=>rw[hz]at hi;simp at hi
          rw[this]at hi;simp at hi;subst hi;have:i=k:=by omega
          subst this;exact⟨us,h3,h4,h5⟩
       exact build len (Nat.le_refl _)
      obtain⟨es,hes,hall⟩:=hch;have hspot:0<len->a.spot=none:=fun h0=>by
       obtain⟨us,ds,h1,_⟩:=hone 0 h0;obtain⟨h2,h3⟩:=Bp5 h1;have h4:=h3 0 (by omega);rw[Nat.zero_mul,Bx2,Bx2]at h4;rw[List.getElem?_eq_getElem (by omega)]at h4;obtain⟨c,_,h5,_⟩:=Ck2 h4;exact h5
      refine⟨[.sl (P.cellsOf e) es],⟨_,[],rfl,?_,rfl⟩,by unfold Fit;rw[hu];exact⟨es,rfl,by omega,fun x hx=>by obtain⟨i,hi⟩:=List.mem_iff_getElem?.1 hx;obtain⟨us,_,_,h⟩:=hall i x hi;exact h⟩⟩;have hus:∃us:Nat->List Value,∀i d,es[i]? =some d->W.cells? 0 (a.add (i*P.cellsOf e)) (P.cellsOf e)=some (us i)/\D3 (K1 W) d (us i):=by
       refine⟨fun i=>(W.cells? 0 (a.add (i*P.cellsOf e)) (P.cellsOf e)).getD [],fun i d hi=> ?_⟩;obtain⟨us,h1,h2,_⟩:=hall i d hi;dsimp only;rw[h1];exact⟨rfl,h2⟩
      obtain⟨us,hus⟩:=hus;rw[<-hes];refine .sl _ es (some a) cap a.block a.off us (by omega) (fun hne=> ?_) (fun i hi=> ?_) (fun i d hi=> ?_) (fun i j d c u hi hj hu=> ?_)
      ·have:0<es.length:=List.length_pos_iff.2 hne;have:=hspot (by omega);cases a;simp at this⊢;exact this
      ·obtain⟨h1,h2⟩:=hus i es[i] (List.getElem?_eq_getElem hi);obtain⟨h3,h4⟩:=Bp5 h1;have hs:=hspot (by omega);have h40:=h4 0 (by omega);rw[List.getElem?_eq_getElem (show 0<(us i).length by omega)]at h40;obtain⟨c,h5,_,_⟩:=Ck2 h40;rw[Bp0 hs,Bp0 rfl]at h5;refine⟨c,h5,fun j hj=> ?_⟩;have h4j:=h4 j (by omega);rw[List.getElem?_eq_getElem hj]at h4j;obtain⟨c',h6,_,h7⟩:=Ck2 h4j;rw[Bp0 hs,Bp0 rfl]at h6 h7;rw[h5]at h6;cases h6;rw[List.getElem?_eq_getElem hj];exact h7
      ·obtain⟨h1,h2⟩:=hus i d hi;have:=(Bp5 h1).1;have:=h2.len;omega
      ·exact(hus i d hi).2.get hj hu
     ·cases h
   ·cases hk
  ·rename_i fs hu;unfold DataW.trod at h;rw[hu]at h;split at h<;>first|(exfalso;simp_all;done)|skip
   rename_i fs' cs' he;cases he;split at h
   ·rename_i hlen;simp only[Option.map_eq_some_iff]at h;obtain⟨xs,hxs,_⟩:=h;obtain⟨ds,h1,h2⟩:=Bh6 (P:=P) (W:=W) (G:=fun t cs=>DataW.trod enc P W 0 (fun _=>true) true n t cs) (F:=Fit P m) (okt:=okT P m) (fun t cs x h1 h2=>W4 m t n cs x h1 h2) fs.toList 0 _ xs (by rw[hlen];exact hk) hxs (Nat.zero_le _);exact⟨ds,by simpa using h1,by unfold Fit;rw[hu];exact h2⟩
   ·cases h
  ·rename_i k e hu;split at hk
   ·rename_i hsz;have hsz:=nB_ hsz;unfold DataW.trod at h;rw[hu]at h;split at h<;>first|(exfalso;simp_all;done)|skip
    rename_i k' e' cs' he;cases he;split at h
    ·rename_i hlen;simp only[Option.map_eq_some_iff]at h;obtain⟨xs,hxs,_⟩:=h;obtain⟨_,hget⟩:=Ap2 hxs;obtain⟨ds,h1,h2⟩:=trod_array (W:=W) (G:=fun cs=>DataW.trod enc P W 0 (fun _=>true) true n e cs) (F:=Fit P m e) (sz:=P.cellsOf e) (fun cs x h=>W4 m e n cs x hk h) k 0 _ (by rw[hlen,<-hsz,Nat.zero_add]) (fun i hi=>by
      obtain⟨y,_,hy⟩:=hget i i (by simp[hi]);exact⟨y,by rw[Nat.zero_add];exact hy⟩)
     exact⟨ds,by simpa using h1,by unfold Fit;rw[hu];exact h2⟩
    ·cases h
   ·cases hk
  ·cases hk
section
variable {P:Program} {n:Nat} {t:TypeId} {ds:List Dat}
theorem Eg4(hu:P.underlying t=some .bool)(h:Fit P (n+1) t ds):∃b,ds=[.bool b]:=by unfold Fit at h;rw[hu]at h;exact h
theorem Dm9{k:IntKind}(hu:P.underlying t=some (.int k))(h:Fit P (n+1) t ds):∃m,ds=[.int k m]/\(Lit.int k m).wf=true:=by unfold Fit at h;rw[hu]at h;exact h
theorem Dn0{e:TypeId}(hu:P.underlying t=some (.slice e)){sz:Nat}(hs:P.cellsOf e=sz)(h:Fit P (n+1) t ds):∃es,ds=[.sl sz es]/\es.length<=maxLen/\∀x∈es,Fit P n e x:=by unfold Fit at h;rw[hu]at h;subst hs;exact h
theorem Bk7{fs:Array Field}(hu:P.underlying t=some (.struct fs))(h:Fit P (n+1) t ds):Gl2 (Fit P n) fs.toList ds:=by unfold Fit at h;rw[hu]at h;exact h
theorem Bw5{k:Nat}{e:TypeId}(hu:P.underlying t=some (.array k e))(h:Fit P (n+1) t ds):Gl1 (Fit P n e) k ds:=by unfold Fit at h;rw[hu]at h;exact h
theorem Cr2{α:Type}{en:α->List Dat}{Q:α->Prop}{F:List Dat->Prop}(h:∀x,F x->∃y,x=en y/\Q y):∀(es:List (List Dat)),(∀x∈es,F x)->∃l:List α,es=l.map en/\∀y∈l,Q y
 |[],_=>⟨[],rfl,fun y h=>by cases h⟩
 |x::es,hx=>by
  obtain⟨y,rfl,hy⟩:=h x (hx x List.mem_cons_self);obtain⟨l,rfl,hl⟩:=Cr2 h es (fun x h=>hx x (List.mem_cons_of_mem _ h));exact⟨y::l,rfl,fun z hz=>by rcases List.mem_cons.1 hz with rfl|hz;exact hy;exact hl z hz⟩
theorem Gg6{W:World}{r:Reach}{base:Nat}{v:Value}{fs:Array Field}(hu:P.underlying t=some (.struct fs))(h:Value.okWide P W r base t v):∃cs,v= .agg cs:=by
 unfold Value.okWide at h;rw[hu]at h;obtain⟨cs,e,_⟩:=h;exact⟨cs,e⟩
theorem Gg5{W:World}{r:Reach}{base:Nat}{v:Value}{k:Nat}{e:TypeId}(hu:P.underlying t=some (.array k e))(h:Value.okWide P W r base t v):∃cs,v= .agg cs:=by
 unfold Value.okWide at h;rw[hu]at h;obtain⟨cs,e,_⟩:=h;exact⟨cs,e⟩
theorem Cd7{M:Mem}{cs:Array Value}(h:D3 M ds cs.toList):C0 M noR (.agg (dV ds)) (.agg cs):=by
 simp only[C0];exact⟨cs.toList,by simp,B5.dV h⟩
theorem Bt8{M:Mem}{d:Dat}{v:Value}(h:D3 M [d] [v]):C0 M noR (.d d) v:=by
 obtain⟨u,us,e,h1,_⟩:=h;cases e;simp only[C0];exact h1
end
end
end
section
section
variable {H:Type} {enc:TypeId×Value->H} {P:Program} {W:World} {M:Mem} {b:Nat} {sp:Nat->Bool} {held:Bool}
theorem Bp6{g:Nat}{cs:Array Value}{t:TypeId}{tag:Nat×Nat}(h:W.heap[g]? =some (.cells cs t tag)):X6 (K1 W) g 0 cs.toList:=
 ⟨cs,by unfold K1;rw[h],fun j hj=>by simp⟩
theorem Be0{n:String}{g:Nat}{cs:Array Value}(hg:P.globalNamed n=some g)(h:W.var? P n=some cs):∃e z,W.heap[g]? =some (.cells cs e z):=by
 simp only[World.var?,hg,Option.bind_some]at h;split at h
 ·rename_i e;cases h;exact⟨_,_,e⟩
 ·cases h
theorem Aw1{n:String}{g:Nat}{cs:Array Value}(hg:P.globalNamed n=some g)(h:W.var? P n=some cs):X6 (K1 W) g 0 cs.toList:=by
 simp only[World.var?,hg,Option.bind_some]at h;split at h
 ·rename_i e;cases h;exact Bp6 e
 ·cases h
def dw:DataW H->Option Dat
 | .lit (.int k z)=>some (.int k z)
 | .lit (.string s)=>some (.str s)
 | .lit (.bool x)=>some (.bool x)
 | .iface _ _=>some (.ife true)
 |_=>none
def okE(P:Program)(t:TypeId):Bool:=
 match P.underlying t with
 |some .bool=>true
 |some (.int _)=>true
 |some .string=>true
 |some (.interface _)=>true
 |_=>false
theorem el1{t:TypeId}{fuel:Nat}{cs:List Value}{d:DataW H}{q:List MemPlace}{x:Dat}(hk:okE P t=true)(h:DataW.trod enc P W b sp held fuel t cs=some (d,q))(hd:dw d=some x):∃v,cs=[v]/\Q7 M x v:=by
 cases fuel with
 |zero=>simp[DataW.trod]at h
 |succ n=>
  unfold okE at hk;split at hk
  ·rename_i hu;unfold DataW.trod at h;rw[hu]at h;split at h<;>first|(simp_all;done)|skip
   rename_i c _ _;simp only[Option.some.injEq,Prod.mk.injEq]at h;obtain⟨rfl,_⟩:=h;cases hd;exact⟨_,rfl,.bool _⟩
  ·rename_i hu;obtain⟨z,rfl,hx,_⟩:=DataW.trod_int hu h;cases hx;cases hd;exact⟨_,rfl,.int _ _⟩
  ·rename_i hu;obtain⟨s,rfl,hx,_⟩:=DataW.trod_string hu h;cases hx;cases hd;refine⟨_,rfl,?_⟩;have:=Q7.str (M:=M) s.data.toList;simpa[Ac5] using this
  ·rename_i hu;unfold DataW.trod at h;rw[hu]at h;split at h<;>first|(simp_all;done)|skip
   ·cases h;cases hd
   ·split at h
    ·cases h;cases hd
    ·rename_i nm _;simp only[Option.map_eq_some_iff,Prod.mk.injEq]at h;obtain⟨_,_,rfl,_⟩:=h;cases hd;exact⟨_,rfl,.ifc _ _⟩
    ·cases h
  ·cases hk
theorem Hk2{t e:TypeId}{k fuel:Nat}{cs:List Value}{ds:List (DataW H)}{q:List MemPlace}{xs:List Dat}(ht:P.underlying t=some (.array k e))(hk:okE P e=true)(hc:P.cellsOf e=1)(hct:P.cellsOf t=k)
 (h:DataW.trod enc P W b sp held fuel t cs=some (.agg ds,q)) (hd:ds.mapM dw=some xs):D3 M xs cs:=by
 obtain⟨ys,m,_,ex,hl,hn,hel⟩:=DataW.trod_array ht h;have ed:ds=ys.map (·.1):=DataW.agg.inj (Prod.mk.inj ex).1;have hm:=Ap2 hd;refine D3.of_get (by rw[hl,hct,hm.1,ed,List.length_map,hn]) (fun j c u h1 h2=> ?_);have hj:j<k:=by
  have:=(List.getElem?_eq_some_iff.mp h2).1;omega
 have hy:ys[j]? =some ys[j]:=List.getElem?_eq_getElem (by omega);have h3:=hel j hj;rw[hy,hc,Nat.mul_one]at h3;have hdj:ds[j]? =some (ys[j]).1:=by rw[ed,List.getElem?_map,hy];rfl
 obtain⟨y,e1,e2⟩:=hm.2 j _ hdj;obtain rfl:y=c:=Option.some.inj (e1.symm.trans h1);obtain⟨v,e3,e4⟩:=el1 (M:=M) hk (show DataW.trod enc P W b sp held m e _=some ((ys[j]).1,(ys[j]).2) from h3) e2;have e5:cs[j]? =some v:=by
  have:((cs.drop j).take 1)[0]? =some v:=by rw[e3];rfl
  simpa using this
 obtain rfl:v=u:=Option.some.inj (e5.symm.trans h2);exact e4
end
section
variable {P:Program} {W:World} {laid:List (String×DataW Unit)}
theorem Ae4:∀{laid:List (String×DataW Unit)} {ps:List MemPlace} {i:Nat} {n:String} {d:DataW Unit},DataW.LaidVars P W laid ps->laid[i]? =some (n,d)->
 ∃g t cs fuel p,P.globalNamed n=some g/\(P.globals[g]?).map (·.type)=some t/\W.var? P n=some cs/\DataW.trod (fun _=>()) P W 0 (fun _=>true) false fuel t cs.toList=some (d,p)
 |[],_,_,_,_,_,h=>by simp at h
 |(m,e)::l,ps,0,n,d,h,hi=>by
  obtain⟨g,t,cs,fuel,p,q,h1,h2,h3,h4,_⟩:=h;simp only[List.getElem?_cons_zero,Option.some.injEq,Prod.mk.injEq]at hi;obtain⟨rfl,rfl⟩:=hi;exact⟨g,t,cs,fuel,p,h1,h2,h3,h4⟩
 |(m,e)::l,ps,i+1,n,d,h,hi=>by
  obtain⟨_,_,_,_,_,q,_,_,_,_,h5,_⟩:=h;exact Ae4 h5 (by simpa using hi)
theorem Dt6(hl:laidMet P laid W)(i:Nat){n:String}{ds:List (DataW Unit)}{g:Nat}{t e:TypeId}{k:Nat}{xs:List Dat}(hm:laid[i]? =some (n,.agg ds))(hg:P.globalNamed n=some g)(htt:(P.globals[g]?).map (·.type)=some t)
 (ht:P.underlying t=some (.array k e)) (hk:okE P e=true) (hc:P.cellsOf e=1) (hct:P.cellsOf t=k) (hd:ds.mapM dw=some xs):(∃us,X6 (K1 W) g 0 us/\D3 (K1 W) xs us)/\∃c e z,W.heap[g]? =some (.cells c e z)/\c.size=(xs:List Dat).length:=by
 obtain⟨ps,h,_⟩:=hl;obtain⟨g',t',cs,fuel,p,h1,h2,h3,h4⟩:=Ae4 h hm;obtain rfl:=Option.some.inj (hg.symm.trans h1);obtain rfl:=Option.some.inj (htt.symm.trans h2);have hr:=Hk2 (M:=K1 W) ht hk hc hct h4 hd;obtain⟨e',z',hh⟩:=Be0 hg h3;exact⟨⟨_,Aw1 hg h3,hr⟩,_,_,_,hh,by rw[<-hr.len,Array.length_toList]⟩
theorem Eu9(hl:laidMet P laid W)(i:Nat){n:String}{d:DataW Unit}{g:Nat}{t:TypeId}{x:Dat}(hm:laid[i]? =some (n,d))(hg:P.globalNamed n=some g)(htt:(P.globals[g]?).map (·.type)=some t)
 (hk:okE P t=true) (hd:dw d=some x):(∃us,X6 (K1 W) g 0 us/\D3 (K1 W) [x] us)/\∃c e z,W.heap[g]? =some (.cells c e z)/\c.size=([x]:List Dat).length:=by
 obtain⟨ps,h,_⟩:=hl;obtain⟨g',t',cs,fuel,p,h1,h2,h3,h4⟩:=Ae4 h hm;obtain rfl:=Option.some.inj (hg.symm.trans h1);obtain rfl:=Option.some.inj (htt.symm.trans h2);obtain⟨v,e,r⟩:=el1 (M:=K1 W) hk h4 hd;obtain⟨e',z',hh⟩:=Be0 hg h3;exact⟨⟨_,Aw1 hg h3,v,[],e,r,rfl⟩,_,_,_,hh,by rw[<-Array.length_toList,e];rfl⟩
theorem Ho1(hs:W.ShapedOpen P){g:Nat}{zero:Array Value}{t:TypeId}{k:IntKind}(hlt:g<P.globals.size)(hz:((begin P (fun _ _=>0) default).world.heap[g]?).bind Obj.row? =some (zero,t))
 (h1:zero.size=1) (hb:P.buildable t=true) (hu:P.underlying t=some (.int k)) (ht:P.cellTypes P.depth t=some [t]):∃m,X6 (K1 W) g 0 [.int k m]:=by
 obtain⟨cs,e1,e2,e3⟩:=hs.1 g zero t hlt hz;obtain⟨ts,e4,_,e5⟩:=e3 hb;obtain rfl:=Option.some.inj (ht.symm.trans e4);have e6:cs[0]? =some cs[0]:=Array.getElem?_eq_getElem (by omega);obtain⟨u,e7,e8⟩:=e5 0 _ e6;simp at e7;subst e7;unfold Cell.ok at e8;rw[hu]at e8;generalize hv:cs[0]'(by omega)=v at e8 e6;cases v<;>simp only at e8;obtain⟨rfl,_⟩:=e8;rename_i m _;refine⟨m,cs,by unfold K1;rw[e1],fun j hj=> ?_⟩;obtain rfl:j=0:=by simp at hj;omega
 simpa using e6
def Hc0(Q:Nat->List Dat->Prop):List (Nat×List Dat)->Prop
 |[]=>True
 |x::l=>Q x.1 x.2/\Hc0 Q l
theorem Cw2{Q:Nat->List Dat->Prop}:∀{l:List (Nat×List Dat)} {n:Nat} {cs:List Dat},Hc0 Q l->Gn6 l n=some cs->Q n cs
 |[],_,_,_,h=>by cases h
 |(m,x)::l,n,cs,hq,h=>by
  unfold Gn6 at h;cases hb:Nat.beq n m with
  |true=>
   rw[hb]at h;cases h;obtain rfl:=nB_ hb;exact hq.1
  |false=>
   rw[hb]at h;exact Cw2 hq.2 h
end
theorem Ac4{H:Type}{enc:TypeId×Value->H}{a:Assume}{C:Checked}{os:Os}{f:FuncId}{fn:Func}{s:ChangeSpec}{conds:List PathCond}{apart fresh handsOn again:Bool}{X:World->Array Value->Prop}
 (hX:∀(w w':World) (args:Array Value),w.heap=w'.heap->X w args->X w' args)
 (own:ownKnob C.prog.godebug=none) (started:os.Started) (noInit:C.prog.inits.idxOf? f=none) (hfn:C.prog.funcs[f]? =some fn)
 (witness:∃(w:World) (tape:Tape) (i:Input),w.os=os/\(w.forCall tape i).Shaped C.prog/\i.vars=[]/\Input.okWide C.prog (w.forCall tape i) .any w.heap.size f i/\
  ((s.pre enc C.prog fn conds apart (w.forCall tape i).memory i.args/\X (w.forCall tape i).memory i.args)/\sizedMet enc C.prog fn (OpenSpec.ofChange s) apart (w.forCall tape i).memory i.args)/\a.holds C.prog (lone (Frame.enter C.prog f i.args .normal) [] (w.forCall tape i)))
 (contract:∀(W:World) (base:Nat) (args:Array Value) (ds gs:List (DataW H)) (before:List MemPlace),
  (∀(j:Nat) t v,fn.params[j]? =some t->args[j]? =some v->Value.okWide C.prog W .any base t v)->
  DataW.Whole enc C.prog fn.params.toList s.vars apart W args.toList ds gs before->
  conds.all (PathCond.test C.prog ⟨fn.params.toList,ds,s.plain.varTypes C.prog,gs⟩)=true->
  X W args->W.ShapedOpen C.prog->
  Calls C.prog f args W fun e W'=>∃v,e= .returned v/\s.post enc C.prog fn apart fresh handsOn again W args v W'):
 ReturnsInHanded a C os f .any (fun w args=>(s.pre enc C.prog fn conds apart w args/\X w args)/\sizedMet enc C.prog fn (OpenSpec.ofChange s) apart w args) (s.post enc C.prog fn apart fresh handsOn again):=by
 refine returnsInHanded_of_calls own started noInit witness ?_;intro w tape i _ hsh _ hok hpre hholds;obtain⟨_,_,_,fn',hfn',_,_,_,_,hval⟩:=hok;have e:fn'=fn:=Option.some.inj (hfn'.symm.trans hfn);subst e;obtain⟨⟨⟨ds,gs,before,hw,hc⟩,hx⟩,hz⟩:=hpre;have hw':=DataW.Whole.of_heap (w':=w.forCall tape i) (by rfl) hw;refine(contract (w.forCall tape i) w.heap.size i.args ds gs before hval hw' hc (hX _ _ _ (by rfl) hx) hsh).mono fun e W' ⟨v,he,hp⟩=> ?_
 subst he;exact ChangeSpec.post_blind hp
end
section
@[reducible] def V.i (x:Int):V:= .d (.int .i64 x)
@[reducible] def V.n (x:Int):V:= .d (.int .u64 x)
@[reducible] def V.w (x:Int):V:= .d (.int .u32 x)
@[reducible] def V.y (x:Int):V:= .d (.int .u8 x)
@[reducible] def V.b (x:Bool):V:= .d (.bool x)
@[reducible] def V.s (x:List UInt8):V:= .d (.str x)
@[reducible] def V.l {α:Type} (n:Nat) (l:List α) (f:α->List Dat):V:= .d (.sl n (l.map f))
@[reducible] def kC (b:Code) (p:List Nat):It:= .code (cAt b p)
@[reducible] def kL (b:Code) (p:List Nat):It:= .inLoop (cAt b p)
@[reducible] def kO (b:Code) (p:List Nat):It:= .ops (Gy6 (cAt b p)) []
theorem oi{α:Type}{a b:α}(h:some a=some b):a=b:=Option.some.inj h
section
variable {r:Option Nat} {P:Program} {N:Nat} {ds:List Deferred} {fin:Fin} {c:Cfg} {q:R3}
theorem jc(n:Nat){g:FuncId}{ys:List V}{v:V}(he:A8 P g)(hcall:C3 P g ys v)(hk:J r P N ds fin (Go2 P N (Ax3 P N n c) v))(hc:Ct1 P N (Ax3 P N n c)=some (g,ys):=by kernel_rfl):J r P N ds fin c:=
 C4 n (Fe7 ys v hc he (M8.refl _) hcall hk)
theorem dc(n:Nat){g:FuncId}{ys:List V}{v:V}(he:A8 P g)(hcall:C3 P g ys v)(hk:JD r P N ds fin (Ej1 P N (L3 P N n q) v))(hc:Ei6 P N (L3 P N n q)=some (g,ys):=by kernel_rfl)(hb:Gm1 P N (L3 P N n q) v=true:=by kernel_rfl):JD r P N ds fin q:=
 R4 n (Eg7 ys v hc hb he (M8.refl _) hcall hk)
theorem jcr(n:Nat){g:FuncId}{os:List (Nat×B9)}{ys:List V}{H:List (Nat×B9)}{v:V}(p:List (Nat×Nat))(he:A8 P g)(hcall:I0 P g os ys H v)(hk:J r P N ds fin (Gz4 P N (Ax3 P N n c) p H v))(hc:Ck0 P N (Ax3 P N n c) p=some (g,os,ys):=by kernel_rfl)(hb:okR P N (Ax3 P N n c) p H=true:=by kernel_rfl):J r P N ds fin c:=
 C4 n (Fe8 p ys H v hc hb he (M8.refl _) hcall hk)
theorem dcr(n:Nat){g:FuncId}{os:List (Nat×B9)}{ys:List V}{H:List (Nat×B9)}{v:V}(p:List (Nat×Nat))(he:A8 P g)(hcall:I0 P g os ys H v)(hk:JD r P N ds fin (Fi2 P N (L3 P N n q) p H v))(hc:Bl8 P N (L3 P N n q) p=some (g,os,ys):=by kernel_rfl)(hb:Gs2 P N (L3 P N n q) p H v=true:=by kernel_rfl):JD r P N ds fin q:=
 R4 n (Eg8 p ys H v hc hb he (M8.refl _) hcall hk)
theorem dcs(n:Nat){g:FuncId}{os:List (Nat×B9)}{ys:List V}{H:List (Nat×B9)}{v:V}(p:List (Nat×Nat))(same:List Nat)(he:A8 P g)(hcall:I0 P g os ys H v)(hk:JD r P N ds fin (Fi3 P N (L3 P N n q) p H v same))(hc:Bl8 P N (L3 P N n q) p=some (g,os,ys):=by kernel_rfl)(hb:Gs3 P N (L3 P N n q) p H v same=true:=by kernel_rfl)(hs:Gy2 P N (L3 P N n q) p H same=Gz6 P N (L3 P N n q) p H same:=by kernel_rfl):JD r P N ds fin q:=
 R4 n (Eg9 p same H v hc hb hs he hcall hk)
theorem ji{α:Type}(n t:Nat){b:Bool}{x y z:α}(hF:(bif b then x else y)=z)(ht:b=true->x=z->J r P N ds fin (Ee3 (Ax3 P N n c) t (.d (.bool true))))(hf:b=false->y=z->J r P N ds fin (Ee3 (Ax3 P N n c) t (.d (.bool false))))(hb:G2 N (Ax3 P N n c).sl (.tmp t)= .d (.bool b):=by kernel_rfl):J r P N ds fin c:=
 C4 n (Fy7 t hb (fun h=>ht h (by subst h;exact hF)) (fun h=>hf h (by subst h;exact hF)))
theorem di{α:Type}(n t:Nat){b:Bool}{x y z:α}(hF:(bif b then x else y)=z)(ht:b=true->x=z->JD r P N ds fin (Ee2 (L3 P N n q) t (.d (.bool true))))(hf:b=false->y=z->JD r P N ds fin (Ee2 (L3 P N n q) t (.d (.bool false))))(hb:G2 N (L3 P N n q).sl (.tmp t)= .d (.bool b):=by kernel_rfl):JD r P N ds fin q:=
 R4 n (Fe6 t hb (fun h=>ht h (by subst h;exact hF)) (fun h=>hf h (by subst h;exact hF)))
theorem Hd9{α β:Type}{o:Option α}{f:α->Option β}{z:β}(h:Option.bind o f=some z):∃y,o=some y/\f y=some z:=by
 cases o with
 |none=>cases h
 |some y=>exact⟨y,rfl,h⟩
theorem jB(n:Nat){α β:Type}{o:Option α}{f:α->Option β}{z:β}{g:FuncId}{ys:List V}{v:α->V}(hF:Option.bind o f=some z)(he:A8 P g)(hcall:∀{y},o=some y->C3 P g ys (v y))(hk:∀y,f y=some z->J r P N ds fin (Go2 P N (Ax3 P N n c) (v y)))(hc:Ct1 P N (Ax3 P N n c)=some (g,ys):=by kernel_rfl):J r P N ds fin c:=by
 obtain⟨y,e,h⟩:=Hd9 hF;exact jc n he (hcall e) (hk y h) hc
theorem dB(n:Nat){α β:Type}{o:Option α}{f:α->Option β}{z:β}{g:FuncId}{ys:List V}{v:α->V}(hF:Option.bind o f=some z)(he:A8 P g)(hcall:∀{y},o=some y->C3 P g ys (v y))(hk:∀y,f y=some z->JD r P N ds fin (Ej1 P N (L3 P N n q) (v y)))(hc:Ei6 P N (L3 P N n q)=some (g,ys):=by kernel_rfl)(hb:∀y,Gm1 P N (L3 P N n q) (v y)=true:=by intro _;kernel_rfl):JD r P N ds fin q:=by
 obtain⟨y,e,h⟩:=Hd9 hF;exact dc n he (hcall e) (hk y h) hc (hb y)
theorem jI{α:Type}(n t:Nat){b:Bool}{x y z:α}(hF:(bif b then x else y)=z)(ht:x=z->J r P N ds fin (Ee3 (Ax3 P N n c) t (.d (.bool true))))(hf:y=z->J r P N ds fin (Ee3 (Ax3 P N n c) t (.d (.bool false))))(hb:G2 N (Ax3 P N n c).sl (.tmp t)= .d (.bool b):=by kernel_rfl):J r P N ds fin c:=ji n t hF (fun _=>ht) (fun _=>hf) hb
theorem dI{α:Type}(n t:Nat){b:Bool}{x y z:α}(hF:(bif b then x else y)=z)(ht:x=z->JD r P N ds fin (Ee2 (L3 P N n q) t (.d (.bool true))))(hf:y=z->JD r P N ds fin (Ee2 (L3 P N n q) t (.d (.bool false))))(hb:G2 N (L3 P N n q).sl (.tmp t)= .d (.bool b):=by kernel_rfl):JD r P N ds fin q:=di n t hF (fun _=>ht) (fun _=>hf) hb
theorem jo1(n:Nat){o:Option (List Dat)}{x:List Dat}(hx:o=some x)(hk:J r P N ds fin (Gz2 P N (Ax3 P N n c) x))(ho:Dx1 P N (Ax3 P N n c)=some o:=by kernel_rfl):J r P N ds fin c:=C4 n (G5 x ho hx hk)
theorem jo2(n:Nat){o:Option (List (List Dat))}{x:List (List Dat)}(hx:o=some x)(hk:J r P N ds fin (Gz3 P N (Ax3 P N n c) x))(ho:Dx2 P N (Ax3 P N n c)=some o:=by kernel_rfl):J r P N ds fin c:=C4 n (H5 x ho hx hk)
theorem do1(n:Nat){o:Option (List Dat)}{x:List Dat}(hx:o=some x)(hk:JD r P N ds fin (Fi0 P N (L3 P N n q) x))(ho:Fh8 P N (L3 P N n q)=some o:=by kernel_rfl)(hb:Gs0 P N (L3 P N n q) x=true:=by kernel_rfl):JD r P N ds fin q:=R4 n (As9 x ho hb hx hk)
theorem do2(n:Nat){o:Option (List (List Dat))}{x:List (List Dat)}(hx:o=some x)(hk:JD r P N ds fin (Fi1 P N (L3 P N n q) x))(ho:Fh9 P N (L3 P N n q)=some o:=by kernel_rfl)(hb:Gs1 P N (L3 P N n q) x=true:=by kernel_rfl):JD r P N ds fin q:=R4 n (Bo6 x ho hb hx hk)
theorem jd(n:Nat)(hk:JD r P N ds fin (Du2 (Ax3 P N n c)))(hm:P.follows .mixedOrders=true:=by kernel_rfl)(hd:Du5 (Ax3 P N n c)=true:=by kernel_rfl):J r P N ds fin c:=C4 n (Fy8 hm hd hk)
theorem je(n:Nat)(hk:J r P N ds fin ⟨(L3 P N n q).sl,(L3 P N n q).ob,(L3 P N n q).td⟩)(hr:(L3 P N n q).rest=[]:=by kernel_rfl):JD r P N ds fin q:=R4 n (Fy5 hr hk)
theorem ja(n:Nat){S0:List (Nat×V)}{O0:List (Nat×B9)}{T0:List It}(hk:J r P N ds fin ⟨mkT S0,O0,T0⟩)(hp:prune N (S0.map Prod.fst) (O0.map Prod.fst) (Ax3 P N n c)=some (S0,O0,T0):=by kernel_rfl)(hl:Bi4 N (S0.map Prod.fst)=true:=by kernel_rfl):J r P N ds fin c:=C4 n (Ci5 _ _ hp hl hk)
def Hg8(P:Program)(N:Nat)(c:Cfg)(fn:Func):Option V:=match Dy9 P N c fn.results.toList with|some xs=>some (Di3 xs)|none=>none
theorem jr(n:Nat){fn:Func}{v:V}(hv:Hg8 P N (Ax3 P N n c) fn=some v:=by kernel_rfl)(hN:Nat.ble N 1024=true:=by kernel_rfl):J r P N [] (L5 P fn v) c:=by
 unfold Hg8 at hv;split at hv
 ·rename_i xs hx;exact C4 n (Bo7 (rs:=fn.results.toList) xs (by simp) hN hx (M8.refl _) (Option.some.inj hv))
 ·cases hv
def Gh9(P:Program)(N:Nat)(c:Cfg)(fn:Func):Option (V×List (Nat×B9)):=match Cd8 P N c fn.results.toList with|some (xs,H)=>some (Di3 xs,H)|none=>none
theorem jrr(n:Nat){fn:Func}{v:V}{H:List (Nat×B9)}(hv:Gh9 P N (Ax3 P N n c) fn=some (v,H):=by kernel_rfl)(hN:Nat.ble N 1024=true:=by kernel_rfl):J r P N [] (Cf8 P fn H v) c:=by
 unfold Gh9 at hv;split at hv
 ·rename_i xs H' hx;have h1:=Option.some.inj hv;injection h1 with h2 h3
  subst h3;exact C4 n (Fz1 (rs:=fn.results.toList) xs (by simp) hN hx (M8.refl _) h2)
 ·cases hv
theorem cf(N:Nat){g:FuncId}{fn:Func}{args:List V}{v:V}(hf:P.funcs[g]? =some fn)(h:J none P N [] (L5 P fn v) ⟨mkT (Dh8 0 args),[],[.code (C2 fn)]⟩)(hb:fn.body=some (C2 fn):=by kernel_rfl)(hN:fn.ntmps=N:=by rfl)(hv:Nat.ble args.length N=true:=by rfl):C3 P g args v:=Eh8 hf hb hN hv h
theorem cr(N:Nat){g:FuncId}{fn:Func}{os H:List (Nat×B9)}{args:List V}{v:V}(hf:P.funcs[g]? =some fn)(h:J none P N [] (Cf8 P fn H v) ⟨mkT (Dh8 0 args),os,[.code (C2 fn)]⟩)(hb:fn.body=some (C2 fn):=by kernel_rfl)(hN:fn.ntmps=N:=by rfl)(hv:Nat.ble args.length N=true:=by rfl):I0 P g os args H v:=Eh9 hf hb hN hv h
end
end
end Go.Proofs.YtdlnalepibeibaaGreatDoor.Kx
end
