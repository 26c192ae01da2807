/- One part of the texts that lead to the theorem; it claims nothing by itself. -/
import GoSem.ClaimChange
import GoSem.ClaimWide
import Derived.Lay
import Derived.LaidMore
import Derived.ProofKit
import Derived.OpenShut
import Derived.Handed
import Derived.Stop.Joined
import Derived.SevenTiedAt
import Derived.KernelRfl
import Derived.Test.YtfgbhfphjmmiaaaGreatDoorRows
import Derived.Deep.DeepHandedRow
import Derived.JoinedCond
import Derived.Test.YtfgbhfphjmmiaaaGreatDoorGab
open List
section
namespace Go.Proofs.YtfgbhfphjmmiaaaGreatDoor.Kx
open Go Go.RowKit Go.IntKind
section
def Fr9:List Sh->Bool
 |[]=>true
 | .z::l=>Fr9 l
 | .o _ _ _::_=>false
theorem Bl9:∀{l:List Sh},Fr9 l=true->l=List.replicate l.length .z
 |[],_=>rfl
 | .z::l,h=>by rw[length_cons,List.replicate_succ,<-Bl9 (l:=l) h]
def Fl6(g:Nat)(e:TypeId)(n:Nat)(cs:List Sh)(es:List (List Dat)):B9:=match Fr9 cs&&Nat.beq cs.length n with
 |true=> .buf g e n es
 |false=> .tree g e n cs es none
def opn(d:Nat):List Sh->List Dat->Option (List V×B9)
 | .z::shs,x::ds=>match opn d shs ds with|some (vs,o)=>some (.d x::vs,o)|none=>none
 | .o e n cs::shs,.sl _ es::ds=>match Fr9 shs with|true=>some (.suf d 0 0::dV ds,Fl6 0 e n cs es)|false=>none
 |_,_=>none
section
variable {S:L8} {wl w:World} {M0 M:Mem} {ρ:Rho} {ob:Nat->Option B9}
theorem En5:∀{ds:List Dat} {us:List Value},C9 M ds us->B2 M ρ (dV ds) us
 |[],us,h=>h
 |d::ds,us,⟨u,us',e,h1,h2⟩=>⟨u,us',e,V5 h1,En5 h2⟩
def Di2(S:L8)(wl:World)(M:Mem)(w:World)(bs:List Nat):Prop:=∀b,b∈bs->(S b\/wl.heap.size<=b)/\M b=none/\b<w.heap.size
theorem Fy0{e:TypeId}{n m:Nat}{cs:List Sh}{es:List (List Dat)}{v:Value}{bs:List Nat}(h:Ad5 w M (.o e n cs) (.sl m es) v bs)(hb:bs.Nodup)(hm:Di2 S wl M w bs):
 m=n/\v.oneCell'=true/\∃k:Inf,k.g=0/\(∀ρ',J0 S wl M ρ' w k (Fl6 0 e n cs es))/\(∀y,blk k (Fl6 0 e n cs es) y->y∈bs)/\∀ρ' d,ρ' d=some k->B8 M ρ' (.suf d 0 0) v:=by
 simp only[Ad5]at h;obtain⟨ds',ad,cap,e3,rfl,hcap,hcm,hcase⟩:=h;cases e3;refine⟨rfl,rfl,?_⟩;rcases hcase with⟨h0,rfl⟩|⟨h0,bb,base,bs',pre2,us2,sp2,h1,h2,h3,h4,h5,h6⟩
 .have hds:es=[]:=b7_.1 (by omega);subst hds;subst h0;refine⟨⟨0,0,0,n,0,0,false,[]⟩,rfl,fun _=> ?_,fun y hy=> ?_,fun ρ' d hd=> ?_⟩
  .unfold Fl6;split
   .exact⟨rfl,rfl,rfl,rfl,ad_ _,at_ _,fun h=>absurd h (ay_ _)⟩
   .exact⟨rfl,rfl,rfl,rfl,ad_ _,at_ _,fun _=>rfl,by simp,fun b hb=>(by cases hb),fun h=>absurd h (ay_ _)⟩
  .unfold Fl6 at hy;split at hy
   .exact absurd (J4 hy rfl).1 (ay_ _)
   .rcases hy with h|h
    .exact absurd h.1 (ay_ _)
    .exact absurd h.2 (by simp)
  .exact P6 (M:=M) (ρ:=ρ') (q:=d) (g:=0) (off:=0) (p:=ad) hd rfl (at_ _) (fun h=>absurd h (ay_ _))
 .have hnb:bb∉bs'/\bs'.Nodup:=by rw[h2]at hb;exact nodup_cons.1 hb
  have hmb:=hm bb (by rw[h2];exact ab_);unfold Fl6;split
  .rename_i hz;simp only[Bool.and_eq_true]at hz;have hcl:=nB_ hz.2;have hcs:=Bl9 hz.1;rw[hcl]at hcs;rw[hcs]at h6;obtain⟨rfl,h7⟩:=Fj2 h6;refine⟨⟨bb,base,cap,n,es.length,0,false,[]⟩,rfl,fun _=>⟨rfl,rfl,rfl,rfl,hcap,hcm,fun _=>⟨⟨hmb.1,fun _=>hmb.2.1,fun c hc=>by rw[show M bb=none from hmb.2.1]at hc;cases hc⟩,pre2,us2,sp2,h3,h4,h5,h7⟩⟩,fun y hy=>by rw[h2,<-(J4 hy rfl).2];exact ab_,fun ρ' d hd=> ?_⟩;have:=P6 (M:=M) (ρ:=ρ') (q:=d) (g:=0) (off:=0) (p:=ad) hd rfl (at_ _) (fun _=>by rw[h1,Nat.add_zero])
   rwa [a8_,a8_]at this
  .refine⟨⟨bb,base,cap,n,es.length,0,false,bs'⟩,rfl,fun ρ'=>⟨rfl,rfl,rfl,rfl,hcap,hcm,fun h=>absurd h (by show cap≠0;omega),nodup_cons.2 hnb,fun b hb'=>hm b (by rw[h2];exact mem_cons_of_mem _ hb'),fun _=>⟨⟨hmb.1,fun _=>hmb.2.1,fun c hc=>by rw[show M bb=none from hmb.2.1]at hc;cases hc⟩,rfl,pre2,us2,sp2,h3,h4,h5,h6⟩⟩,fun y hy=> ?_,fun ρ' d hd=> ?_⟩
   .rw[h2];rcases hy with h|h
    .rw[<-h.2];exact ab_
    .exact mem_cons_of_mem _ h.2
   .have:=P6 (M:=M) (ρ:=ρ') (q:=d) (g:=0) (off:=0) (p:=ad) hd rfl (at_ _) (fun _=>by rw[h1,Nat.add_zero])
    rwa [a8_,a8_]at this
theorem Er1{d:Nat}:∀{shs:List Sh} {ds:List Dat} {us:List Value} {bs:List Nat} {vs:List V} {o:B9},F7 w M shs ds us bs->opn d shs ds=some (vs,o)->bs.Nodup->Di2 S wl M w bs->
 (∀u∈us,u.oneCell'=true)/\∃k:Inf,k.g=0/\(∀ρ',J0 S wl M ρ' w k o)/\(∀y,blk k o y->y∈bs)/\∀ρ',ρ' d=some k->B2 M ρ' vs us
 |[],_,_,_,_,_,_,ho,_,_=>by simp[opn]at ho
 | .z::shs,[],_,_,_,_,_,ho,_,_=>by simp[opn]at ho
 | .z::shs,x::ds,us,bs,vs,o,h,ho,hb,hm=>by
   simp only[F7,Ad5]at h;obtain⟨d0,ds',u,us',b1,b2,e1,rfl,rfl,⟨rfl,h1⟩,h2⟩:=h;cases e1;rw[opn]at ho;split at ho
   .rename_i vs' o' ho';cases ho;rw[nil_append]at hb hm⊢;obtain⟨k0,k,k1,k2,k3,k4⟩:=Er1 h2 ho' hb hm;refine⟨fun v hv=> ?_,k,k1,k2,k3,fun ρ' hρ=>⟨u,us',rfl,V5 h1,k4 ρ' hρ⟩⟩;rcases mem_cons.1 hv with rfl|hv
    .exact h1.one
    .exact k0 v hv
   .cases ho
 | .o e n cs::shs,ds0,us,bs,vs,o,h,ho,hb,hm=>by
   simp only[F7]at h;obtain⟨d0,ds',u,us',b1,b2,rfl,rfl,rfl,h1,h2⟩:=h;cases d0 with
   |sl m es=>
    rw[opn]at ho;split at ho
    .rename_i hz;cases ho;rw[Bl9 hz]at h2;obtain⟨rfl,h3⟩:=Cl6 h2;rw[append_nil]at hb hm⊢;obtain⟨rfl,hone,k,k1,k2,k3,k4⟩:=Fy0 (S:=S) (wl:=wl) h1 hb hm;refine⟨fun v hv=> ?_,k,k1,k2,k3,fun ρ' hρ=>⟨u,us',rfl,k4 ρ' d hρ,En5 h3⟩⟩;rcases mem_cons.1 hv with rfl|hv
     .exact hone
     .exact h3.one v hv
    .cases ho
   |_=>simp[opn]at ho
end
section
variable {rr:Option Nat} {P:Program} {N:Nat} {dfr:List Deferred} {fin:Fin} {c:Cfg}
theorem Dh9{g sz:Nat}{e:TypeId}{shs:List Sh}{es:List (List Dat)}(r d j:Nat)(x:List Dat)(vs:List V)(o:B9)(hne:Nat.beq r d=false)(hr:B0 c.ob r=some (.tree g e sz shs es none))(hd:B0 c.ob d=none)(hj:es[j]? =some x)(ho:opn d shs x=some (vs,o))
 (hk:J rr P N dfr fin ⟨c.sl,O3 (O3 c.ob r (.tree g e sz shs es (some (j,vs)))) d o,c.td⟩):J rr P N dfr fin c:=by
 have hne:r≠d:=fun h=>by subst h;rw[Nat.beq_refl]at hne;cases hne
 refine⟨hk.1,fun S wl M0 hH M ρ f w ha=> ?_⟩;obtain⟨i,hi,hok⟩:=ha.ow.own r _ hr;obtain⟨a1,a2,a3,a4,a5,a6,a7,a8,a9,a10⟩:=hok;obtain⟨hjl,hje⟩:=ac_.1 hj;have htp:0<i.tot:=by omega
 obtain⟨b1,b2,pre,us,sp,hw,hpre,hlen,b6⟩:=a10 htp;obtain⟨b,g1,hu,c1,c2,hbs,hset⟩:=b6.get hjl;rw[Nat.zero_add]at g1 hset;rw[hje]at g1;obtain⟨_,g2⟩:=g1;have hnd:(c1++(b++c2)).Nodup:=by rw[<-hbs];exact(nodup_cons.1 a8).2
 have hbsub:∀y,y∈b->y∈i.subs:=fun y hy=>by rw[hbs];simp[hy]
 obtain⟨n1,n2,n3⟩:=aw_.1 hnd;obtain⟨n4,n5,n6⟩:=aw_.1 n2;obtain⟨hone,k,hkg,hkok,hkb,hkv⟩:=Er1 (S:=S) (wl:=wl) g2 ho n4 (fun y hy=>a9 y (hbsub y hy));have hρd:=ha.ow.ob_none hd;have hsub:∀y,y∈c1++c2->y∈i.subs:=fun y hy=>by
  rw[hbs];rcases List.mem_append.1 hy with h|h
  .exact am_ _ h
  .exact al_ _ (al_ _ h)
 have hndb:∀y,y∈c1++c2->y∈b->False:=fun y hy hb=>by
  rcases List.mem_append.1 hy with h|h
  .exact n3 y h y (am_ _ hb) rfl
  .exact n6 y hb y h rfl
 obtain⟨h5,h6⟩:=ha.ow.two (d:=d) (i':={i with subs:=c1++c2}) (o':= .tree g e sz shs es (some (j,vs))) (od:=o) (id:=k) hne hr hi ⟨ad_ _,fun _=>rfl,fun h=>by rw[a1]at h;cases h⟩ (fun k hk=>by rw[hρd]at hk;cases hk)
  (fun y hy=> .inl (hy.imp id (fun h=>⟨rfl,hsub y h.2⟩))) (fun y hy=> .inl (.inr ⟨rfl,hbsub y (hkb y hy)⟩))
  (fun y hy hy'=>by
   have hb:=hkb y hy';rcases hy with⟨_,h⟩|⟨_,h⟩
   .exact(nodup_cons.1 a8).1 (by rw[show i.b=y from h];exact hbsub y hb)
   .exact hndb y h hb)
  (fun ρ' hle hρ'=>by
   refine⟨a1,a2,a3,a4,a5,a6,fun h=>absurd h (by show i.tot≠0;omega),?_,fun y hy=>a9 y (hsub y hy),fun _=>⟨b1,b2,pre,us,sp,hw,hpre,hlen,?_⟩⟩
   .refine nodup_cons.2 ⟨fun h=>(nodup_cons.1 a8).1 (hsub _ h),?_⟩;exact aw_.2 ⟨n1,n5,fun x hx y hy=>n3 x hx y (al_ _ hy)⟩
   .have:=hset (R5 w M ρ' sz shs (some (j,vs))) (es[j]) ((us.drop (j*sz)).take sz) [] (fun i0 x u c hi0 hc0 hr0=>⟨fun e=>absurd e hi0,fun _=>hr0⟩) hu ⟨fun _=>⟨rfl,hkv ρ' hρ',hone⟩,fun e=>absurd rfl e⟩;rw[List.set_getElem_self]at this;have e9:D2 us (j*sz) ((us.drop (j*sz)).take sz)=us:=by
     unfold D2;rw[hu,<-az_,List.append_assoc,ao_,ao_]
    rw[e9]at this;simpa using this)
  (fun ρ' _=>hkok ρ')
 have:=hk.2 S wl M0 hH M _ f w ⟨by dsimp only;rw[D9,D9];exact h6,ha.ok,fun t ht=>B8.mono h5 _ (ha.sl t ht)⟩;exact this
end
mutual
def shE:Sh->Sh->Bool
 | .z,.z=>true
 | .o e n cs,.o e' n' cs'=>match Nat.beq e e',Nat.beq n n' with|true,true=>Fx7 cs cs'|_,_=>false
 |_,_=>false
def Fx7:List Sh->List Sh->Bool
 |[],[]=>true
 |a::l,b::l'=>match shE a b with|true=>Fx7 l l'|false=>false
 |_,_=>false
end
mutual
theorem Fx6:∀{a b:Sh},shE a b=true->a=b
 | .z,.z,_=>rfl
 | .o e n cs,.o e' n' cs',h=>by
   unfold shE at h;split at h
   .rename_i h1 h2;rw[nB_ h1,nB_ h2,Cl0 h]
   .cases h
 | .z,.o _ _ _,h=>by cases h
 | .o _ _ _,.z,h=>by cases h
theorem Cl0:∀{a b:List Sh},Fx7 a b=true->a=b
 |[],[],_=>rfl
 |a::l,b::l',h=>by
  unfold Fx7 at h;split at h
  .rename_i h1;rw[Fx6 h1,Cl0 h]
  .cases h
 |[],_::_,h=>by cases h
 |_::_,[],h=>by cases h
end
def Fg4(g:Nat)(e:TypeId)(n:Nat)(cs:List Sh):B9->Option (List (List Dat))
 | .buf g' e' n' es=>match Nat.beq g g',Nat.beq e e',Nat.beq n n',Fr9 cs,Nat.beq cs.length n,Nat.blt g 1000000 with
   |true,true,true,true,true,true=>some es
   |_,_,_,_,_,_=>none
 | .tree g' e' n' cs' es none=>match Nat.beq g g',Nat.beq e e',Nat.beq n n',Fx7 cs cs',Nat.blt g 1000000 with
   |true,true,true,true,true=>some es
   |_,_,_,_,_=>none
 |_=>none
def zD:V->Option Dat
 | .d x=>some x
 | .esl n=>some (.sl n [])
 |_=>none
def Dc0:List Sh->List V->Option (List Dat)
 |[],[]=>some []
 | .z::shs,v::vs=>match zD v,Dc0 shs vs with|some x,some ds=>some (x::ds)|_,_=>none
 | .o _ n _::shs,.esl _::vs=>match Dc0 shs vs with|some ds=>some (.sl n []::ds)|none=>none
 |_,_=>none
def cls(d gd:Nat)(o:B9):List Sh->List V->Option (List Dat)
 | .z::shs,v::vs=>match zD v,cls d gd o shs vs with|some x,some ds=>some (x::ds)|_,_=>none
 | .o e n cs::shs,.suf r g 0::vs=>match Nat.beq r d,Nat.beq g gd,Fg4 g e n cs o,Dc0 shs vs with|true,true,some es,some ds=>some (.sl n es::ds)|_,_,_,_=>none
 |_,_=>none
section
variable {S:L8} {wl w:World} {M0 M:Mem} {ρ:Rho} {ob:Nat->Option B9}
theorem Et1{v:V}{u:Value}{x:Dat}(h:zD v=some x)(hv:B8 M ρ v u):T7 M x u:=by
 unfold zD at h;split at h
 .cases h;exact I6 hv
 .cases h;simp only[B8]at hv;obtain⟨a,rfl⟩:=hv;exact Am0
 .cases h
theorem Bm6:∀{shs:List Sh} {vs:List V} {us:List Value} {ds:List Dat},B2 M ρ vs us->Dc0 shs vs=some ds->F7 w M shs ds us []
 |[],[],us,ds,h,e=>by
  simp only[Dc0,Option.some.injEq]at e;subst e;simp only[F7];exact⟨trivial,h,trivial⟩
 | .z::shs,v::vs,us,ds,h,e=>by
   unfold Dc0 at e;split at e
   .rename_i x ds' h1 h2;cases e;simp only[B2]at h;obtain⟨u,us',rfl,h3,h4⟩:=h;simp only[F7,Ad5];exact⟨x,ds',u,us',[],[],rfl,rfl,rfl,⟨rfl,Et1 h1 h3⟩,Bm6 h4 h2⟩
   .cases e
 | .o e n cs::shs,.esl k::vs,us,ds,h,e0=>by
   unfold Dc0 at e0;split at e0
   .rename_i ds' h2;cases e0;simp only[B2,B8]at h;obtain⟨u,us',rfl,⟨a,rfl⟩,h4⟩:=h;simp only[F7,Ad5];exact⟨_,ds',_,us',[],[],rfl,rfl,rfl,⟨[],a,0,rfl,rfl,ad_ _,at_ _,.inl ⟨rfl,rfl⟩⟩,Bm6 h4 h2⟩
   .cases e0
theorem Ei3{d g n:Nat}{e:TypeId}{cs:List Sh}{o:B9}{es:List (List Dat)}{k:Inf}{v:Value}(hr:Fg4 g e n cs o=some es)(hk:J0 S wl M ρ w k o)(hd:ρ d=some k)(hv:B8 M ρ (.suf d g 0) v):
 k.fix=false/\k.g=g/\∃bd:List Nat,(∀y,y∈bd->blk k o y)/\bd.Nodup/\Di2 S wl M w bd/\Ad5 w M (.o e n cs) (.sl n es) v bd:=by
 obtain⟨k',hk',_,hvs⟩:=J7 hv;rw[hd]at hk';cases hk';unfold Fg4 at hr;split at hr
 .rename_i g' e' n' es';split at hr
  .rename_i q1 q2 q3 q4 q5 q6;cases hr;obtain rfl:=nB_ q1;obtain rfl:=nB_ q2;obtain rfl:=nB_ q3;have hcl:=nB_ q5;have hcs:=Bl9 q4;rw[hcl]at hcs;obtain⟨k1,k2,k3,k4,k5,k6,k7⟩:=hk;obtain⟨_,p,hv',hp⟩:=hvs k2.symm;rw[a8_,a8_]at hv';subst hv';refine⟨k1,k2,?_⟩;simp only[Ad5];by_cases ht:0<k.tot
   .obtain⟨m,pre2,us2,sp2,h1,h2,h3,h4⟩:=k7 ht;have hp:=hp ht;subst hp;refine⟨[k.b],fun y hy=> ?_,by simp,fun y hy=> ?_,es,_,k.tot,rfl,by rw[k4],k4▸k5,k6,.inr ⟨ht,k.b,k.base,[],pre2,us2,sp2,by rw[Nat.add_zero,k3],rfl,h1,h2,h3,by rw[hcs];exact Cb9 h4⟩⟩
    .have:y=k.b:=by simpa using hy
     subst this;exact .inl ⟨ht,rfl⟩
    .have:y=k.b:=by simpa using hy
     subst this;exact⟨m.1,m.2.1 q6,(aq_.1 h1).1⟩
   .have h0:k.tot=0:=by omega
    exact⟨[],fun y hy=>(by cases hy),by simp,fun y hy=>(by cases hy),es,p,k.tot,rfl,by rw[k4],k4▸k5,k6,.inl ⟨h0,rfl⟩⟩
  .cases hr
 .rename_i g' e' n' cs' es';split at hr
  .rename_i q1 q2 q3 q4 q6;cases hr;obtain rfl:=nB_ q1;obtain rfl:=nB_ q2;obtain rfl:=nB_ q3;obtain rfl:=Cl0 q4;obtain⟨k1,k2,k3,k4,k5,k6,k7,k8,k9,k10⟩:=hk;obtain⟨_,p,hv',hp⟩:=hvs k2.symm;rw[a8_,a8_]at hv';subst hv';refine⟨k1,k2,?_⟩;simp only[Ad5];by_cases ht:0<k.tot
   .obtain⟨m,_,pre2,us2,sp2,h1,h2,h3,h4⟩:=k10 ht;have hp:=hp ht;subst hp;refine⟨k.b::k.subs,fun y hy=> ?_,k8,fun y hy=> ?_,es,_,k.tot,rfl,by rw[k4],k4▸k5,k6,.inr ⟨ht,k.b,k.base,k.subs,pre2,us2,sp2,by rw[Nat.add_zero,k3],rfl,h1,h2,h3,h4⟩⟩
    .rcases mem_cons.1 hy with rfl|hy
     .exact .inl ⟨ht,rfl⟩
     .exact .inr ⟨rfl,hy⟩
    .rcases mem_cons.1 hy with rfl|hy
     .exact⟨m.1,m.2.1 q6,(aq_.1 h1).1⟩
     .exact k9 y hy
   .have h0:k.tot=0:=by omega
    exact⟨[],fun y hy=>(by cases hy),by simp,fun y hy=>(by cases hy),es,p,k.tot,rfl,by rw[k4],k4▸k5,k6,.inl ⟨h0,rfl⟩⟩
  .cases hr
 .cases hr
theorem En1{d gd:Nat}{o:B9}{k:Inf}(hk:J0 S wl M ρ w k o)(hd:ρ d=some k):∀{shs:List Sh} {vs:List V} {us:List Value} {ds:List Dat},B2 M ρ vs us->cls d gd o shs vs=some ds->
 k.fix=false/\k.g=gd/\∃bd:List Nat,(∀y,y∈bd->blk k o y)/\bd.Nodup/\Di2 S wl M w bd/\F7 w M shs ds us bd
 | .z::shs,v::vs,us,ds,h,e=>by
   unfold cls at e;split at e
   .rename_i x ds' h1 h2;cases e;simp only[B2]at h;obtain⟨u,us',rfl,h3,h4⟩:=h;obtain⟨g0,g5,bd,g1,g2,g3,g4⟩:=En1 hk hd h4 h2;refine⟨g0,g5,bd,g1,g2,g3,?_⟩;simp only[F7,Ad5];exact⟨x,ds',u,us',[],bd,rfl,rfl,rfl,⟨rfl,Et1 h1 h3⟩,g4⟩
   .cases e
 | .o e n cs::shs,.suf r g off::vs,us,ds,h,e0=>by
   cases off with
   |succ _=>simp[cls]at e0
   |zero=>
    rw[cls]at e0;split at e0
    .rename_i es ds' h1 h0 h2 h3;cases e0;obtain rfl:=nB_ h1;obtain rfl:=nB_ h0;simp only[B2]at h;obtain⟨u,us',rfl,h4,h5⟩:=h;obtain⟨g0,g5,bd,g1,g2,g3,g4⟩:=Ei3 h2 hk hd h4;refine⟨g0,g5,bd,g1,g2,g3,?_⟩;simp only[F7];exact⟨_,ds',u,us',bd,[],rfl,rfl,by simp,g4,Bm6 h5 h3⟩
    .cases e0
theorem Au6:∀{shs:List Sh} {vs:List V} {ds:List Dat},Dc0 shs vs=some ds->ds.length=vs.length
 |[],[],ds,e=>by simp only[Dc0,Option.some.injEq]at e;subst e;rfl
 | .z::shs,v::vs,ds,e=>by
   unfold Dc0 at e;split at e
   .rename_i h2;cases e;simp[Au6 h2]
   .cases e
 | .o _ n _::shs,.esl k::vs,ds,e=>by
   unfold Dc0 at e;split at e
   .rename_i h2;cases e;simp[Au6 h2]
   .cases e
theorem Dk6{d gd:Nat}{o:B9}:∀{shs:List Sh} {vs:List V} {ds:List Dat},cls d gd o shs vs=some ds->ds.length=vs.length
 | .z::shs,v::vs,ds,e=>by
   unfold cls at e;split at e
   .rename_i h2;cases e;simp[Dk6 h2]
   .cases e
 | .o _ n _::shs,.suf r g off::vs,ds,e=>by
   cases off with
   |succ _=>simp[cls]at e
   |zero=>
    rw[cls]at e;split at e
    .rename_i h2;cases e;simp[Au6 h2]
    .cases e
end
section
variable {rr:Option Nat} {P:Program} {N:Nat} {dfr:List Deferred} {fin:Fin} {c:Cfg}
theorem Dp3{S:L8}{wl w:World}{M:Mem}{ρ:Rho}{i:Inf}{g sz j:Nat}{e:TypeId}{shs:List Sh}{es:List (List Dat)}{vs:List V}(hok:J0 S wl M ρ w i (.tree g e sz shs es (some (j,vs))))(hj:j<es.length):
 ∃(u:List Value) (c1 c2:List Nat),i.subs=c1++c2/\B2 M ρ vs u/\u.length=sz/\∀(ds:List Dat) (bd:List Nat),ds.length=sz->F7 w M shs ds u bd->(i.b::(c1++(bd++c2))).Nodup->Di2 S wl M w bd->∀ρ',J0 S wl M ρ' w {i with subs:=c1++(bd++c2)} (.tree g e sz shs (es.set j ds) none):=by
 obtain⟨a1,a2,a3,a4,a5,a6,a7,a8,a9,a10⟩:=hok;have htp:0<i.tot:=by omega
 obtain⟨b1,b2,pre,us,sp,hw,hpre,hlen,b6⟩:=a10 htp;obtain⟨b,g1,hu,c1,c2,hbs,hset⟩:=b6.get hj;rw[Nat.zero_add]at g1 hset;obtain⟨rfl,hrel,hone⟩:=g1.1 rfl;have hsub:i.subs=c1++c2:=by rw[hbs];simp
 refine⟨_,c1,c2,hsub,hrel,hu,fun ds bd hds hown hnd hmb ρ'=>⟨a1,a2,a3,by rw[length_set];exact a4,a5,a6,fun h=>absurd h (by show i.tot≠0;omega),hnd,fun y hy=> ?_,fun _=>⟨b1,b2,pre,us,sp,hw,hpre,hlen,?_⟩⟩⟩
 .simp only[List.mem_append]at hy;rcases hy with h|h|h
  .exact a9 y (by rw[hsub];simp[h])
  .exact hmb y h
  .exact a9 y (by rw[hsub];simp[h])
 .have:=hset (R5 w M ρ' sz shs none) ds ((us.drop (j*sz)).take sz) bd (fun i0 x u c hi0 hc0 hr0=>hr0.2 hi0) hu ⟨hds,hown⟩;have e9:D2 us (j*sz) ((us.drop (j*sz)).take sz)=us:=by
   unfold D2;rw[hu,<-az_,List.append_assoc,ao_,ao_]
  rw[e9]at this;exact this
theorem F5{g sz gd:Nat}{e ed:TypeId}{nd:Nat}{shs:List Sh}{es:List (List Dat)}{vs:List V}{o:B9}(r d j:Nat)(ds:List Dat)(es':List (List Dat))(hne:Nat.beq r d=false)(hr:B0 c.ob r=some (.tree g e sz shs es (some (j,vs))))(hd:B0 c.ob d=some o)(ho:cls d gd o shs vs=some ds)(hl:Nat.beq vs.length sz=true)(hj:j<es.length)(he:es.set j ds=es')
 (hk:J rr P N dfr fin ⟨c.sl,O3 (O3 c.ob r (.tree g e sz shs es' none)) d (.buf (gd+1) ed nd []),c.td⟩):J rr P N dfr fin c:=by
 have hne:r≠d:=fun h=>by subst h;rw[Nat.beq_refl]at hne;cases hne
 refine⟨hk.1,fun S wl M0 hH M ρ f w ha=> ?_⟩;obtain⟨i,hi,hok⟩:=ha.ow.own r _ hr;obtain⟨k,hkk,hkok⟩:=ha.ow.own d _ hd;obtain⟨u,c1,c2,hsub,hrel,hu,hset⟩:=Dp3 hok hj;obtain⟨hfx,hkg,bd,hb1,hb2,hb3,hown⟩:=En1 hkok hkk hrel ho;have hdl:ds.length=sz:=(Dk6 ho).trans (nB_ hl);have htp:0<i.tot:=by have:=hok.2.2.2.1;have:=hok.2.2.2.2.1;omega
 have hnd:=hok.2.2.2.2.2.2.2.1;rw[hsub]at hnd;have hbdn:∀y,y∈bd->y∉c1++c2/\y≠i.b:=fun y hy=>⟨fun h=>hne (ha.ow.inj r d _ _ i k y hr hd hi hkk (.inr ⟨rfl,by rw[hsub];exact h⟩) (hb1 y hy)),fun h=>hne (ha.ow.inj r d _ _ i k y hr hd hi hkk (.inl ⟨htp,h.symm⟩) (hb1 y hy))⟩
 have hmem:∀y,y∈c1++(bd++c2)->y∈c1++c2\/y∈bd:=fun y hy=>by
  simp only[List.mem_append]at hy⊢;rcases hy with h|h|h
  .exact .inl (.inl h)
  .exact .inr h
  .exact .inl (.inr h)
 have hnd':(i.b::(c1++(bd++c2))).Nodup:=by
  refine nodup_cons.2 ⟨fun h=> ?_,?_⟩
  .rcases hmem _ h with h|h
   .exact(nodup_cons.1 hnd).1 h
   .exact(hbdn _ h).2 rfl
  .obtain⟨n1,n2,n3⟩:=aw_.1 (nodup_cons.1 hnd).2;refine aw_.2 ⟨n1,aw_.2 ⟨hb2,n2,fun x hx y hy e=>(hbdn x hx).1 (by rw[e];exact al_ _ hy)⟩,fun x hx y hy e=> ?_⟩;rcases List.mem_append.1 hy with h|h
   .exact(hbdn y h).1 (by rw[<-e];exact am_ _ hx)
   .exact n3 x hx y h e
 obtain⟨h5,h6⟩:=ha.ow.two (d:=d) (i':={i with subs:=c1++(bd++c2)}) (o':= .tree g e sz shs (es.set j ds) none) (od:= .buf (gd+1) ed nd []) (id:=⟨0,0,0,nd,0,gd+1,false,[]⟩) hne hr hi ⟨ad_ _,fun _=>rfl,fun h=>by rw[hok.1]at h;cases h⟩ (fun k' hk=>by
  rw[hkk]at hk;cases hk;exact⟨by show k.g<=gd+1;omega,fun h=>absurd h (by show k.g≠gd+1;omega),fun h=>by rw[hfx]at h;cases h⟩)
  (fun y hy=>by
   rcases hy with h|⟨_,h⟩
   .exact .inl (.inl h)
   .rcases hmem y h with h|h
    .exact .inl (.inr ⟨rfl,by rw[hsub];exact h⟩)
    .exact .inr ⟨_,k,hd,hkk,hb1 y h⟩)
  (fun y hy=>absurd (J4 hy rfl).1 (ay_ _)) (fun y _ hy=>absurd (J4 hy rfl).1 (ay_ _))
  (fun ρ' hle _=>hset ds bd hdl hown hnd' hb3 ρ')
  (fun ρ' _=>⟨rfl,rfl,rfl,rfl,ad_ _,at_ _,fun h=>absurd h (ay_ _)⟩)
 rw[he]at h6;exact hk.2 S wl M0 hH M _ f w ⟨by dsimp only;rw[D9,D9];exact h6,ha.ok,fun t ht=>B8.mono h5 _ (ha.sl t ht)⟩
theorem Ow.retell{S:L8}{wl w:World}{M0 M:Mem}{ρ:Rho}{ob:Nat->Option B9}(h:Ow S wl M0 M ρ ob w){d:Nat}{o:B9}{i:Inf}(hd:ob d=some o)(hi:ρ d=some i)(i':Inf)(x:B9)(hg:Ile i i')(hb:∀b,blk i' x b->blk i o b)
 (hx:∀ρ',Rle M M ρ ρ'->J0 S wl M ρ' w i' x):Rle M M ρ (H6 ρ d i')/\Ow S wl M0 M (H6 ρ d i') (H6 ob d x) w:=by
 have hr:Rle M M ρ (H6 ρ d i'):=⟨M.le_refl,fun r j hj=>by
  by_cases e:r=d
  .subst e;rw[hi]at hj;cases hj;exact⟨i',B3 _ _ _,hg⟩
  .exact⟨j,by rw[C5 _ _ e];exact hj,Ile.refl j⟩⟩
 refine⟨hr,h.size,h.os,h.tape,h.output,h.old,h.sits,h.le,h.gl,h.new,fun r y hy=> ?_,fun r j hj=> ?_,fun r r' y y' j j' b h1 h2 h3 h4 l1 l2=> ?_,fun r j hb hj=> ?_⟩
 .by_cases e:r=d
  .subst e;rw[B3]at hy;cases hy;exact⟨i',B3 _ _ _,hx _ hr⟩
  .rw[C5 _ _ e]at hy;obtain⟨j,h1,h2⟩:=h.own r y hy;exact⟨j,by rw[C5 _ _ e];exact h1,h2.mono hr (fun _ _=>rfl) (fun _ _=>rfl)⟩
 .by_cases e:r=d
  .subst e;exact⟨x,B3 _ _ _⟩
  .rw[C5 _ _ e]at hj⊢;exact h.dom r j hj
 .have key:∀q y j,H6 ob d x q=some y->H6 ρ d i' q=some j->blk j y b->∃y0 j0,ob q=some y0/\ρ q=some j0/\blk j0 y0 b:=fun q y j hy hj hl=>by
   by_cases e:q=d
   .subst e;rw[B3]at hy hj;cases hy;cases hj;exact⟨o,i,hd,hi,hb b hl⟩
   .rw[C5 _ _ e]at hy hj;exact⟨y,j,hy,hj,hl⟩
  obtain⟨y0,j0,k1,k2,k3⟩:=key r y j h1 h3 l1;obtain⟨y1,j1,k4,k5,k6⟩:=key r' y' j' h2 h4 l2;exact h.inj r r' y0 y1 j0 j1 b k1 k4 k2 k5 k3 k6
 .obtain⟨k,h1,h2⟩:=h.held r j hb hj;obtain⟨k',h3,h4⟩:=hr.ext r k h1;exact⟨k',h3,h2.trans h4⟩
theorem Ez1{g sz:Nat}{e:TypeId}{shs:List Sh}{es:List (List Dat)}{vs:List V}(r j:Nat)(ds:List Dat)(es':List (List Dat))(hr:B0 c.ob r=some (.tree g e sz shs es (some (j,vs))))(ho:Dc0 shs vs=some ds)(hl:Nat.beq vs.length sz=true)(hj:j<es.length)(he:es.set j ds=es')
 (hk:J rr P N dfr fin ⟨c.sl,O3 c.ob r (.tree g e sz shs es' none),c.td⟩):J rr P N dfr fin c:=by
 refine⟨hk.1,fun S wl M0 hH M ρ f w ha=> ?_⟩;obtain⟨i,hi,hok⟩:=ha.ow.own r _ hr;obtain⟨u,c1,c2,hsub,hrel,hu,hset⟩:=Dp3 hok hj;have hdl:ds.length=sz:=(Au6 ho).trans (nB_ hl);have hnd:=hok.2.2.2.2.2.2.2.1;rw[hsub]at hnd;obtain⟨h5,h6⟩:=ha.ow.retell hr hi {i with subs:=c1++([]++c2)} (.tree g e sz shs (es.set j ds) none) ⟨ad_ _,fun _=>rfl,fun h=>by rw[hok.1]at h;cases h⟩ (fun b hb=>hb.imp id (fun h=>⟨rfl,by rw[hsub];exact h.2⟩))
  (fun ρ' _=>hset ds [] hdl (Bm6 hrel ho) hnd (fun y hy=>by cases hy) ρ')
 rw[he]at h6;exact hk.2 S wl M0 hH M _ f w ⟨by dsimp only;rw[D9];exact h6,ha.ok,fun t ht=>B8.mono h5 _ (ha.sl t ht)⟩
theorem Fq3{g e n:Nat}{es:List (List Dat)}(r:Nat)(hr:B0 c.ob r=some (.buf g e n es))(hg:Nat.blt g 1000000=true)(hk:J rr P N dfr fin ⟨c.sl,O3 c.ob r (.tree g e n (List.replicate n .z) es none),c.td⟩):J rr P N dfr fin c:=by
 refine⟨hk.1,fun S wl M0 hH M ρ f w ha=> ?_⟩;obtain⟨i,hi,hok⟩:=ha.ow.own r _ hr;obtain⟨a1,a2,a3,a4,a5,a6,a7⟩:=hok;obtain⟨h5,h6⟩:=ha.ow.retell hr hi {i with subs:=[]} (.tree g e n (List.replicate n .z) es none) ⟨ad_ _,fun _=>rfl,fun h=>by rw[a1]at h;cases h⟩ (fun b hb=>hb.elim (fun h=> .inl h) (fun h=>by cases h.2))
  (fun ρ' _=>⟨a1,a2,a3,a4,a5,a6,fun _=>rfl,by simp,fun b hb=>(by cases hb),fun hp=>by
   obtain⟨m,pre,us,sp,h1,h2,h3,h4⟩:=a7 hp;exact⟨m,hg,pre,us,sp,h1,h2,h3,(Cb9 h4)⟩⟩)
 exact hk.2 S wl M0 hH M _ f w ⟨by dsimp only;rw[D9];exact h6,ha.ok,fun t ht=>B8.mono h5 _ (ha.sl t ht)⟩
end
end
section
def Ej0:Sh->Sh
 | .z=> .z
 | .o e n _=> .o e n (List.replicate n .z)
def Bq7:List Sh->List Sh
 |[]=>[]
 |s::l=>Ej0 s::Bq7 l
def Thn(w:World)(M M':Mem)(bs bs':List Nat):Prop:=∃hs,Au3 w M M' hs/\(∀x,x∈hs->x∈bs)/\(∀x,x∈bs'->x∈bs/\x∉hs)/\bs'.Nodup
section
variable {w:World} {M M1 M2:Mem} {a a' b b':List Nat}
theorem Thn.none(h:Thn w M M1 a a')(hM:∀x,x∈a->M x=none):∀x,x∈a'->M1 x=none:=fun x hx=>by
 obtain⟨hs,h1,h2,h3,h4⟩:=h;rw[h1.2.1 x (h3 x hx).2];exact hM x (h3 x hx).1
theorem Thn.out(h:Thn w M M1 a a'){x:Nat}(hx:x∉a):M1 x=M x:=by
 obtain⟨hs,h1,h2,h3,h4⟩:=h;exact h1.2.1 x fun h=>hx (h2 x h)
theorem Thn.le(h:Thn w M M1 a a'):M.le M1:=by obtain⟨hs,h1,_⟩:=h;exact h1.1
theorem Thn.app(h:Thn w M M1 a a')(k:Thn w M1 M2 b b')(hd:(a++b).Nodup):Thn w M M2 (a++b) (a'++b'):=by
 obtain⟨n1,n2,n3⟩:=aw_.1 hd;obtain⟨hs,h1,h2,h3,h4⟩:=h;obtain⟨ks,k1,k2,k3,k4⟩:=k;refine⟨hs++ks,h1.app k1,fun x hx=> ?_,fun x hx=> ?_,?_⟩
 .rcases List.mem_append.1 hx with hx|hx
  .exact am_ _ (h2 x hx)
  .exact al_ _ (k2 x hx)
 .rcases List.mem_append.1 hx with hx|hx
  .refine⟨am_ _ (h3 x hx).1,fun h=> ?_⟩;rcases List.mem_append.1 h with h|h
   .exact(h3 x hx).2 h
   .exact n3 x (h3 x hx).1 x (k2 x h) rfl
  .refine⟨al_ _ (k3 x hx).1,fun h=> ?_⟩;rcases List.mem_append.1 h with h|h
   .exact n3 x (h2 x h) x (k3 x hx).1 rfl
   .exact(k3 x hx).2 h
 .exact aw_.2 ⟨h4,k4,fun x hx y hy e=>n3 x (h3 x hx).1 y (k3 y hy).1 e⟩
end
theorem Ad5.thin{w:World}{ρ:Rho}:∀(s:Sh) {M:Mem} {d:Dat} {v:Value} {bs:List Nat},Ad5 w M s d v bs->bs.Nodup->(∀b,b∈bs->M b=none)->∃M' bs',Thn w M M' bs bs'/\Ad5 w M' (Ej0 s) d v bs'
 | .z,M,d,v,bs,h,hd,_=>by
   have h':=h;simp only[Ad5]at h;obtain⟨rfl,h⟩:=h;exact⟨M,[],⟨[],Au3.nil,fun _ h=>(by cases h),fun _ h=>(by cases h),nodup_nil⟩,h'⟩
 | .o e sz cs,M,d,v,bs,h,hnd,hM=>by
   simp only[Ad5]at h;obtain⟨es,a,cap,rfl,rfl,h3,h4,h5⟩:=h;rcases h5 with⟨h0,rfl⟩|⟨h0,b,base,bs',pre,us,sp,h6,rfl,h8,h9,h10,h11⟩
   .refine⟨M,[],⟨[],Au3.nil,fun _ h=>(by cases h),fun _ h=>(by cases h),nodup_nil⟩,?_⟩;simp only[Ej0,Ad5];exact⟨es,a,cap,rfl,rfl,h3,h4,.inl ⟨h0,trivial⟩⟩
   .have hnd':=nodup_cons.1 hnd;have hM':∀y,y∈bs'->M y=none:=fun y hy=>hM y (mem_cons_of_mem _ hy)
    obtain⟨M1,g1,g2⟩:=J1.hold (ρ:=ρ) (sz:=sz) (cs:=cs) h11 hnd'.2 hM';refine⟨M1,[b],⟨bs',g1,fun x hx=>mem_cons_of_mem _ hx,fun x hx=> ?_,by simp⟩,?_⟩
    .have:x=b:=by simpa using hx
     subst this;exact⟨ab_,hnd'.1⟩
    .simp only[Ej0,Ad5];exact⟨es,a,cap,rfl,rfl,h3,h4,.inr ⟨h0,b,base,[],pre,us,sp,h6,rfl,h8,h9,h10,Cb9 g2⟩⟩
theorem F7.thin{w:World}{ρ:Rho}:∀(cs:List Sh) {M:Mem} {ds:List Dat} {us:List Value} {bs:List Nat},F7 w M cs ds us bs->bs.Nodup->(∀b,b∈bs->M b=none)->∃M' bs',Thn w M M' bs bs'/\F7 w M' (Bq7 cs) ds us bs'
 |[],M,ds,us,bs,h,_,_=>by
  have h':=h;simp only[F7]at h;obtain⟨rfl,rfl,rfl⟩:=h;exact⟨M,[],⟨[],Au3.nil,fun _ h=>(by cases h),fun _ h=>(by cases h),nodup_nil⟩,h'⟩
 |s::cs,M,ds,us,bs,h,hnd,hM=>by
  simp only[F7]at h;obtain⟨d,ds',u,us',b1,b2,rfl,rfl,rfl,h4,h5⟩:=h;obtain⟨n1,n2,n3⟩:=aw_.1 hnd;obtain⟨M1,c1,g1,g2⟩:=Ad5.thin (ρ:=ρ) s h4 n1 (fun y hy=>hM y (am_ _ hy));obtain⟨M2,c2,g3,g4⟩:=F7.thin (ρ:=ρ) cs (h5.mono g1.le _ (fun _ _=>rfl)) n2 (fun y hy=>by rw[g1.out (fun h'=>n3 y h' y hy rfl)];exact hM y (al_ _ hy));refine⟨M2,c1++c2,g1.app g3 hnd,?_⟩;simp only[Bq7,F7];exact⟨d,ds',u,us',c1,c2,rfl,rfl,rfl,g2.mono g3.le _ (fun _ _=>rfl),g4⟩
theorem J1.thin{w:World}{ρ:Rho}{sz:Nat}{cs:List Sh}:∀{es:List (List Dat)} {us:List Value} {bs:List Nat} {j:Nat} {M:Mem},J1 (R5 w M ρ sz cs none) sz j es us bs->bs.Nodup->(∀y,y∈bs->M y=none)->∃M' bs',Thn w M M' bs bs'/\J1 (R5 w M' ρ sz (Bq7 cs) none) sz j es us bs'
 |[],us,bs,j,M,h,_,_=>by
  obtain⟨rfl,rfl⟩:=h;exact⟨M,[],⟨[],Au3.nil,fun _ h=>(by cases h),fun _ h=>(by cases h),nodup_nil⟩,rfl,rfl⟩
 |x::es,us,bs,j,M,⟨u,us',b1,b2,e1,e2,e3,⟨e4,e5⟩,e6⟩,hnd,hM=>by
  subst e1 e2;obtain⟨n1,n2,n3⟩:=aw_.1 hnd;obtain⟨M1,c1,g1,g2⟩:=F7.thin (ρ:=ρ) cs e5 n1 (fun y hy=>hM y (am_ _ hy));have e6':J1 (R5 w M1 ρ sz cs none) sz (j+1) es us' b2:=e6.mono (fun _ x u b _ h=>⟨h.1,h.2.mono g1.le _ (fun _ _=>rfl)⟩);obtain⟨M2,c2,g3,g4⟩:=J1.thin e6' n2 (fun y hy=>by rw[g1.out (fun h'=>n3 y h' y hy rfl)];exact hM y (al_ _ hy));exact⟨M2,c1++c2,g1.app g3 hnd,u,us',c1,c2,rfl,rfl,e3,⟨e4,g2.mono g3.le _ (fun _ _=>rfl)⟩,g4⟩
section
variable {rr:Option Nat} {P:Program} {N:Nat} {dfr:List Deferred} {fin:Fin} {c:Cfg}
theorem Dh8{g e n:Nat}(r:Nat)(shs:List Sh)(hr:B0 c.ob r=some (.buf g e n []))(hg:Nat.blt g 1000000=true)(hk:J rr P N dfr fin ⟨c.sl,O3 c.ob r (.tree g e n shs [] none),c.td⟩):J rr P N dfr fin c:=by
 refine⟨hk.1,fun S wl M0 hH M ρ f w ha=> ?_⟩;obtain⟨i,hi,hok⟩:=ha.ow.own r _ hr;obtain⟨a1,a2,a3,a4,a5,a6,a7⟩:=hok;obtain⟨h5,h6⟩:=ha.ow.retell hr hi {i with subs:=[]} (.tree g e n shs [] none) ⟨ad_ _,fun _=>rfl,fun h=>by rw[a1]at h;cases h⟩ (fun b hb=>hb.elim (fun h=> .inl h) (fun h=>by cases h.2))
  (fun ρ' _=>⟨a1,a2,a3,a4,a5,a6,fun _=>rfl,by simp,fun b hb=>(by cases hb),fun hp=>by
   obtain⟨m,pre,us,sp,h1,h2,h3,h4⟩:=a7 hp;refine⟨m,hg,pre,[],us++sp,by rw[nil_append];exact h1,h2,by rw[nil_append];exact h3,rfl,rfl⟩⟩)
 exact hk.2 S wl M0 hH M _ f w ⟨by dsimp only;rw[D9];exact h6,ha.ok,fun t ht=>B8.mono h5 _ (ha.sl t ht)⟩
theorem Fq8{g sz:Nat}{e:TypeId}{shs:List Sh}{es:List (List Dat)}(r:Nat)(shs':List Sh)(hr:B0 c.ob r=some (.tree g e sz shs es none))(hs':Bq7 shs=shs')(hk:J rr P N dfr fin ⟨c.sl,O3 c.ob r (.tree g e sz shs' es none),c.td⟩):J rr P N dfr fin c:=by
 subst hs';refine⟨hk.1,fun S wl M0 hH M ρ f w ha=> ?_⟩;have h:=ha.ow;obtain⟨i,hi,hok⟩:=h.own r _ hr;obtain⟨a1,a2,a3,a4,a5,a6,a7,a8,a9,a10⟩:=hok;obtain⟨M',bs',hM',hbuf⟩:∃M' bs',Thn w M M' i.subs bs'/\(i.tot=0->bs'=[])/\(0<i.tot->Bt2 S wl M i g/\Nat.blt g 1000000=true/\∃pre us sp,w.heap[i.b]? =some (.cells (pre++(us++sp)).toArray e (0,0))/\pre.length=i.base*sz/\(us++sp).length=i.tot*sz/\J1 (R5 w M' ρ sz (Bq7 shs) none) sz 0 es us bs'):=by
  by_cases ht:0<i.tot
  .obtain⟨b1,b2,pre,us,sp,b3,b4,b5,b6⟩:=a10 ht;obtain⟨M',bs',g1,g2⟩:=b6.thin (nodup_cons.1 a8).2 (fun y hy=>(a9 y hy).2.1);exact⟨M',bs',g1,fun h=>absurd h (by omega),fun _=>⟨b1,b2,pre,us,sp,b3,b4,b5,g2⟩⟩
  .have:=a7 (by omega);exact⟨M,[],⟨[],Au3.nil,fun _ h=>(by cases h),fun _ h=>(by cases h),nodup_nil⟩,fun _=>rfl,fun h=>absurd h ht⟩
 have hMn:=hM'.none (fun y hy=>(a9 y hy).2.1);obtain⟨hs,hH',hin,hin',hnd'⟩:=hM';have hib:i.b∉i.subs:=(nodup_cons.1 a8).1;have hout:∀b,b∉i.subs->M' b=M b:=fun b hb=>hH'.2.1 b fun h=>hb (hin b h)
 let i':Inf:={i with subs:=bs'}
 have hR:Rle M M' ρ (H6 ρ r i'):=⟨hH'.1,fun q j hj=>by
  by_cases e:q=r
  .subst e;rw[hi]at hj;cases hj;exact⟨i',B3 _ _ _,ad_ _,fun _=>rfl,fun h=>by rw[a1]at h;cases h⟩
  .exact⟨j,by rw[C5 _ _ e];exact hj,Ile.refl j⟩⟩
 have hsub:∀b,blk i' (.tree g e sz (Bq7 shs) es none) b->blk i (.tree g e sz shs es none) b:=fun b hb=>hb.elim (fun h=> .inl h) (fun h=> .inr ⟨rfl,(hin' b h.2).1⟩)
 have ow:Ow S wl M0 M' (H6 ρ r i') (H6 (B0 c.ob) r (.tree g e sz (Bq7 shs) es none)) w:=by
  refine⟨h.size,h.os,h.tape,h.output,h.old,fun b cc hb=> ?_,Mem.le_trans h.le hH'.1,h.gl.mono hH'.1,fun b cc hb hlt=> ?_,fun q y hy=> ?_,fun q j hj=> ?_,fun q q' y y' j j' b h1 h2 h3 h4 l1 l2=> ?_,fun q j hb hj=> ?_⟩
  .by_cases hm:b∈hs
   .obtain⟨c1,e1,z1,q1,q2⟩:=hH'.2.2 b hm;rw[q1]at hb;cases hb;exact⟨_,_,_,q2,Pre.refl _⟩
   .rw[hH'.2.1 b hm]at hb;exact h.sits b cc hb
  .by_cases hm:b∈hs
   .rcases(a9 b (hin b hm)).1 with hs|hs
    .exact .inr hs
    .omega
   .rw[hH'.2.1 b hm]at hb;exact h.new b cc hb hlt
  .by_cases e:q=r
   .subst e;rw[B3]at hy;cases hy;refine⟨i',B3 _ _ _,a1,a2,a3,a4,a5,a6,hbuf.1,nodup_cons.2 ⟨fun h=>hib (hin' _ h).1,hnd'⟩,fun b hb=>⟨(a9 b (hin' b hb).1).1,hMn b hb,(a9 b (hin' b hb).1).2.2⟩,fun hp=> ?_⟩;obtain⟨m,m2,pre,us,sp,q1,q2,q3,q4⟩:=hbuf.2 hp;exact⟨⟨m.1,fun hg=>by rw[show i'.b=i.b from rfl,hout _ hib];exact m.2.1 hg,fun cc hc=>m.2.2 cc (by rw[<-hout _ hib];exact hc)⟩,m2,pre,us,sp,q1,q2,q3,q4.mono fun _ _ _ _ _ h=>h⟩
   .rw[C5 _ _ e]at hy;obtain⟨j,h1,h2⟩:=h.own q y hy;exact⟨j,by rw[C5 _ _ e];exact h1,h2.mono hR (fun b hb=>hout b (fun hm=>e (h.inj q r y _ j i b hy hr h1 hi hb (.inr ⟨rfl,hm⟩)))) (fun _ _=>rfl)⟩
  .by_cases e:q=r
   .subst e;exact⟨_,B3 _ _ _⟩
   .rw[C5 _ _ e]at hj⊢;exact h.dom q j hj
  .have key:∀q y j,H6 (B0 c.ob) r (.tree g e sz (Bq7 shs) es none) q=some y->H6 ρ r i' q=some j->blk j y b->∃y0 j0,B0 c.ob q=some y0/\ρ q=some j0/\blk j0 y0 b:=fun q y j hy hj hl=>by
    by_cases e:q=r
    .subst e;rw[B3]at hy hj;cases hy;cases hj;exact⟨_,i,hr,hi,hsub b hl⟩
    .rw[C5 _ _ e]at hy hj;exact⟨y,j,hy,hj,hl⟩
   obtain⟨y0,j0,k1,k2,k3⟩:=key q y j h1 h3 l1;obtain⟨y1,j1,k4,k5,k6⟩:=key q' y' j' h2 h4 l2;exact h.inj q q' y0 y1 j0 j1 b k1 k4 k2 k5 k3 k6
  .obtain⟨k,h1,h2⟩:=h.held q j hb hj;obtain⟨k',h3,h4⟩:=hR.ext q k h1;exact⟨k',h3,h2.trans h4⟩
 exact hk.2 S wl M0 hH M' _ f w ⟨by dsimp only;rw[D9];exact ow,ha.ok,fun t ht=>B8.mono hR _ (ha.sl t ht)⟩
theorem Z3{g sz:Nat}{es:List (List Dat)}(q j r off:Nat)(es':List (List Dat))(hc:Co6 c q j=some (.suf r g off))(hr:B0 c.ob r=some (.fzs g sz es))(he:es.drop off=es')(hk:J rr P N dfr fin (Gd4 c q j (.d (.sl sz es')))):J rr P N dfr fin c:=by
 subst he;unfold Co6 at hc;split at hc
 .rename_i cs hq;refine⟨hk.1,fun S wl M0 hH M ρ f w ha=> ?_⟩;have:=hk.2 S wl M0 hH M ρ f w;unfold Gd4 at this;rw[hq]at this;refine this ⟨?_,ha.ok,ha.sl⟩;dsimp only;rw[D9];refine ha.ow.desc hq (fun i hi hok=> ?_) (fun _ _=>H9 rfl rfl rfl id);obtain⟨h0,h1,us,e,h2,h3,h4⟩:=hok;exact⟨h0,h1,us,e,h2,h3.set hc (fun u hu=>V5 (Bj0 ha.ow hr hu)),h4⟩
 .cases hc
end
theorem ckA{α β:Type}{f:α->β}{l l':List α}{x:α}(h:app l [x]=some l'):chk (decide ((l.map f).length+1<=2147483648))=some []:=by
 rw[length_map];unfold app at h;cases hb:decide (l.length+[x].length<=2147483648) with
 |true=>first|rfl|(rw[show(l.length+1:Nat)=l.length+[x].length from rfl,hb];rfl)
 |false=>rw[hb]at h;cases h
theorem Eq3{α:Type}{l:List α}{y:α}:l.length<(l++[y]).length:=by
 rw[length_append];exact Nat.lt_succ_self _
theorem Di9{α:Type}{f:α->List Dat}{l l':List α}{x:α}{y:List Dat}{ds:List Dat}(h:app l [x]=some l')(hd:f x=ds):(l.map f++[y]).set (l.map f).length ds=l'.map f:=by
 unfold app at h;cases hb:decide (l.length+[x].length<=2147483648) with
 |true=>
  rw[hb]at h;cases h;rw[List.set_append_right _ _ (ad_ _),Nat.sub_self,set_cons_zero,List.map_append,<-hd];rfl
 |false=>rw[hb]at h;cases h
end
section
def K5(W:World):Mem:=fun b=>match W.heap[b]? with|some (.cells c _ _)=>some c|_=>none
theorem Cx0(W:World):Af8 (K5 W) W:=fun b c h=>by
 unfold K5 at h;split at h
 .rename_i c' e z hh;cases h;exact⟨_,e,z,hh,Pre.refl _⟩
 .cases h
theorem Cf6{W:World}{a:Addr}{v:Value}(h:W.cell? a=some v):∃c,K5 W a.block=some c/\a.spot=none/\c[a.off]? =some v:=by
 unfold World.cell? at h;split at h
 .rename_i c e z hh;split at h
  .cases h
  .rename_i hs;exact⟨c,by unfold K5;rw[hh],by simpa using hs,h⟩
 .cases h
theorem Al3{α β:Type}{f:α->Option β}:∀{l:List α} {us:List β},l.mapM f=some us->us.length=l.length/\∀(i:Nat) (x:α),l[i]? =some x->∃y,us[i]? =some y/\f x=some y
 |[],us,h=>by simp at h;subst h;exact⟨rfl,fun i x h=>by simp at h⟩
 |a::l,us,h=>by
  rw[mapM_cons]at h;simp only[Option.bind_eq_bind,Option.bind_eq_some_iff,Option.pure_def,Option.some.injEq]at h;obtain⟨y,hy,ys,hys,rfl⟩:=h;obtain⟨h1,h2⟩:=Al3 hys;refine⟨by simp[h1],fun i x hi=> ?_⟩;cases i with
  |zero=>simp at hi;subst hi;exact⟨y,by simp,hy⟩
  |succ i=>simpa using h2 i x (by simpa using hi)
theorem Bm4{W:World}{a:Addr}{n:Nat}{us:List Value}(h:W.cells? 0 a n=some us):us.length=n/\∀i,i<n->W.cell? (a.add i)=us[i]? :=by
 unfold World.cells? at h;rw[if_pos (at_ _)]at h;obtain⟨h1,h2⟩:=Al3 h;refine⟨by simpa using h1,fun i hi=> ?_⟩;obtain⟨y,hy,hf⟩:=h2 i i (by simp[hi]);rw[hf,hy]
theorem Bl6{a:Addr}(hs:a.spot=none)(n:Nat):a.add n=⟨a.block,a.off+n,none⟩:=by
 unfold Addr.add;split
 .rename_i h;subst h;cases a;simp at hs⊢;exact hs
 .rfl
theorem Bt6(a:Addr):a.add 0=a:=by simp[Addr.add]
def Gb1(F:TypeId->List Dat->Prop):List Field->List Dat->Prop
 |[],ds=>ds=[]
 |f::fs,ds=>∃x y,ds=x++y/\F f.type x/\Gb1 F fs y
def Gb0(F:List Dat->Prop):Nat->List Dat->Prop
 |0,ds=>ds=[]
 |n+1,ds=>∃x y,ds=x++y/\F x/\Gb0 F n y
def Fit(P:Program):Nat->TypeId->List Dat->Prop
 |0,_,_=>False
 |n+1,t,ds=>match P.underlying t with
  |some .bool=>∃b,ds=[.bool b]
  |some (.int k)=>∃m,ds=[.int k m]/\(Lit.int k m).wf=true
  |some .string=>∃s,ds=[.str s]/\s.length<=maxLen
  |some (.slice e)=>∃es,ds=[.sl (P.cellsOf e) es]/\es.length<=maxLen/\∀x∈es,Fit P n e x
  |some (.struct fs)=>Gb1 (Fit P n) fs.toList ds
  |some (.array k e)=>Gb0 (Fit P n e) k ds
  |_=>False
def Bi2(P:Program)(okT:TypeId->Bool):List Field->Nat->Nat->Bool
 |[],o,tot=>Nat.beq o tot
 |f::fs,o,tot=>match Nat.beq f.offset o,okT f.type with|true,true=>Bi2 P okT fs (o+P.cellsOf f.type) tot|_,_=>false
def okT(P:Program):Nat->TypeId->Bool
 |0,_=>false
 |n+1,t=>match P.underlying t with
  |some .bool=>true
  |some (.int _)=>true
  |some .string=>true
  |some (.slice e)=>match Nat.ble 1 (P.cellsOf e) with|true=>okT P n e|false=>false
  |some (.struct fs)=>Bi2 P (okT P n) fs.toList 0 (P.cellsOf t)
  |some (.array k e)=>match Nat.beq (k*P.cellsOf e) (P.cellsOf t) with|true=>okT P n e|false=>false
  |_=>false
section
variable {H:Type} {enc:TypeId×Value->H} {P:Program} {W:World}
theorem trod_struct{G:TypeId->List Value->Option (DataW H×List MemPlace)}{F:TypeId->List Dat->Prop}{okt:TypeId->Bool}(hG:∀t cs x,okt t=true->G t cs=some x->∃ds,C9 (K5 W) ds cs/\F t ds):
 ∀(fs:List Field) (o:Nat) (cs:List Value) (xs:List (DataW H×List MemPlace)),Bi2 P okt fs o cs.length=true->fs.mapM (fun f=>G f.type ((cs.drop f.offset).take (P.cellsOf f.type)))=some xs->o<=cs.length->∃ds,C9 (K5 W) ds (cs.drop o)/\Gb1 F fs ds
 |[],o,cs,xs,hc,_,_=>by
  have:o=cs.length:=nB_ hc;rw[drop_eq_nil_of_le (by omega)];exact⟨[],by simp[C9],rfl⟩
 |f::fs,o,cs,xs,hc,hm,ho=>by
  unfold Bi2 at hc;split at hc
  .rename_i hb hok;have hb:=nB_ hb;rw[mapM_cons]at hm;simp only[Option.bind_eq_bind,Option.bind_eq_some_iff,Option.pure_def,Option.some.injEq]at hm;obtain⟨y,hy,ys,hys,_⟩:=hm;rw[hb]at hy;obtain⟨d1,r1,f1⟩:=hG _ _ _ hok hy;have hle:o+P.cellsOf f.type<=cs.length:=by
    have key:∀(fs:List Field) (o tot:Nat),Bi2 P okt fs o tot=true->o<=tot:=fun fs=>by
     induction fs with
     |nil=>intro o tot h;have:=nB_ h;omega
     |cons g gs ih=>
      intro o tot h;unfold Bi2 at h;split at h
      .have:=ih _ _ h;omega
      .cases h
    exact key fs _ _ hc
   obtain⟨d2,r2,f2⟩:=trod_struct hG fs (o+P.cellsOf f.type) cs ys hc hys hle;refine⟨d1++d2,?_,d1,d2,rfl,f1,f2⟩;have e:cs.drop o=(cs.drop o).take (P.cellsOf f.type)++cs.drop (o+P.cellsOf f.type):=by
    rw[<-az_,ao_]
   rw[e];exact r1.append r2
  .cases hc
theorem trod_array{G:List Value->Option (DataW H×List MemPlace)}{F:List Dat->Prop}{sz:Nat}(hG:∀cs x,G cs=some x->∃ds,C9 (K5 W) ds cs/\F ds):
 ∀(n j:Nat) (cs:List Value),cs.length=(j+n)*sz->(∀i,i<n->∃x,G ((cs.drop ((j+i)*sz)).take sz)=some x)->∃ds,C9 (K5 W) ds (cs.drop (j*sz))/\Gb0 F n ds
 |0,j,cs,hl,_=>⟨[],by rw[drop_eq_nil_of_le (by rw[hl];simp)];simp[C9],rfl⟩
 |n+1,j,cs,hl,h=>by
  obtain⟨x,hx⟩:=h 0 (by omega);obtain⟨d1,r1,f1⟩:=hG _ _ hx;obtain⟨d2,r2,f2⟩:=trod_array hG n (j+1) cs (by rw[hl];congr 1;omega) (fun i hi=>by obtain⟨y,hy⟩:=h (i+1) (by omega);exact⟨y,by rw[show j+1+i=j+(i+1) by omega];exact hy⟩);refine⟨d1++d2,?_,d1,d2,rfl,f1,f2⟩;have e:cs.drop (j*sz)=(cs.drop ((j+0)*sz)).take sz++cs.drop ((j+1)*sz):=by
   rw[Nat.add_zero,Nat.add_mul,bj_,<-az_,ao_]
  rw[e];exact r1.append r2
theorem Af1:∀(m:Nat) (t:TypeId) (n:Nat) (cs:List Value) (x:DataW H×List MemPlace),okT P m t=true->DataW.trod enc P W 0 (fun _=>true) true n t cs=some x->∃ds,C9 (K5 W) ds cs/\Fit P m t ds
 |0,_,_,_,_,h,_=>by cases h
 |m+1,t,0,cs,x,_,h=>by cases h
 |m+1,t,n+1,cs,x,hk,h=>by
  unfold okT at hk;split at hk
  .rename_i hu;unfold DataW.trod at h;rw[hu]at h;split at h<;>first|(exfalso;simp_all;done)|skip
   rename_i b he;exact⟨[.bool b],⟨_,[],rfl,.bool b,rfl⟩,by unfold Fit;rw[hu];exact⟨b,rfl⟩⟩
  .rename_i k hu;unfold DataW.trod at h;rw[hu]at h;split at h<;>first|(exfalso;simp_all;done)|skip
   rename_i k1 k2 q he;cases he;split at h
   .rename_i hkk;obtain⟨rfl,hwf⟩:=hkk;exact⟨[.int _ q],⟨_,[],rfl,.int _ q,rfl⟩,by unfold Fit;rw[hu];exact⟨q,rfl,hwf⟩⟩
   .cases h
  .rename_i hu;unfold DataW.trod at h;rw[hu]at h;split at h<;>first|(exfalso;simp_all;done)|skip
   rename_i s he;split at h
   .rename_i hs;refine⟨[.str s.data.toList],⟨_,[],rfl,?_,rfl⟩,by unfold Fit;rw[hu];exact⟨_,rfl,by simpa using hs⟩⟩;have:Z9 s.data.toList= .string s:=by simp[Z9]
    rw[<-this];exact .str _
   .cases h
  .rename_i e hu;split at hk
   .rename_i hsz;have hsz:=Nat.le_of_ble_eq_true hsz;unfold DataW.trod at h;rw[hu]at h;split at h<;>first|(exfalso;simp_all;done)|skip
    .exact⟨[.sl (P.cellsOf e) []],⟨_,[],rfl,.sl _ [] none 0 0 0 (fun _=>[]) (ad_ _) (fun h=>absurd rfl h) (fun i hi=>by simp at hi) (fun i cs hi=>by simp at hi) (fun i j cs c u hi=>by simp at hi),rfl⟩,by unfold Fit;rw[hu];exact⟨[],rfl,at_ _,fun x hx=>by cases hx⟩⟩
    .rename_i e' a len cap he;cases he;split at h
     .rename_i hle;obtain⟨_,hlc,hcap⟩:=hle;simp only[Option.bind_eq_some_iff]at h;obtain⟨elems,hel,_⟩:=h;obtain⟨hlen,hget⟩:=Al3 hel;rw[length_range]at hlen;have hone:∀i,i<len->∃us ds,W.cells? 0 (a.add (i*P.cellsOf e)) (P.cellsOf e)=some us/\C9 (K5 W) ds us/\Fit P m e ds:=fun i hi=>by
       obtain⟨y,_,hy⟩:=hget i i (by simp[hi]);simp only[Option.bind_eq_some_iff]at hy;obtain⟨us,h1,h2⟩:=hy;obtain⟨ds,h3,h4⟩:=Af1 m e n us y hk h2;exact⟨us,ds,h1,h3,h4⟩
      have hch:∃es:List (List Dat),es.length=len/\∀i d,es[i]? =some d->∃us,W.cells? 0 (a.add (i*P.cellsOf e)) (P.cellsOf e)=some us/\C9 (K5 W) d us/\Fit P m e d:=by
       have build:∀k,k<=len->∃es:List (List Dat),es.length=k/\∀i d,es[i]? =some d->∃us,W.cells? 0 (a.add (i*P.cellsOf e)) (P.cellsOf e)=some us/\C9 (K5 W) d us/\Fit P m e d:=fun k=>by
        induction k with
        |zero=>exact fun _=>⟨[],rfl,fun i d h=>by simp at h⟩
        |succ k ih=>
         intro hk';obtain⟨es,h1,h2⟩:=ih (by omega);obtain⟨us,ds,h3,h4,h5⟩:=hone k (by omega);refine⟨es++[ds],by simp[h1],fun i d hi=> ?_⟩;by_cases hik:i<es.length
         .rw[an_ hik]at hi;exact h2 i d hi
         .rw[au_ (by omega)]at hi;have:i-es.length=0:=by
           cases hz:i-es.length with
           |zero=>rfl
           |succ z=>rw[hz]at hi;simp at hi
          rw[this]at hi;simp at hi;subst hi;have:i=k:=by omega
          subst this;exact⟨us,h3,h4,h5⟩
       exact build len (ad_ _)
      obtain⟨es,hes,hall⟩:=hch;have hspot:0<len->a.spot=none:=fun h0=>by
       obtain⟨us,ds,h1,_⟩:=hone 0 h0;obtain⟨h2,h3⟩:=Bm4 h1;have h4:=h3 0 (by omega);rw[Nat.zero_mul,Bt6,Bt6]at h4;rw[aa_ (by omega)]at h4;obtain⟨c,_,h5,_⟩:=Cf6 h4;exact h5
      refine⟨[.sl (P.cellsOf e) es],⟨_,[],rfl,?_,rfl⟩,by unfold Fit;rw[hu];exact⟨es,rfl,by omega,fun x hx=>by obtain⟨i,hi⟩:=List.mem_iff_getElem?.1 hx;obtain⟨us,_,_,h⟩:=hall i x hi;exact h⟩⟩;have hus:∃us:Nat->List Value,∀i d,es[i]? =some d->W.cells? 0 (a.add (i*P.cellsOf e)) (P.cellsOf e)=some (us i)/\C9 (K5 W) d (us i):=by
       refine⟨fun i=>(W.cells? 0 (a.add (i*P.cellsOf e)) (P.cellsOf e)).getD [],fun i d hi=> ?_⟩;obtain⟨us,h1,h2,_⟩:=hall i d hi;dsimp only;rw[h1];exact⟨rfl,h2⟩
      obtain⟨us,hus⟩:=hus;rw[<-hes];refine .sl _ es (some a) cap a.block a.off us (by omega) (fun hne=> ?_) (fun i hi=> ?_) (fun i d hi=> ?_) (fun i j d c u hi hj hu=> ?_)
      .have:0<es.length:=as_.2 hne;have:=hspot (by omega);cases a;simp at this⊢;exact this
      .obtain⟨h1,h2⟩:=hus i es[i] (aa_ hi);obtain⟨h3,h4⟩:=Bm4 h1;have hs:=hspot (by omega);have h40:=h4 0 (by omega);rw[aa_ (show 0<(us i).length by omega)]at h40;obtain⟨c,h5,_,_⟩:=Cf6 h40;rw[Bl6 hs,Bl6 rfl]at h5;refine⟨c,h5,fun j hj=> ?_⟩;have h4j:=h4 j (by omega);rw[aa_ hj]at h4j;obtain⟨c',h6,_,h7⟩:=Cf6 h4j;rw[Bl6 hs,Bl6 rfl]at h6 h7;rw[h5]at h6;cases h6;rw[aa_ hj];exact h7
      .obtain⟨h1,h2⟩:=hus i d hi;have:=(Bm4 h1).1;have:=h2.len;omega
      .exact(hus i d hi).2.get hj hu
     .cases h
   .cases hk
  .rename_i fs hu;unfold DataW.trod at h;rw[hu]at h;split at h<;>first|(exfalso;simp_all;done)|skip
   rename_i fs' cs' he;cases he;split at h
   .rename_i hlen;simp only[Option.map_eq_some_iff]at h;obtain⟨xs,hxs,_⟩:=h;obtain⟨ds,h1,h2⟩:=trod_struct (P:=P) (W:=W) (G:=fun t cs=>DataW.trod enc P W 0 (fun _=>true) true n t cs) (F:=Fit P m) (okt:=okT P m) (fun t cs x h1 h2=>Af1 m t n cs x h1 h2) fs.toList 0 _ xs (by rw[hlen];exact hk) hxs (at_ _);exact⟨ds,by simpa using h1,by unfold Fit;rw[hu];exact h2⟩
   .cases h
  .rename_i k e hu;split at hk
   .rename_i hsz;have hsz:=nB_ hsz;unfold DataW.trod at h;rw[hu]at h;split at h<;>first|(exfalso;simp_all;done)|skip
    rename_i k' e' cs' he;cases he;split at h
    .rename_i hlen;simp only[Option.map_eq_some_iff]at h;obtain⟨xs,hxs,_⟩:=h;obtain⟨_,hget⟩:=Al3 hxs;obtain⟨ds,h1,h2⟩:=trod_array (W:=W) (G:=fun cs=>DataW.trod enc P W 0 (fun _=>true) true n e cs) (F:=Fit P m e) (sz:=P.cellsOf e) (fun cs x h=>Af1 m e n cs x hk h) k 0 _ (by rw[hlen,<-hsz,Nat.zero_add]) (fun i hi=>by
      obtain⟨y,_,hy⟩:=hget i i (by simp[hi]);exact⟨y,by rw[Nat.zero_add];exact hy⟩)
     exact⟨ds,by simpa using h1,by unfold Fit;rw[hu];exact h2⟩
    .cases h
   .cases hk
  .cases hk
section
variable {P:Program} {n:Nat} {t:TypeId} {ds:List Dat}
theorem Dh2{k:IntKind}(hu:P.underlying t=some (.int k))(h:Fit P (n+1) t ds):∃m,ds=[.int k m]/\(Lit.int k m).wf=true:=by unfold Fit at h;rw[hu]at h;exact h
theorem Dh4(hu:P.underlying t=some .string)(h:Fit P (n+1) t ds):∃s,ds=[.str s]/\s.length<=maxLen:=by unfold Fit at h;rw[hu]at h;exact h
theorem Dh3{e:TypeId}(hu:P.underlying t=some (.slice e)){sz:Nat}(hs:P.cellsOf e=sz)(h:Fit P (n+1) t ds):∃es,ds=[.sl sz es]/\es.length<=maxLen/\∀x∈es,Fit P n e x:=by unfold Fit at h;rw[hu]at h;subst hs;exact h
theorem Ap7{fs:Array Field}(hu:P.underlying t=some (.struct fs))(h:Fit P (n+1) t ds):Gb1 (Fit P n) fs.toList ds:=by unfold Fit at h;rw[hu]at h;exact h
theorem Bs8{k:Nat}{e:TypeId}(hu:P.underlying t=some (.array k e))(h:Fit P (n+1) t ds):Gb0 (Fit P n e) k ds:=by unfold Fit at h;rw[hu]at h;exact h
theorem Cn0{α:Type}{en:α->List Dat}{Q:α->Prop}{F:List Dat->Prop}(h:∀x,F x->∃y,x=en y/\Q y):∀(es:List (List Dat)),(∀x∈es,F x)->∃l:List α,es=l.map en/\∀y∈l,Q y
 |[],_=>⟨[],rfl,fun y h=>by cases h⟩
 |x::es,hx=>by
  obtain⟨y,rfl,hy⟩:=h x (hx x ab_);obtain⟨l,rfl,hl⟩:=Cn0 h es (fun x h=>hx x (mem_cons_of_mem _ h));exact⟨y::l,rfl,fun z hz=>by rcases mem_cons.1 hz with rfl|hz;exact hy;exact hl z hz⟩
theorem Eq9{W:World}{r:Reach}{base:Nat}{v:Value}{fs:Array Field}(hu:P.underlying t=some (.struct fs))(h:Value.okWide P W r base t v):∃cs,v= .agg cs:=by
 unfold Value.okWide at h;rw[hu]at h;obtain⟨cs,e,_⟩:=h;exact⟨cs,e⟩
theorem Bz9{M:Mem}{cs:Array Value}(h:C9 M ds cs.toList):B8 M noR (.agg (dV ds)) (.agg cs):=by
 simp only[B8];exact⟨cs.toList,by simp,B2.dV h⟩
theorem Eh4{M:Mem}{d:Dat}{v:Value}(h:C9 M [d] [v]):B8 M noR (.d d) v:=by
 obtain⟨u,us,e,h1,_⟩:=h;cases e;simp only[B8];exact h1
end
end
end
section
section
variable {H:Type} {enc:TypeId×Value->H} {P:Program} {W:World} {M:Mem} {b:Nat} {sp:Nat->Bool} {held:Bool}
theorem Bm5{g:Nat}{cs:Array Value}{t:TypeId}{tag:Nat×Nat}(h:W.heap[g]? =some (.cells cs t tag)):V7 (K5 W) g 0 cs.toList:=
 ⟨cs,by unfold K5;rw[h],fun j hj=>by simp⟩
theorem Ba5{n:String}{g:Nat}{cs:Array Value}(hg:P.globalNamed n=some g)(h:W.var? P n=some cs):∃e z,W.heap[g]? =some (.cells cs e z):=by
 simp only[World.var?,hg,Option.bind_some]at h;split at h
 .rename_i e;cases h;exact⟨_,_,e⟩
 .cases h
theorem As9{n:String}{g:Nat}{cs:Array Value}(hg:P.globalNamed n=some g)(h:W.var? P n=some cs):V7 (K5 W) g 0 cs.toList:=by
 simp only[World.var?,hg,Option.bind_some]at h;split at h
 .rename_i e;cases h;exact Bm5 e
 .cases h
def dw:DataW H->Option Dat
 | .lit (.int k z)=>some (.int k z)
 | .lit (.string s)=>some (.str s)
 | .lit (.bool x)=>some (.bool x)
 | .iface _ _=>some (.ife true)
 |_=>none
def okE(P:Program)(t:TypeId):Bool:=
 match P.underlying t with
 |some .bool=>true
 |some (.int _)=>true
 |some .string=>true
 |some (.interface _)=>true
 |_=>false
theorem el1{t:TypeId}{fuel:Nat}{cs:List Value}{d:DataW H}{q:List MemPlace}{x:Dat}(hk:okE P t=true)(h:DataW.trod enc P W b sp held fuel t cs=some (d,q))(hd:dw d=some x):∃v,cs=[v]/\T7 M x v:=by
 cases fuel with
 |zero=>simp[DataW.trod]at h
 |succ n=>
  unfold okE at hk;split at hk
  .rename_i hu;unfold DataW.trod at h;rw[hu]at h;split at h<;>first|(simp_all;done)|skip
   rename_i c _ _;simp only[Option.some.injEq,Prod.mk.injEq]at h;obtain⟨rfl,_⟩:=h;cases hd;exact⟨_,rfl,.bool _⟩
  .rename_i hu;obtain⟨z,rfl,hx,_⟩:=DataW.trod_int hu h;cases hx;cases hd;exact⟨_,rfl,.int _ _⟩
  .rename_i hu;obtain⟨s,rfl,hx,_⟩:=DataW.trod_string hu h;cases hx;cases hd;refine⟨_,rfl,?_⟩;have:=T7.str (M:=M) s.data.toList;simpa[Z9] using this
  .rename_i hu;unfold DataW.trod at h;rw[hu]at h;split at h<;>first|(simp_all;done)|skip
   .cases h;cases hd
   .split at h
    .cases h;cases hd
    .rename_i nm _;simp only[Option.map_eq_some_iff,Prod.mk.injEq]at h;obtain⟨_,_,rfl,_⟩:=h;cases hd;exact⟨_,rfl,.ifc _ _⟩
    .cases h
  .cases hk
theorem Gu3{t e:TypeId}{k fuel:Nat}{cs:List Value}{ds:List (DataW H)}{q:List MemPlace}{xs:List Dat}(ht:P.underlying t=some (.array k e))(hk:okE P e=true)(hc:P.cellsOf e=1)(hct:P.cellsOf t=k)
 (h:DataW.trod enc P W b sp held fuel t cs=some (.agg ds,q)) (hd:ds.mapM dw=some xs):C9 M xs cs:=by
 obtain⟨ys,m,_,ex,hl,hn,hel⟩:=DataW.trod_array ht h;have ed:ds=ys.map (·.1):=DataW.agg.inj (Prod.mk.inj ex).1;have hm:=Al3 hd;refine C9.of_get (by rw[hl,hct,hm.1,ed,length_map,hn]) (fun j c u h1 h2=> ?_);have hj:j<k:=by
  have:=(ac_.mp h2).1;omega
 have hy:ys[j]? =some ys[j]:=aa_ (by omega);have h3:=hel j hj;rw[hy,hc,ch_]at h3;have hdj:ds[j]? =some (ys[j]).1:=by rw[ed,List.getElem?_map,hy];rfl
 obtain⟨y,e1,e2⟩:=hm.2 j _ hdj;obtain rfl:y=c:=ax_ (e1.symm.trans h1);obtain⟨v,e3,e4⟩:=el1 (M:=M) hk (show DataW.trod enc P W b sp held m e _=some ((ys[j]).1,(ys[j]).2) from h3) e2;have e5:cs[j]? =some v:=by
  have:((cs.drop j).take 1)[0]? =some v:=by rw[e3];rfl
  simpa using this
 obtain rfl:v=u:=ax_ (e5.symm.trans h2);exact e4
end
section
variable {P:Program} {W:World} {laid:List (String×DataW Unit)}
theorem Ac3:∀{laid:List (String×DataW Unit)} {ps:List MemPlace} {i:Nat} {n:String} {d:DataW Unit},DataW.LaidVars P W laid ps->laid[i]? =some (n,d)->
 ∃g t cs fuel p,P.globalNamed n=some g/\(P.globals[g]?).map (·.type)=some t/\W.var? P n=some cs/\DataW.trod (fun _=>()) P W 0 (fun _=>true) false fuel t cs.toList=some (d,p)
 |[],_,_,_,_,_,h=>by simp at h
 |(m,e)::l,ps,0,n,d,h,hi=>by
  obtain⟨g,t,cs,fuel,p,q,h1,h2,h3,h4,_⟩:=h;simp only[getElem?_cons_zero,Option.some.injEq,Prod.mk.injEq]at hi;obtain⟨rfl,rfl⟩:=hi;exact⟨g,t,cs,fuel,p,h1,h2,h3,h4⟩
 |(m,e)::l,ps,i+1,n,d,h,hi=>by
  obtain⟨_,_,_,_,_,q,_,_,_,_,h5,_⟩:=h;exact Ac3 h5 (by simpa using hi)
theorem Do9(hl:laidMet P laid W)(i:Nat){n:String}{ds:List (DataW Unit)}{g:Nat}{t e:TypeId}{k:Nat}{xs:List Dat}(hm:laid[i]? =some (n,.agg ds))(hg:P.globalNamed n=some g)(htt:(P.globals[g]?).map (·.type)=some t)
 (ht:P.underlying t=some (.array k e)) (hk:okE P e=true) (hc:P.cellsOf e=1) (hct:P.cellsOf t=k) (hd:ds.mapM dw=some xs):(∃us,V7 (K5 W) g 0 us/\C9 (K5 W) xs us)/\∃c e z,W.heap[g]? =some (.cells c e z)/\c.size=(xs:List Dat).length:=by
 obtain⟨ps,h,_⟩:=hl;obtain⟨g',t',cs,fuel,p,h1,h2,h3,h4⟩:=Ac3 h hm;obtain rfl:=ax_ (hg.symm.trans h1);obtain rfl:=ax_ (htt.symm.trans h2);have hr:=Gu3 (M:=K5 W) ht hk hc hct h4 hd;obtain⟨e',z',hh⟩:=Ba5 hg h3;exact⟨⟨_,As9 hg h3,hr⟩,_,_,_,hh,by rw[<-hr.len,bi_]⟩
theorem Ep6(hl:laidMet P laid W)(i:Nat){n:String}{d:DataW Unit}{g:Nat}{t:TypeId}{x:Dat}(hm:laid[i]? =some (n,d))(hg:P.globalNamed n=some g)(htt:(P.globals[g]?).map (·.type)=some t)
 (hk:okE P t=true) (hd:dw d=some x):(∃us,V7 (K5 W) g 0 us/\C9 (K5 W) [x] us)/\∃c e z,W.heap[g]? =some (.cells c e z)/\c.size=([x]:List Dat).length:=by
 obtain⟨ps,h,_⟩:=hl;obtain⟨g',t',cs,fuel,p,h1,h2,h3,h4⟩:=Ac3 h hm;obtain rfl:=ax_ (hg.symm.trans h1);obtain rfl:=ax_ (htt.symm.trans h2);obtain⟨v,e,r⟩:=el1 (M:=K5 W) hk h4 hd;obtain⟨e',z',hh⟩:=Ba5 hg h3;exact⟨⟨_,As9 hg h3,v,[],e,r,rfl⟩,_,_,_,hh,by rw[<-bi_,e];rfl⟩
theorem Gw0(hs:W.ShapedOpen P){g:Nat}{zero:Array Value}{t:TypeId}{k:IntKind}(hlt:g<P.globals.size)(hz:((begin P (fun _ _=>0) default).world.heap[g]?).bind Obj.row? =some (zero,t))
 (h1:zero.size=1) (hb:P.buildable t=true) (hu:P.underlying t=some (.int k)) (ht:P.cellTypes P.depth t=some [t]):∃m,V7 (K5 W) g 0 [.int k m]:=by
 obtain⟨cs,e1,e2,e3⟩:=hs.1 g zero t hlt hz;obtain⟨ts,e4,_,e5⟩:=e3 hb;obtain rfl:=ax_ (ht.symm.trans e4);have e6:cs[0]? =some cs[0]:=Array.getElem?_eq_getElem (by omega);obtain⟨u,e7,e8⟩:=e5 0 _ e6;simp at e7;subst e7;unfold Cell.ok at e8;rw[hu]at e8;generalize hv:cs[0]'(by omega)=v at e8 e6;cases v<;>simp only at e8;obtain⟨rfl,_⟩:=e8;rename_i m _;refine⟨m,cs,by unfold K5;rw[e1],fun j hj=> ?_⟩;obtain rfl:j=0:=by simp at hj;omega
 simpa using e6
def Gn4(Q:Nat->List Dat->Prop):List (Nat×List Dat)->Prop
 |[]=>True
 |x::l=>Q x.1 x.2/\Gn4 Q l
theorem Cr1{Q:Nat->List Dat->Prop}:∀{l:List (Nat×List Dat)} {n:Nat} {cs:List Dat},Gn4 Q l->Gc7 l n=some cs->Q n cs
 |[],_,_,_,h=>by cases h
 |(m,x)::l,n,cs,hq,h=>by
  unfold Gc7 at h;cases hb:Nat.beq n m with
  |true=>
   rw[hb]at h;cases h;obtain rfl:=nB_ hb;exact hq.1
  |false=>
   rw[hb]at h;exact Cr1 hq.2 h
end
end
section
@[reducible] def V.i (x:Int):V:= .d (.int .i64 x)
@[reducible] def V.n (x:Int):V:= .d (.int .u64 x)
@[reducible] def V.w (x:Int):V:= .d (.int .u32 x)
@[reducible] def V.y (x:Int):V:= .d (.int .u8 x)
@[reducible] def V.b (x:Bool):V:= .d (.bool x)
@[reducible] def V.s (x:List UInt8):V:= .d (.str x)
@[reducible] def V.l {α:Type} (n:Nat) (l:List α) (f:α->List Dat):V:= .d (.sl n (l.map f))
def Gd3:Nat->Nat->List Nat->List Nat
 |0,_,l=>l
 |f+1,n,l=>match Nat.ble n 1 with
  |true=>l
  |false=>Gd3 f (Nat.div n 2) (Nat.mod n 2::l)
@[reducible] def kC (b:Code) (p:Nat):It:= .code (cAt b (Gd3 99 p []))
@[reducible] def kL (b:Code) (p:Nat):It:= .inLoop (cAt b (Gd3 99 p []))
@[reducible] def kO (b:Code) (p:Nat):It:= .ops (Gk2 (cAt b (Gd3 99 p []))) []
def Gq1(P:Program)(g:FuncId):Bool:=match P.funcs[g]? with|some fn=> !(fn.name== "runtime.NumGoroutine")&& !fn.body.isNone|none=>false
theorem en_{P:Program}{g:FuncId}(h:Gq1 P g=true):G7 P g:=by
 unfold Gq1 at h;split at h
 .rename_i fn hf;simp only[Bool.and_eq_true,Bool.not_eq_true']at h;exact Az6 hf h.1 h.2
 .cases h
theorem lpI{p:Nat->Prop}(h0:p 0)(h1:∀n,p n->p (n+1)):∀n,p n
 |0=>h0
 |n+1=>h1 n (lpI h0 h1 n)
theorem gs{s:List UInt8}{i:Int}{c:UInt8}(h:C2 s i=some c):(match C2 s i with|some c=>some [Dat.int .u8 c.toNat]|none=>none)=some [.int .u8 c.toNat]:=by rw[h]
theorem gm'{α β:Type}{l:List α}(f:α->β){i:Int}{y:α}(h:C2 l i=some y):C2 (l.map f) i=some (f y):=gm h
theorem am'{α β:Type}{l m k:List α}(f:α->β)(h:app l m=some k):app (l.map f) (m.map f)=some (k.map f):=am h
theorem sm'{α β:Type}{l k:List α}(f:α->β){lo hi:Int}(h:slc l lo hi=some k):slc (l.map f) lo hi=some (k.map f):=sm h
theorem mm'{α:Type}{l c:Int}{z:α}(f:α->List Dat){k:List α}(h:mkL l c z=some k):mk2 l c (f z)=some (k.map f):=mm h
abbrev GJ(P:Program)(N:Nat)(f:Func)(v:V):Cfg->Prop:=J none P N [] (Ft9 P f v)
theorem oi{α:Type}{a b:α}(h:some a=some b):a=b:=ax_ h
section
variable {r:Option Nat} {P:Program} {N:Nat} {ds:List Deferred} {fin:Fin} {c:Cfg} {q:T9}
theorem jc(n:Nat){g:FuncId}{ys:List V}{v:V}(hcall:C1 P g ys v)(hk:J r P N ds fin (Gd6 P N (At8 P N n c) v))(hc:Co4 P N (At8 P N n c)=some (g,ys):=by kernel_rfl)(he:G7 P g:=by exact en_ (by kernel_rfl)):J r P N ds fin c:=
 B5 n (Ey8 ys v hc he (R1.refl _) hcall hk)
theorem dc(n:Nat){g:FuncId}{ys:List V}{v:V}(hcall:C1 P g ys v)(hk:JD r P N ds fin (Ed4 P N (N4 P N n q) v))(hc:Ec9 P N (N4 P N n q)=some (g,ys):=by kernel_rfl)(hb:Gc3 P N (N4 P N n q) v=true:=by kernel_rfl)(he:G7 P g:=by exact en_ (by kernel_rfl)):JD r P N ds fin q:=
 G9 n (Eb3 ys v hc hb he (R1.refl _) hcall hk)
theorem jcr(n:Nat){g:FuncId}{os:List (Nat×B9)}{ys:List V}{H:List (Nat×B9)}{v:V}(p:List (Nat×Nat))(hcall:M4 P g os ys H v)(hk:J r P N ds fin (Gl1 P N (At8 P N n c) p H v))(hc:Cf4 P N (At8 P N n c) p=some (g,os,ys):=by kernel_rfl)(hb:okR P N (At8 P N n c) p H=true:=by kernel_rfl)(he:G7 P g:=by exact en_ (by kernel_rfl)):J r P N ds fin c:=
 B5 n (Ey9 p ys H v hc hb he (R1.refl _) hcall hk)
theorem dcr(n:Nat){g:FuncId}{os:List (Nat×B9)}{ys:List V}{H:List (Nat×B9)}{v:V}(p:List (Nat×Nat))(hcall:M4 P g os ys H v)(hk:JD r P N ds fin (Fc1 P N (N4 P N n q) p H v))(hc:Dl2 P N (N4 P N n q) p=some (g,os,ys):=by kernel_rfl)(hb:Gi7 P N (N4 P N n q) p H v=true:=by kernel_rfl)(he:G7 P g:=by exact en_ (by kernel_rfl)):JD r P N ds fin q:=
 G9 n (Eb4 p ys H v hc hb he (R1.refl _) hcall hk)
theorem ji{α:Type}(n t:Nat){b:Bool}{x y z:α}(hF:(bif b then x else y)=z)(ht:b=true->x=z->J r P N ds fin (Eh2 (At8 P N n c) t (.d (.bool true))))(hf:b=false->y=z->J r P N ds fin (Eh2 (At8 P N n c) t (.d (.bool false))))(hb:G3 N (At8 P N n c).sl (.tmp t)= .d (.bool b):=by kernel_rfl):J r P N ds fin c:=
 B5 n (Fq1 t hb (fun h=>ht h (by subst h;exact hF)) (fun h=>hf h (by subst h;exact hF)))
theorem di{α:Type}(n t:Nat){b:Bool}{x y z:α}(hF:(bif b then x else y)=z)(ht:b=true->x=z->JD r P N ds fin (Dz5 (N4 P N n q) t (.d (.bool true))))(hf:b=false->y=z->JD r P N ds fin (Dz5 (N4 P N n q) t (.d (.bool false))))(hb:G3 N (N4 P N n q).sl (.tmp t)= .d (.bool b):=by kernel_rfl):JD r P N ds fin q:=
 G9 n (Ey7 t hb (fun h=>ht h (by subst h;exact hF)) (fun h=>hf h (by subst h;exact hF)))
theorem Gp5{α β:Type}{o:Option α}{f:α->Option β}{z:β}(h:Option.bind o f=some z):∃y,o=some y/\f y=some z:=by
 cases o with
 |none=>cases h
 |some y=>exact⟨y,rfl,h⟩
theorem jB(n:Nat){α β:Type}{o:Option α}{f:α->Option β}{z:β}{g:FuncId}{ys:List V}{v:α->V}(hF:Option.bind o f=some z)(hcall:∀{y},o=some y->C1 P g ys (v y))(hk:∀y,f y=some z->J r P N ds fin (Gd6 P N (At8 P N n c) (v y)))(hc:Co4 P N (At8 P N n c)=some (g,ys):=by kernel_rfl)(he:G7 P g:=by exact en_ (by kernel_rfl)):J r P N ds fin c:=by
 obtain⟨y,e,h⟩:=Gp5 hF;exact jc n (hcall e) (hk y h) hc he
theorem dB(n:Nat){α β:Type}{o:Option α}{f:α->Option β}{z:β}{g:FuncId}{ys:List V}{v:α->V}(hF:Option.bind o f=some z)(hcall:∀{y},o=some y->C1 P g ys (v y))(hk:∀y,f y=some z->JD r P N ds fin (Ed4 P N (N4 P N n q) (v y)))(hc:Ec9 P N (N4 P N n q)=some (g,ys):=by kernel_rfl)(hb:∀y,Gc3 P N (N4 P N n q) (v y)=true:=by intro _;kernel_rfl)(he:G7 P g:=by exact en_ (by kernel_rfl)):JD r P N ds fin q:=by
 obtain⟨y,e,h⟩:=Gp5 hF;exact dc n (hcall e) (hk y h) hc (hb y) he
theorem jI{α:Type}(n t:Nat){b:Bool}{x y z:α}(hF:(bif b then x else y)=z)(ht:x=z->J r P N ds fin (Eh2 (At8 P N n c) t (.d (.bool true))))(hf:y=z->J r P N ds fin (Eh2 (At8 P N n c) t (.d (.bool false))))(hb:G3 N (At8 P N n c).sl (.tmp t)= .d (.bool b):=by kernel_rfl):J r P N ds fin c:=ji n t hF (fun _=>ht) (fun _=>hf) hb
theorem dI{α:Type}(n t:Nat){b:Bool}{x y z:α}(hF:(bif b then x else y)=z)(ht:x=z->JD r P N ds fin (Dz5 (N4 P N n q) t (.d (.bool true))))(hf:y=z->JD r P N ds fin (Dz5 (N4 P N n q) t (.d (.bool false))))(hb:G3 N (N4 P N n q).sl (.tmp t)= .d (.bool b):=by kernel_rfl):JD r P N ds fin q:=di n t hF (fun _=>ht) (fun _=>hf) hb
theorem jo1(n:Nat){o:Option (List Dat)}{x:List Dat}(hx:o=some x)(hk:J r P N ds fin (Gk9 P N (At8 P N n c) x))(ho:Dt1 P N (At8 P N n c)=some o:=by kernel_rfl):J r P N ds fin c:=B5 n (J3 x ho hx hk)
theorem jo2(n:Nat){o:Option (List (List Dat))}{x:List (List Dat)}(hx:o=some x)(hk:J r P N ds fin (Gl0 P N (At8 P N n c) x))(ho:Dt2 P N (At8 P N n c)=some o:=by kernel_rfl):J r P N ds fin c:=B5 n (G0 x ho hx hk)
theorem do1(n:Nat){o:Option (List Dat)}{x:List Dat}(hx:o=some x)(hk:JD r P N ds fin (Fb9 P N (N4 P N n q) x))(ho:Fb7 P N (N4 P N n q)=some o:=by kernel_rfl)(hb:Gi5 P N (N4 P N n q) x=true:=by kernel_rfl):JD r P N ds fin q:=G9 n (H8 x ho hb hx hk)
theorem do2(n:Nat){o:Option (List (List Dat))}{x:List (List Dat)}(hx:o=some x)(hk:JD r P N ds fin (Fc0 P N (N4 P N n q) x))(ho:Fb8 P N (N4 P N n q)=some o:=by kernel_rfl)(hb:Gi6 P N (N4 P N n q) x=true:=by kernel_rfl):JD r P N ds fin q:=G9 n (Bl2 x ho hb hx hk)
theorem jd(n:Nat)(hk:JD r P N ds fin (Dp7 (At8 P N n c)))(hm:P.follows .mixedOrders=true:=by kernel_rfl)(hd:Dq0 (At8 P N n c)=true:=by kernel_rfl):J r P N ds fin c:=B5 n (Fq2 hm hd hk)
theorem je(n:Nat)(hk:J r P N ds fin ⟨(N4 P N n q).sl,(N4 P N n q).ob,(N4 P N n q).td⟩)(hr:(N4 P N n q).rest=[]:=by kernel_rfl):JD r P N ds fin q:=G9 n (Fp9 hr hk)
theorem ja(n:Nat){S0:List (Nat×V)}{O0:List (Nat×B9)}{T0:List It}(hk:J r P N ds fin ⟨mkT S0,O0,T0⟩)(hp:prune N (S0.map Prod.fst) (O0.map Prod.fst) (At8 P N n c)=some (S0,O0,T0):=by kernel_rfl)(hl:Bl8 N (S0.map Prod.fst)=true:=by kernel_rfl):J r P N ds fin c:=B5 n (Dh6 _ _ hp hl hk)
def Gq8(P:Program)(N:Nat)(c:Cfg)(fn:Func):Option V:=match Du6 P N c fn.results.toList with|some xs=>some (Dc3 xs)|none=>none
theorem jr(n:Nat){fn:Func}{v:V}(hv:Gq8 P N (At8 P N n c) fn=some v:=by kernel_rfl)(hN:Nat.ble N 1024=true:=by kernel_rfl):J r P N [] (Ft9 P fn v) c:=by
 unfold Gq8 at hv;split at hv
 .rename_i xs hx;exact B5 n (Ce4 (rs:=fn.results.toList) xs (by simp) hN hx (R1.refl _) (ax_ hv))
 .cases hv
def Fx3(P:Program)(N:Nat)(c:Cfg)(fn:Func):Option (V×List (Nat×B9)):=match Ca0 P N c fn.results.toList with|some (xs,H)=>some (Dc3 xs,H)|none=>none
theorem jrr(n:Nat){fn:Func}{v:V}{H:List (Nat×B9)}(hv:Fx3 P N (At8 P N n c) fn=some (v,H):=by kernel_rfl)(hN:Nat.ble N 1024=true:=by kernel_rfl):J r P N [] (Do2 P fn H v) c:=by
 unfold Fx3 at hv;split at hv
 .rename_i xs H' hx;have h1:=ax_ hv;injection h1 with h2 h3
  subst h3;exact B5 n (Fq5 (rs:=fn.results.toList) xs (by simp) hN hx (R1.refl _) h2)
 .cases hv
theorem cf(N:Nat){g:FuncId}{fn:Func}{args:List V}{v:V}(hf:P.funcs[g]? =some fn)(h:J none P N [] (Ft9 P fn v) ⟨mkT (Dj0 0 args),[],[.code (C0 fn)]⟩)(hb:fn.body=some (C0 fn):=by kernel_rfl)(hN:fn.ntmps=N:=by rfl)(hv:Nat.ble args.length N=true:=by rfl):C1 P g args v:=Ec5 hf hb hN hv h
theorem cr(N:Nat){g:FuncId}{fn:Func}{os H:List (Nat×B9)}{args:List V}{v:V}(hf:P.funcs[g]? =some fn)(h:J none P N [] (Do2 P fn H v) ⟨mkT (Dj0 0 args),os,[.code (C0 fn)]⟩)(hb:fn.body=some (C0 fn):=by kernel_rfl)(hN:fn.ntmps=N:=by rfl)(hv:Nat.ble args.length N=true:=by rfl):M4 P g os args H v:=Ec6 hf hb hN hv h
end
end
section
section
variable {H:Type} {enc:TypeId×Value->H}
theorem Bz4{d:DataW H}:∀{l:List (DataW H)},d∈l->Rows.uptoBulk d<=Rows.uptoBulkAll l
 |x::r,h=>by
  simp only[Rows.uptoBulkAll];rcases mem_cons.1 h with rfl|h
  .omega
  .have:=Bz4 h;omega
theorem Bz8{M:Mem}:∀{ds:List Dat} {us:List Value} {i:Nat} {d:Dat},C9 M ds us->ds[i]? =some d->∃u,us[i]? =some u/\T7 M d u
 |[],_,_,_,_,h=>by simp at h
 |x::ds,us,i,d,hr,h=>by
  obtain⟨u,us',rfl,h1,h2⟩:=hr;cases i with
  |zero=>cases h;exact⟨u,rfl,h1⟩
  |succ i=>
   rw[getElem?_cons_succ]at h;obtain⟨w,e1,e2⟩:=Bz8 h2 h;exact⟨w,by rw[getElem?_cons_succ];exact e1,e2⟩
theorem Cv0{P:Program}{W:World}{M:Mem}{t:TypeId}{fs:Array Field}{n:Nat}{cs:List Value}{d:DataW H}{p:List MemPlace}{ds:List Dat}(i:Nat){f:Field}{s:List UInt8}(ht:P.underlying t=some (.struct fs))(h:DataW.trod enc P W 0 (fun _=>true) true n t cs=some (d,p))
 (hr:C9 M ds cs) (hf:fs[i]? =some f) (hu:P.underlying f.type=some .string) (hc:P.cellsOf f.type=1) (hd:ds[f.offset]? =some (.str s)):s.length<=Rows.uptoBulk d:=by
 obtain⟨xs,m,rfl,ex,hl,hn,hel⟩:=DataW.trod_struct ht h;have h1:=hel i f hf;rw[hc]at h1;obtain⟨u,hu1,hu2⟩:=Bz8 hr hd;have hlt:f.offset<cs.length:=(ac_.1 hu1).1;have e1:(cs.drop f.offset).take 1=[u]:=by
  rw[ai_ hlt,take_succ_cons,take_zero,(ac_.1 hu1).2]
 have hi:i<xs.length:=by rw[hn];exact(aq_.1 hf).1
 rw[e1,aa_ hi]at h1;obtain⟨b,eb,hx,_⟩:=DataW.trod_string hu h1;cases eb;have hd1:xs[i].1= .lit (.string b.data.toList):=by rw[hx]
 have hs:b.data.toList=s:=by
  generalize hq:Value.string b=q at hu2;cases hu2 with
  |str s=>unfold Z9 at hq;cases hq;rfl
 have hb:Rows.uptoBulk xs[i].1<=Rows.uptoBulkAll (xs.map (·.1)):=Bz4 (bb_ (af_ hi));obtain rfl:d= .agg (xs.map (·.1)):=(Prod.mk.inj ex).1;rw[hd1]at hb;simp only[Rows.uptoBulk]at hb⊢;rw[hs]at hb;omega
theorem Ej3{C:Checked}{os:Os}{f:FuncId}{fn:Func}{s:OpenSpec}{k:(H:Type)->List (DataW H)->Bool}(hk:s.cond=some k){conds:List PathCond}{apart:Bool}{laid:List (String×DataW Unit)}(w0:World)(args:Array Value)(fuel:Nat)(hos:w0.os=os)
 (hsh:(w0.forCall (fun _ _=>0) ⟨#[],args,[]⟩).Shaped C.prog)
 (hok:Input.okWideB C.prog (w0.forCall (fun _ _=>0) ⟨#[],args,[]⟩) f ⟨#[],args,[]⟩=true)
 (hrd:(match DataW.whole enc C.prog (w0.forCall (fun _ _=>0) ⟨#[],args,[]⟩).memory fn.params.toList s.vars apart args.toList fuel with|some x=>conds.all (PathCond.test C.prog ⟨fn.params.toList,x.1,s.bare.plain.varTypes C.prog,x.2.1⟩)&&k H (x.1++x.2.1)|none=>false)=true)
 (hsz:s.bare.sizedB enc C.prog fn apart (w0.forCall (fun _ _=>0) ⟨#[],args,[]⟩).memory args fuel=true)
 (hl:laidMetH C.prog laid (w0.forCall (fun _ _=>0) ⟨#[],args,[]⟩).memory):
 ∃(w:World) (tape:Tape) (i:Input),w.os=os/\(w.forCall tape i).Shaped C.prog/\i.vars=[]/\Input.okWide C.prog (w.forCall tape i) .any w.heap.size f i/\
  s.preRow enc C.prog fn conds apart laid (w.forCall tape i).memory i.args/\({modest:=false}:Assume).holds C.prog (lone (Frame.enter C.prog f i.args .normal) [] (w.forCall tape i)):=by
 split at hrd
 .rename_i x hx;rw[Bool.and_eq_true]at hrd;exact⟨w0,fun _ _=>0,⟨#[],args,[]⟩,hos,hsh,(Input.okWide_of_okWideB (base:=0) hok).1,(Input.okWide_of_okWideB hok).2,
   OpenSpec.preRow_of_cond fuel hx hrd.1 (fun k' hk'=>by rw[hk]at hk';cases hk';exact hrd.2) hsz hl,by
   simp only[Assume.holds];exact⟨by simp,by simp,fun _=>Modest.zero,by simp,by simp⟩⟩
 .cases hrd
end
end
end Go.Proofs.YtfgbhfphjmmiaaaGreatDoor.Kx
end
