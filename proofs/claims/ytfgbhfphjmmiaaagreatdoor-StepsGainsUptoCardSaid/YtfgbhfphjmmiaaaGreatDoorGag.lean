/- StepsGains holds: whatever the input, the call returns true, and what came in reads as it did. No condition. -/
import Derived.Test.YtfgbhfphjmmiaaaGreatDoorTie
import Derived.Test.YtfgbhfphjmmiaaaGreatDoorCards
import Derived.WalkKit
import Derived.ShutString
import Derived.ChangeOld
import Derived.Test.YtfgbhfphjmmiaaaGreatDoorGaf
open List Go.Proofs.Tryz
section
namespace Go.Proofs.YtfgbhfphjmmiaaaGreatDoor
open Go Go.RowKit Kx Go.IntKind
set_option maxRecDepth 100000
section
def gm(v:List Rat)(c:Cho):Rat:=c.gain+mix v c
def szg(g D B:Nat):Prop:=szs g D B/\rs (0:Rat)/\∃p q,g*D<=10^p/\B*12+9999<=10^q/\p+q<1000000
structure okG(D:Nat)(c:Cho):Prop where
 den:fr D 9999 c.gain
theorem Fd6{c:Cho}{v:List Rat}{g D B n:Nat}(hc:okN g n c)(hgc:fr D 9999 c.gain)(hn:n=v.length)(hv:∀x∈v,fr D B x)(hg:0<g)(hD:0<D):fr (g*D) (B*12+9999) (gm v c):=by
 have h1:=Dr4 hc hn hv hg hD;have h2:fr (g*D) 9999 c.gain:=by have:=Ba1 hgc hg;rwa [Nat.mul_comm]at this
 have:=Bw3 h2 h1
 rwa [cs_]at this
theorem Do8{c:Cho}{v:List Rat}{g D B n:Nat}(hc:okN g n c)(hgc:fr D 9999 c.gain)(hn:n=v.length)(hv:∀x∈v,fr D B x)(hs:szg g D B):Ev fun f=>Fk1 f (eC c) (v.map R)=some (R (gm v c)):=by
 obtain⟨hs1,_,p,q,hp,hq,hpq⟩:=hs;have h1:=Dr4 hc hn hv hs1.1 hs1.2.1;have h2:fr (g*D) 9999 c.gain:=by have:=Ba1 hgc hs1.1;rwa [Nat.mul_comm]at this
 have z1:rs (mix v c):=Aq8 h1 hp (by omega) hpq;have z2:rs c.gain:=Aq8 h2 hp (by omega) hpq;refine(((Ft5 z2).and (Eg1 hc hn hv hs1)).and (Gp8 z2 z1)).mono fun f h=> ?_
 obtain⟨⟨e1,e2⟩,e3⟩:=h;unfold Fk1;exact sbe e1 (sbe e2 (sbe e3 rfl))
theorem Cf3{own:Int}{v:List Rat}{l1:List Cho}{g D B:Nat}(hl:l1.length<=1000000)(hc:∀c∈l1,okN g v.length c/\fr D 9999 c.gain)(hv:∀x∈v,fr D B x)(hs:szg g D B):
 ∀(l:List Cho) (i k0:Nat) (x:Rat),l1.drop i=l->fr (g*D) (B*12+9999) x->
  Ev fun f=>∀k,l.length<k->Ab4 f own (v.map R) (l1.map eC) k (k0:Int) (i:Int) (R x).n_.neg (R x).n_.mag (R x).d.neg (R x).d.mag=some (R (Dz4 own (l.map (gm v)) (i+1) k0 x).1,((Dz4 own (l.map (gm v)) (i+1) k0 x).2:Int))
 |[],i,k0,x,hd,hx=>Ev.of fun f k hk=>by
  obtain⟨k,rfl⟩:∃j,k=j+1:=⟨k-1,by simp at hk;omega⟩
  have:=drop_nil hd;unfold Ab4;rw[dF_ (by simp;omega)];rfl
 |c::l,i,k0,x,hd,hx=>by
  obtain⟨hi,hb,hd'⟩:=K1 hd;obtain⟨hcc,hgc⟩:=hc c (by rw[<-hb];exact af_ hi);have hm:=Fd6 hcc hgc rfl hv hs.1.1 hs.1.2.1;obtain⟨p,q,hp,hq,hpq⟩:=hs.2.2;have hz:rs (gm v c):=Aq8 hm hp hq hpq;have hz':rs x:=Aq8 hx hp hq hpq;refine((((Do8 hcc hgc rfl hv hs).and (Gv6 hz hz')).and (Cf3 (own:=own) hl hc hv hs l (i+1) (i+1) (gm v c) hd' hm)).and (Cf3 (own:=own) hl hc hv hs l (i+1) k0 x hd' hx)).mono fun f h k hk=> ?_
  obtain⟨⟨⟨h1,h2⟩,h3⟩,h4⟩:=h;obtain⟨k,rfl⟩:∃j,k=j+1:=⟨k-1,by simp at hk;omega⟩
  unfold Ab4;rw[dT_ (by simp;omega)];simp only[cond_true];refine sbe (x:=eC c) (by rw[D8 hi,hb]) (sbe h1 (sbe h2 (sbe Ff7 ?_)));rw[map_cons,Dz4];by_cases hp:own=0/\x<gm v c\/own=1/\gm v c<x
  .rw[dT_ hp,if_pos hp];simp only[cond_true];unfold Ap6;rw[wi i (by omega)];exact h3 k (by simp at hk;omega)
  .rw[dF_ hp,if_neg hp];simp only[cond_false];unfold Ap6;rw[wi i (by omega)];exact h4 k (by simp at hk;omega)
theorem Ec3{own:Int}{v:List Rat}{l:List Cho}{g D B:Nat}(hl:l.length<=1000000)(h0:l≠[])(hc:∀c∈l,okN g v.length c/\fr D 9999 c.gain)(hv:∀x∈v,fr D B x)(hs:szg g D B):
 Ev fun f=>Ey3 f own (eL l) (v.map R)=some (R (bst own (l.map (gm v))).1,((bst own (l.map (gm v))).2:Int)):=by
 cases l with
 |nil=>exact absurd rfl h0
 |cons c l=>
  obtain⟨hcc,hgc⟩:=hc c ab_;have hm:=Fd6 hcc hgc rfl hv hs.1.1 hs.1.2.1;simp only[length_cons]at hl;refine(((Do8 hcc hgc rfl hv hs).and (Cf3 (own:=own) (by omega) (fun c h=>hc c (mem_cons_of_mem _ h)) hv hs l 0 0 (gm v c) rfl hm)).and (Ev.ge (l.length+1))).mono fun f h=> ?_
  obtain⟨⟨h1,h2⟩,h3⟩:=h;unfold Ey3 eL;refine sbe (x:=eC c) rfl (sbe h1 (sbe (x:=l.map eC) ?_ ?_))
  .exact Ei9 _ _
  .exact h2 f (by omega)
def stg(m:Mdl)(v:List Rat)(s:Nat):Rat:=(bst (m.own.getD s 0) ((m.ch.getD s []).map (gm v))).1
def nxg(m:Mdl)(v:List Rat):List Rat:=(List.range m.ch.length).map (stg m v)
def gns(m:Mdl):Nat->List Rat
 |0=>bgn m 0
 |k+1=>nxg m (gns m k)
theorem Ff1(m:Mdl)(v:List Rat):(nxg m v).length=m.ch.length:=by simp[nxg]
theorem Ba3{g:Nat}{m:Mdl}(hm:okS g m):∀k,(gns m k).length=m.ch.length
 |0=>by simp[gns,bgn,hm.len]
 |k+1=>by simp[gns,Ff1]
def gnD(D:Nat)(m:Mdl):Prop:=∀l∈m.ch,∀c∈l,fr D 9999 c.gain
theorem Fv9{m:Mdl}{g D B:Nat}{v:List Rat}(hm:okS g m)(hgd:gnD D m)(hn:v.length=m.ch.length)(hv:∀x∈v,fr D B x)(hg:0<g)(hD:0<D):∀x∈nxg m v,fr (g*D) (B*12+9999) x:=by
 intro x hx;obtain⟨s,hs,rfl⟩:=av_.1 hx;have hs:=List.mem_range.1 hs;unfold stg;rw[ak_,ak_,aa_ hs];have hcs:=hm.cs m.ch[s] (af_ hs);refine Fb0 (by simpa using hcs.1) fun y hy=> ?_
 obtain⟨c,hc,rfl⟩:=av_.1 hy;exact Fd6 (hcs.2.2 c hc) (hgd _ (af_ hs) c hc) hn.symm hv hg hD
theorem Bo2{m:Mdl}{D g:Nat}(h:gnD D m)(hg:0<g):∀k,gnD (g^k*D) m
 |0=>by rw[Nat.pow_zero,bj_];exact h
 |k+1=>fun l hl c hc=>by
  have:=Ba1 (h l hl c hc) (bz_ hg:0<g^(k+1))
  rwa [Nat.mul_comm]at this
theorem Bj1{m:Mdl}{g D:Nat}(hm:okS g m)(hgd:gnD D m)(hg:0<g)(hD:0<D):∀k,∀x∈gns m k,fr (g^k*D) (9999*13^k) x
 |0,x,hx=>by
  obtain⟨s,_,rfl⟩:=av_.1 hx;split
  .rename_i h;rw[Nat.zero_testBit]at h;cases h
  .exact Ci1 (Aq9 (by simpa using hD)) (by decide)
 |k+1,x,hx=>by
  have hp:0<g^k*D:=bl_ (bz_ hg) hD;have h0:=Fv9 hm (Bo2 hgd hg k) (Ba3 hm k) (Bj1 hm hgd hg hD k) hg hp x hx;rw[<-Nat.mul_assoc,<-Nat.pow_succ']at h0;refine Ci1 h0 ?_;have:1<=13^k:=bz_ (by decide);rw[ci_];omega
theorem Fi1{g D:Nat}(hg:0<g)(h:g<=9999)(hD:0<D)(h9:D<=9999){k:Nat}(hk:k<=61):szg g (g^k*D) (9999*13^k):=by
 have h1:g*(g^k*D)<=10^(4*(k+2)):=by
  rw[<-Nat.mul_assoc,<-Nat.pow_succ',Nat.pow_mul,ci_ (n:=10^4) (m:=k+1)];exact a7_ (c3_ (by omega) _) (by omega)
 have h2:9999*13^k*12+9999<=10^(2*(k+4)):=by
  have h3:13^k<=(10^2)^k:=c3_ (by decide) _;have h4:1<=(10^2)^k:=bz_ (by decide);rw[Nat.pow_mul,bs_];have h5:((10:Nat)^2)^4=100000000:=by decide
  rw[h5];omega
 exact⟨⟨hg,bl_ (bz_ hg) hD,4*(k+2),2*(k+4),h1,by omega,by omega⟩,Aq8 (Aq9 (D:=1) (by decide)) (p:=1) (q:=1) (by decide) (by decide) (by decide),_,_,h1,h2,by omega⟩
theorem Ep7{m:Mdl}{g D:Nat}(hm:okS g m)(hgd:gnD D m)(hg:0<g)(h9:g<=9999)(hD:0<D)(hD9:D<=9999){k:Nat}(hk:k<=61):∀x∈gns m k,rs x:=fun x hx=>by
 obtain⟨_,_,p,q,hp,hq,hpq⟩:=Fi1 hg h9 hD hD9 hk;refine Aq8 (Bj1 hm hgd hg hD k x hx) (ah_ (br_ _ hg) hp) (by omega) hpq
theorem Bw8{m:Mdl}{g D B:Nat}{v:List Rat}(hm:okS g m)(hgd:gnD D m)(hn:v.length=m.ch.length)(hv:∀x∈v,fr D B x)(hs:szg g D B){i:Nat}(hil:i<m.ch.length):Ev fun f=>∃j,Ey3 f (m.own.getD i 0) (eL (m.ch.getD i [])) (v.map R)=some (R (stg m v i),j):=by
 have hio:i<m.own.length:=by rw[hm.len];exact hil
 have hcs:=hm.cs m.ch[i] (af_ hil);have hb:=Ec3 (own:=m.own[i]) hcs.2.1 hcs.1 (fun c hc=>⟨by rw[hn];exact hcs.2.2 c hc,hgd _ (af_ hil) c hc⟩) hv hs;refine hb.mono fun f h=> ?_
 unfold stg;rw[ak_,ak_,aa_ hil,aa_ hio];exact⟨_,h⟩
theorem Cq9{m:Mdl}{g D B:Nat}{v:List Rat}(hm:okS g m)(hgd:gnD D m)(hn:v.length=m.ch.length)(hv:∀x∈v,fr D B x)(hs:szg g D B){v11:Int}{z:A7}:
 ∀(r i:Nat),i+r=m.ch.length->Ev fun f=>∀(rec_:Int->List A7->Option (List (List UInt8)×Int)) k,r<k->Bf6 f (eM m) (v.map R) v11 rec_ k (i:Int) (fil (fun s=>R (stg m v s)) z m.ch.length i)=rec_ (i64.wrap (v11+1)) ((nxg m v).map R)
 |0,i,hi=>Ev.of fun f rec_ k hk=>by
  obtain⟨k,rfl⟩:∃j,k=j+1:=⟨k-1,by omega⟩
  obtain rfl:i=m.ch.length:=by omega
  unfold Bf6;rw[dF_ (by simp[eM]),Do1];simp[nxg,Function.comp_def]
 |r+1,i,hi=>by
  have hil:i<m.ch.length:=by omega
  have hio:i<m.own.length:=by rw[hm.len];exact hil
  have h12:=hm.le;refine((Bw8 hm hgd hn hv hs hil).and (Cq9 hm hgd hn hv hs (v11:=v11) (z:=z) r (i+1) (by omega))).mono fun f h rec_ k hk=> ?_
  obtain⟨⟨j,h1⟩,h3⟩:=h;obtain⟨k,rfl⟩:∃j,k=j+1:=⟨k-1,by omega⟩
  rw[ak_,ak_,aa_ hil,aa_ hio]at h1;unfold Bf6;rw[dT_ (by simp[eM];omega)];simp only[cond_true];refine sbe (D8 hil) (sbe (C3 hio) (sbe h1 (sbe (Ak7 hil) (sbe rfl ?_))));rw[tn];simp only;rw[show(fil (fun s=>R (stg m v s)) z m.ch.length i).set i (R (stg m v i))=fil (fun s=>R (stg m v s)) z m.ch.length (i+1) from Aq6 (f:=fun s=>R (stg m v s)) hil,wi i (by omega)];exact h3 rec_ k (by omega)
theorem Cq7{m:Mdl}{g D B:Nat}{v:List Rat}{n:Int}(hm:okS g m)(hgd:gnD D m)(hn:v.length=m.ch.length)(hv:∀x∈v,fr D B x)(hs:szg g D B){z:A7}:
 ∀(r i:Nat),i+r=m.ch.length->Ev fun f=>∀k,r<k->Bf5 f (eM m) n (v.map R) k (i:Int) (fil (fun s=>R (stg m v s)) z m.ch.length i)=Aj2 f (eM m) n f (i64.wrap (0+1)) ((nxg m v).map R)
 |0,i,hi=>Ev.of fun f k hk=>by
  obtain⟨k,rfl⟩:∃j,k=j+1:=⟨k-1,by omega⟩
  obtain rfl:i=m.ch.length:=by omega
  unfold Bf5;rw[dF_ (by simp[eM]),Do1];simp[nxg,Function.comp_def]
 |r+1,i,hi=>by
  have hil:i<m.ch.length:=by omega
  have hio:i<m.own.length:=by rw[hm.len];exact hil
  have h12:=hm.le;refine((Bw8 hm hgd hn hv hs hil).and (Cq7 (n:=n) hm hgd hn hv hs (z:=z) r (i+1) (by omega))).mono fun f h k hk=> ?_
  obtain⟨⟨j,h1⟩,h3⟩:=h;obtain⟨k,rfl⟩:∃j,k=j+1:=⟨k-1,by omega⟩
  rw[ak_,ak_,aa_ hil,aa_ hio]at h1;unfold Bf5;rw[dT_ (by simp[eM];omega)];simp only[cond_true];refine sbe (D8 hil) (sbe (C3 hio) (sbe h1 (sbe (Ak7 hil) (sbe rfl ?_))));rw[tn];simp only;rw[show(fil (fun s=>R (stg m v s)) z m.ch.length i).set i (R (stg m v i))=fil (fun s=>R (stg m v s)) z m.ch.length (i+1) from Aq6 (f:=fun s=>R (stg m v s)) hil,wi i (by omega)];exact h3 k (by omega)
theorem Cq8{m:Mdl}{g D n:Nat}(hm:okS g m)(hgd:gnD D m)(hg:0<g)(h9:g<=9999)(hD:0<D)(hD9:D<=9999)(hk:n<=60):
 ∀(r i:Nat),i+r=n->Ev fun f=>∀k,r<k->Aj2 f (eM m) (n:Int) k (i:Int) ((gns m i).map R)=some ((gns m n).map T,0)
 |0,i,hi=>by
  obtain rfl:i=n:=by omega
  refine(Cv2 (by rw[Ba3 hm];have:=hm.le;omega) (Ep7 hm hgd hg h9 hD hD9 (show i<=61 by omega))).mono fun f h k hk'=> ?_
  obtain⟨k,rfl⟩:∃j,k=j+1:=⟨k-1,by omega⟩
  unfold Aj2;rw[dF_ (by omega)];exact sbe h rfl
 |r+1,i,hi=>by
  have h12:=hm.le;have hlen:=Ba3 hm i;refine((Cq9 (v11:=(i:Int)) (z:=(⟨(⟨false,[]⟩:A5),(⟨false,[]⟩:A5)⟩:A7)) hm (Bo2 hgd hg i) hlen (Bj1 hm hgd hg hD i) (Fi1 hg h9 hD hD9 (show i<=61 by omega)) m.ch.length 0 (by omega)).and ((Cq8 hm hgd hg h9 hD hD9 hk r (i+1) (by omega)).and (Ev.ge 13))).mono fun f h k hk'=> ?_
  obtain⟨h1,h2,h3⟩:=h;obtain⟨k,rfl⟩:∃j,k=j+1:=⟨k-1,by omega⟩
  unfold Aj2;rw[dT_ (by omega)];simp only[cond_true,length_map,hlen];refine sbe (At9 (by omega) _) ?_;have:=h1 (Aj2 f (eM m) (n:Int) k) f (by omega);rw[Dn9]at this;refine this.trans ?_;rw[wi i (by omega)];exact h2 k (by omega)
theorem Ei8{r:Rat}(h:shB r=true)(_:0<=r){D:Nat}(hD:0<D)(hd:r.den∣D):fr D 9999 r:=by
 obtain⟨h1,_⟩:=(Ak8 (k:=4) (by decide)).1 h;refine Fc9 hD hd ?_;have:(10:Int)^4=10000:=by decide
 have:=r.den_pos;have:9999*1<=9999*r.den:=Nat.mul_le_mul_left _ r.den_pos;omega
theorem Cj1{m:Mdl}(h:okM m):gnD (gG m) m:=fun l hl c hc=>by
 obtain⟨a,b,d⟩:=Cs3 h;have hm:=bg_.2 ⟨l,hl,hc⟩;exact Ei8 (h.ga c hm).1 (h.ga c hm).2 a (d c hm)
theorem Ee9{m:Mdl}(h:okM m){n:Nat}(hn:n<=60):Ev fun f=>F14 f (eM m) (n:Int)=some ((gns m n).map T,0):=by
 have h12:=h.n12;have hS:=Ds9 h;have hle:=hS.le;obtain⟨a,b,_⟩:=At2 h;obtain⟨a',b',_⟩:=Cs3 h;have hgd:=Cj1 h;have hlen:=Ba3 hS 0;have e0:=(Ca8 h (tg:=0) (n:=(n:Int)) (by decide)).and ((Ec2 (m:=m) (tg:=0) h12 (by decide)).and (Ev.ge 100));have hpow:0<2^m.own.length:=bz_ (by decide);cases n with
 |zero=>
  refine(e0.and (Cv2 (l:=gns m 0) (by omega) (Ep7 hS hgd a b a' b' (by omega)))).mono fun f hf=> ?_
  obtain⟨⟨h1,h2,_⟩,h3⟩:=hf;rw[if_pos ⟨hpow,by omega,by omega⟩]at h1;unfold F14;refine sbe h1 ?_;simp only[show((0:Int) !=0)=false from rfl,cond_false];refine sbe h2 ?_;rw[dF_ (by omega)];exact sbe h3 rfl
 |succ n=>
  refine(e0.and ((Cq7 (n:=((n+1:Nat):Int)) (z:=(⟨(⟨false,[]⟩:A5),(⟨false,[]⟩:A5)⟩:A7)) hS (Bo2 hgd a 0) hlen (Bj1 hS hgd a a' 0) (Fi1 a b a' b' (show 0<=61 by omega)) m.ch.length 0 (by omega)).and (Cq8 hS hgd a b a' b' hn n 1 (by omega)))).mono fun f hf=> ?_
  obtain⟨⟨h1,h2,h0⟩,h3,h4⟩:=hf;rw[if_pos ⟨hpow,by omega,by omega⟩]at h1;unfold F14;refine sbe h1 ?_;simp only[show((0:Int) !=0)=false from rfl,cond_false];refine sbe h2 ?_;rw[dT_ (by omega)];simp only[cond_true,length_map,show(bgn m 0).length=m.ch.length from hlen];refine sbe (At9 (by omega) _) ?_;have:=h3 f (by omega);rw[Dn9]at this;refine this.trans ?_;exact h4 f (by omega)
end
section
section
variable {m:Mdl} {g D B:Nat} {us:List Int}
theorem Fy3(h:szI g D B):lt ((g*D:Nat):Int)<=1000:=by
 obtain⟨_,g9,_,p,q,hp,hq,hpq⟩:=h;have h2:g*D<=10^4*10^p:=a7_ (ah_ g9 (by decide)) hp;rw[<-bs_]at h2;exact Da1 (Nat.le_of_eq (a6_ _)) h2 (by omega)
theorem Fy2{a:Int}(h:szI g D B)(ha:fr (g*D) 9999 (ov (g*D) a)):lt a<=1000:=by
 obtain⟨_,g9,_,p,q,hp,hq,hpq⟩:=h;have h2:9999*(g*D)<=10^4*(10^4*10^p):=a7_ (by decide) (a7_ (ah_ g9 (by decide)) hp);rw[<-bs_,<-bs_]at h2;exact Da1 (Eg9 ha) h2 (by omega)
def gst(f:Nat)(V:List (List UInt8))(G E:List UInt8)(c:Cho)(n:Int):Prop:=∃a b:Int,F74 f (T c.gain) E=some (tx a)/\F75 f (eC c) V G=some (tx b)/\F73 f (tx a) (tx b)=some (tx n)
theorem gmI{c:Cho}(hc:okN g us.length c)(hgc:fr D 9999 c.gain)(hv:∀x∈ovL D us,fr D B x)(hs:szI g D B):∃n,(gm (ovL D us) c=ov (g*D) n/\lt n<=10000)/\Ev fun f=>gst f (us.map tx) (tx (g:Int)) (tx ((g*D:Nat):Int)) c n:=by
 have hgD:0<g*D:=bl_ hs.1 hs.2.2.1;have h2:fr (g*D) 9999 c.gain:=by have:=Ba1 hgc hs.1;rwa [Nat.mul_comm]at this
 obtain⟨a,ea⟩:=Fu2 h2;obtain⟨b,eb,hb⟩:=Fe5 hc hv hs;have hmf:=Dr4 hc (v:=ovL D us) (by simp) hv hs.1 hs.2.2.1;rw[eb]at hmf;have lb:=Dw7 hs (i:=12) (ad_ _) hmf;have la:lt a<=1000:=Fy2 hs (by rw[<-ea];exact h2);have lab:=Eq2 a b;have hgr:rs c.gain:=by
  obtain⟨_,g9,_,p,q,hp,hq,hpq⟩:=hs;exact Aq8 hgc (p:=p) (q:=4) hp (by decide) (by omega)
 refine⟨a+b,⟨?_,by omega⟩,((Dx3 h2 ea hgr (by have:=Fy3 hs;omega)).and (hb.and (Ev.ge 2000000011))).mono fun f hh=> ?_⟩
 .unfold gm;rw[eb,ea,Cs7 hgD]
 .exact⟨a,b,hh.1,hh.2.1,Fr7 (by omega) (by omega) (by have:=hh.2.2;omega)⟩
theorem gx3{f:Nat}{row:List Cho}{Ns:List Int}{V:List (List UInt8)}{G E:List UInt8}{s:Nat}{O:List (List UInt8)}{cL:Int->List (List UInt8)->Option (List (List UInt8)×Int)}(hN:Ns.length=row.length)(hr:row.length<=1000)
 (hq:∀(i:Nat) (h:i<row.length) (h2:i<Ns.length),gst f V G E row[i] Ns[i]) (hg:C2 (eM m).Choices (s:Int)=some (eL row)):
 ∀(r i k:Nat),i+r=row.length->r<k->Bg3 f (eM m) V O (s:Int) G E cL k (i:Int) ((Ns.take i).map tx)=(C2 (eM m).Owner (s:Int)).bind fun y89=>Option.bind (F76 f y89 (Ns.map tx)) fun y90=>Option.bind (app O [y90.1]) fun l63=>cL (i64.wrap ((s:Int)+1)) l63
 |0,i,k,hi,hk=>by
  obtain⟨k,rfl⟩:∃j,k=j+1:=⟨k-1,by omega⟩
  unfold Bg3;rw[hg,sb,dF_ (by unfold eL;rw[length_map,length_map];omega),ap_ (by omega)];rfl
 |r+1,i,k,hi,hk=>by
  obtain⟨k,rfl⟩:∃j,k=j+1:=⟨k-1,by omega⟩
  have hil:i<row.length:=by omega
  have hin:i<Ns.length:=by omega
  obtain⟨a,b,q1,q2,q3⟩:=hq i hil hin;unfold Bg3;rw[hg,sb,dT_ (by unfold eL;rw[length_map,length_map];omega)];simp only[cond_true];rw[sb,show C2 (eL row) (i:Int)=some (eC row[i]) from D8 hil,sb,show(eC row[i]).Gain=T row[i].gain from rfl,q1,sb,q2,sb,q3,sb,Q4 (by simp;omega),sb,wi i (by omega)];have:=gx3 (V:=V) (G:=G) (E:=E) (O:=O) (cL:=cL) hN hr hq hg r (i+1) k (by omega) (by omega)
  rwa [take_add_one,aa_ hin,Option.toList_some,List.map_append]at this
theorem Gj6(hm:okS g m)(h4:∀l∈m.ch,l.length<=4)(hgd:gnD D m)(hl:us.length=m.ch.length)(hv:∀x∈ovL D us,fr D B x)(hs:szI g D B){s:Nat}(his:s<m.own.length):
 ∃a:Int,stg m (ovL D us) s=ov (g*D) a/\Ev fun f=>∀(k:Nat) (v:Int) (cL:List UInt8->List (List UInt8)->Int->Option (List (List UInt8)×Int)) (O:List (List UInt8)),O.length<=1000->
  Af6 f (eM m) (us.map tx) v (tx (g:Int)) (tx ((g*D:Nat):Int)) cL (k+1) (s:Int) O=Af6 f (eM m) (us.map tx) v (tx (g:Int)) (tx ((g*D:Nat):Int)) cL k ((s+1:Nat):Int) (O++[tx a]):=by
 have hlen:=hm.len;have hle:=hm.le;have hgD:0<g*D:=bl_ hs.1 hs.2.2.1;have hsc:s<m.ch.length:=by omega
 have eg:m.ch.getD s []=m.ch[s]:=by rw[ak_,aa_ hsc];rfl
 obtain⟨hne,_,hcs⟩:=hm.cs _ (af_ hsc);have hrl:=h4 _ (af_ hsc);obtain⟨Ns,hN,hN1,hN2⟩:=Dq9 (p:=fun c n=>gm (ovL D us) c=ov (g*D) n/\lt n<=10000) (q:=fun c n f=>gst f (us.map tx) (tx (g:Int)) (tx ((g*D:Nat):Int)) c n) m.ch[s] fun c hc=>gmI (by rw[hl];exact hcs c hc) (hgd _ (af_ hsc) c hc) hv hs
 have hov:ovL (g*D) Ns=m.ch[s].map (gm (ovL D us)):=ext_getElem (by simp[hN]) fun i h1 h2=>by
  rw[List.getElem_map,List.getElem_map];exact(hN1 i (by simpa using h2) (by simpa using h1)).1.symm
 have hne':Ns≠[]:=fun e=>hne (b7_.1 (by rw[<-hN,e];rfl))
 have hbN:∀u∈Ns,lt u<=10000:=fun u hu=>by
  obtain⟨i,hi,rfl⟩:=List.getElem_of_mem hu;exact(hN1 i (by omega) hi).2
 obtain⟨k0,hk0,e1,e2⟩:=Eh1 (own:=m.own.getD s 0) hgD (us:=Ns) (by omega) hne' hbN;refine⟨Ns[k0],?_,((hN2.and e2).and (Ev.ge 20)).mono fun f hh k v cL O hO=> ?_⟩
 .unfold stg;rw[eg,<-hov,e1]
 .obtain⟨⟨q1,q2⟩,q3⟩:=hh
  conv=>lhs;unfold Af6
  rw[show(eM m).Owner=m.own from rfl,dT_ (by rw[length_map];omega)];simp only[cond_true];have hgc:C2 (eM m).Choices (s:Int)=some (eL m.ch[s]):=by rw[show(eM m).Choices=m.ch.map eL from rfl];exact D8 hsc
  have h3:=gx3 (O:=O) (cL:=Af6 f (eM m) (us.map tx) v (tx (g:Int)) (tx ((g*D:Nat):Int)) cL k) hN (by omega) q1 hgc m.ch[s].length 0 f (by omega) (by omega);rw[take_zero,map_nil,show((0:Nat):Int)=0 from rfl]at h3;rw[h3,show C2 (eM m).Owner (s:Int)=some (m.own.getD s 0) by
   rw[show(eM m).Owner=m.own from rfl,C3 his,ak_,aa_ his];rfl,sb,q2,sb,Q4 (by simp;omega),sb,wi s (by omega)]
theorem Fu8(hm:okS g m)(h4:∀l∈m.ch,l.length<=4)(hgd:gnD D m)(hl:us.length=m.ch.length)(hv:∀x∈ovL D us,fr D B x)(hs:szI g D B):
 ∀(r s:Nat) (o:List Int),s+r=m.own.length->o.length=s->ovL (g*D) o=(List.range s).map (stg m (ovL D us))->∃o':List Int,o'.length=m.own.length/\ovL (g*D) o'=nxg m (ovL D us)/\Ev fun f=>∀(k:Nat) (v:Int) (cL:List UInt8->List (List UInt8)->Int->Option (List (List UInt8)×Int)),r<k->
  Af6 f (eM m) (us.map tx) v (tx (g:Int)) (tx ((g*D:Nat):Int)) cL k (s:Int) (o.map tx)=cL (tx ((g*D:Nat):Int)) (o'.map tx) (i64.wrap (v+1))
 |0,s,o,hsr,ho,he=>by
  have hlen:=hm.len;refine⟨o,by omega,?_,Ev.of fun f k v cL hk=> ?_⟩
  .rw[he];unfold nxg;rw[show s=m.ch.length by omega]
  .obtain⟨k,rfl⟩:∃j,k=j+1:=⟨k-1,by omega⟩
   unfold Af6;rw[show(eM m).Owner=m.own from rfl,dF_ (by rw[length_map];omega)];rfl
 |r+1,s,o,hsr,ho,he=>by
  have hlen:=hm.len;have hle:=hm.le;obtain⟨a,e1,e2⟩:=Gj6 hm h4 hgd hl hv hs (s:=s) (by omega);obtain⟨o',h1,h2,h3⟩:=Fu8 hm h4 hgd hl hv hs r (s+1) (o++[a]) (by omega) (by simp[ho]) (by
   rw[List.range_succ,List.map_append,<-he];simp[e1])
  refine⟨o',h1,h2,(e2.and h3).mono fun f hh k v cL hk=> ?_⟩;obtain⟨k,rfl⟩:∃j,k=j+1:=⟨k-1,by omega⟩
  rw[hh.1 k v cL _ (by simp;omega)];have:=hh.2 k v cL (by omega);rw[List.map_append]at this;exact this
end
section
variable {m:Mdl}
theorem Fy1{g D:Nat}(hg:0<g)(h:g<=9999)(hD:0<D)(h9:D<=9999){k:Nat}(hk:k<=60):szI g (g^k*D) (9999*13^k):=by
 refine⟨hg,h,bl_ (bz_ hg) hD,4*k+4,4+2*k,?_,?_,by omega⟩
 .rw[bs_,Nat.pow_mul];exact a7_ (c3_ (ah_ h (by decide)) k) (ah_ h9 (by decide))
 .rw[bs_,Nat.pow_mul];exact a7_ (by decide) (c3_ (by decide) k)
theorem Gq4(h:okM m){n:Nat}(hn:n<=60):∀(r i:Nat) (us:List Int),i+r=n->us.length=m.own.length->ovL (gP m^i*gG m) us=gns m i->∃us':List Int,us'.length=m.own.length/\ovL (gP m^n*gG m) us'=gns m n/\Ev fun f=>∀k,r<k->
 Aj5 f (eM m) (n:Int) (tx (gP m:Int)) k (tx ((gP m^i*gG m:Nat):Int)) (us.map tx) (i:Int)=(F68 f (us'.map tx) (tx ((gP m^n*gG m:Nat):Int))).bind fun y12=>some (y12,0)
 |0,i,us,hi,hl,he=>by
  obtain rfl:i=n:=by omega
  refine⟨us,hl,he,Ev.of fun f k hk=> ?_⟩;obtain⟨k,rfl⟩:∃j,k=j+1:=⟨k-1,by omega⟩
  unfold Aj5;rw[dF_ (by omega)];rfl
 |r+1,i,us,hi,hl,he=>by
  obtain⟨g0,g9,_⟩:=At2 h;obtain⟨d0,d9,_⟩:=Cs3 h;have hs:=Fy1 g0 g9 d0 d9 (k:=i) (by omega);have hgd:=Cj1 h;have hv:∀x∈ovL (gP m^i*gG m) us,fr (gP m^i*gG m) (9999*13^i) x:=fun x hx=>by rw[he]at hx;exact Bj1 (Ds9 h) hgd g0 d0 i x hx
  have hlc:us.length=m.ch.length:=by rw[hl,h.len]
  obtain⟨o',o1,o2,o3⟩:=Fu8 (Ds9 h) (Gw8 h) (Bo2 hgd g0 i) hlc hv hs m.own.length 0 [] (by omega) rfl rfl;have eg:gP m*(gP m^i*gG m)=gP m^(i+1)*gG m:=by rw[<-Nat.mul_assoc,ci_,Nat.mul_comm (gP m)]
  rw[eg,he]at o2;obtain⟨us',u1,u2,u3⟩:=Gq4 h hn r (i+1) o' (by omega) o1 (by rw[o2];rfl);have hlg:lt ((gP m:Nat):Int)<=5:=lt9 (by rw[a6_];exact g9);have hlD:lt ((gP m^i*gG m:Nat):Int)<=1000:=Dw9 hs;have h12:=h.n12;refine⟨us',u1,u2,(o3.and (u3.and (Ev.ge 2000000011))).mono fun f hh k hk=> ?_⟩;obtain⟨f1,f2,f3⟩:=hh;obtain⟨k,rfl⟩:∃j,k=j+1:=⟨k-1,by omega⟩
  unfold Aj5;rw[dT_ (by omega)];simp only[cond_true];have em:((gP m^i*gG m:Nat):Int)*((gP m:Nat):Int)=((gP m*(gP m^i*gG m):Nat):Int):=by rw[Nat.mul_comm (gP m)];push_cast;rfl
  refine sbe (Eg3 (by omega) (by omega) (by omega)) ?_;rw[em];have:=f1 f (i:Int) (Aj5 f (eM m) (n:Int) (tx (gP m:Int)) k) (by omega);rw[map_nil,show((0:Nat):Int)=0 from rfl]at this;refine this.trans ?_;rw[wi i (by omega),eg];exact f2 k (by omega)
theorem Fd3(h:okM m){n:Nat}(hn:n<=60):Ev fun f=>F28 f (eM m) (n:Int)=some ((gns m n).map T,0):=by
 have h12:=h.n12;obtain⟨g0,g9,_⟩:=At2 h;obtain⟨d0,d9,_⟩:=Cs3 h;have hs:=Fy1 g0 g9 d0 d9 (k:=n) hn;have hb0:ovL (gP m^0*gG m) ((List.range m.own.length).map (Ba2 0))=gns m 0:=by
  show _=bgn m 0;unfold ovL bgn;rw[List.map_map];refine b8_ fun s _=> ?_
  show ov _ (Ba2 0 s)=_;unfold Ba2;rw[Nat.zero_testBit];exact Gk3 _
 obtain⟨us',u1,u2,u3⟩:=Gq4 h hn n 0 ((List.range m.own.length).map (Ba2 0)) (by omega) (by simp) hb0;have hb:∀u∈us',lt u<=10000:=fun u hu=>by
  have hm:ov (gP m^n*gG m) u∈ovL (gP m^n*gG m) us':=bb_ hu;rw[u2]at hm;have:=Dw8 hs (Bj1 (Ds9 h) (Cj1 h) g0 d0 n _ hm);omega
 have hlD:lt ((gP m^n*gG m:Nat):Int)<=1000:=Dw9 hs;have hE:=Cp8 h (tg:=0) (n:=(n:Int)) (by decide);rw[if_pos ⟨bz_ (by decide),by omega,by omega⟩]at hE;refine((hE.and (Bx2 (Gk1 h))).and (u3.and (Ev.ge (2000000011+gP m^n*gG m)))).mono fun f hh=> ?_
 obtain⟨⟨f0,f1⟩,f2,f3⟩:=hh;have e1:((((Z8 1 (Cc3 m)).getD 0:Nat)):Int)=(gP m:Int):=rfl;have e2:((((Z8 1 (Bx1 m)).getD 0:Nat)):Int)=(gG m:Int):=rfl;have hfi:=Fc8 (m:=m) (tg:=0) h12 (by decide) (f:=f) (by omega);rw[show((0:Nat):Int)=0 from rfl]at hfi;unfold F28;refine sbe f0 ?_;simp only[show((0:Int) !=0)=false from rfl,cond_false];refine sbe f1 (sbe (Ag4 (by omega) (by omega)) (sbe (Ag4 (by omega) (by omega)) (sbe hfi ?_)));have:=f2 f (by omega);rw[Nat.pow_zero,bj_,show((0:Nat):Int)=0 from rfl]at this;refine this.trans ?_;rw[Fw3 (bl_ (bz_ g0) d0) (by omega) hb (by omega) (by omega),sb,u2]
end
theorem Cz4{y:A9}(hz:szZ y)(n:Int):∃l e,l.length<=12/\(Ev fun f=>F14 f y n=some (l,e))/\Ev fun f=>F28 f y n=some (l,e):=by
 rcases Ct8 hz with⟨⟨m,hM,rfl⟩,_⟩|⟨hno,hR⟩
 .have h12:=hM.n12;have hlen:=hM.len;have hp:0<2^m.own.length:=bz_ (by decide);by_cases hc:0<=n/\n<=60
  .obtain⟨k,rfl⟩:∃k:Nat,n=(k:Int):=⟨n.toNat,by omega⟩
   refine⟨_,0,?_,Ee9 hM (by omega),Fd3 hM (by omega)⟩;rw[length_map,Ba3 (Ds9 hM)];omega
  .have hE:=Cp8 hM (tg:=0) (n:=n) (by decide);have hC:=Ca8 hM (tg:=0) (n:=n) (by decide);rw[if_neg (by rintro ⟨_,h⟩;exact hc h)]at hE hC;refine⟨[],2,by simp,hC.mono fun f hf=> ?_,hE.mono fun f hf=> ?_⟩
   .unfold F14;exact sbe hf rfl
   .unfold F28;exact sbe hf rfl
 .have hC:Ev fun f=>F93 f y=some 110:=by
   rcases Fe2 (Gl5 hz) with h|⟨_,h⟩
   .exact absurd h hno
   .exact h
  refine⟨[],110,by simp,hC.mono fun f hf=> ?_,hR.mono fun f hf=> ?_⟩
  .unfold F14 F43;exact sbe (sbe hf rfl) rfl
  .unfold F28 F23;exact sbe (sbe hf rfl) rfl
theorem Fu7{y:A9}(hz:szZ y){d2:Int}{v:Nat}(hv:v<=100):
 ∀(r i:Nat),i+r=2->Ev fun f=>∀(k:Nat) (cL:Int->Option Bool),r<k->Bs4 f d2 (v:Int) y cL k (i:Int)=cL ((v+1:Nat):Int)
 |0,i,hi=>Ev.of fun f k cL hk=>by
  obtain⟨k,rfl⟩:∃j,k=j+1:=⟨k-1,by omega⟩
  unfold Bs4;rw[dF_ (by omega),wi v (by omega)];rfl
 |r+1,i,hi=>by
  obtain⟨n,hg⟩:∃n:Int,C2 [d2,Int.tmod d2 7] (i:Int)=some n:=by
   rcases(show i=0\/i=1 by omega) with rfl|rfl
   .exact⟨_,rfl⟩
   .exact⟨_,rfl⟩
  obtain⟨l,e,hl,sP,sR⟩:=Cz4 hz n;refine((sP.and sR).and ((Ev.ge 2000).and (Fu7 hz (d2:=d2) hv r (i+1) (by omega)))).mono fun f hh k cL hk=> ?_
  obtain⟨⟨s1,s2⟩,s5,s6⟩:=hh;obtain⟨k,rfl⟩:∃j,k=j+1:=⟨k-1,by omega⟩
  unfold Bs4;rw[dT_ (by omega)];simp only[cond_true];refine sbe hg (sbe s1 (sbe s2 (sbe (x:=false) ?_ ?_)))
  .simp only[bne_self_eq_false,cond_false];exact sbe (Fh4 (by omega) (by omega)) rfl
  .simp only[cond_false];rw[wi i (by omega)];exact s6 k cL (by omega)
theorem Cz8{d:B4}{b:C6}{n:Int}(hd:Ai4 d)(hS:u8 b.State)(hA:u8 b.At)(hQ:b.Q.length<=9000000)(hS2:b.S.length<=9000000):∃fuel,F6 fuel d b n=some true:=by
 obtain⟨m,hD,hE⟩:=Ed3 hd;obtain⟨y,hy,hE3⟩:=Fa7 hD.ok hS hA hQ hS2;have hL:∀(q:A9) (v:Nat),v<=100->szZ q->Ev fun f=>∀(k':Nat) (cL:Int->Option Bool),2<k'->Bs4 f n (v:Int) q cL k' ((0:Nat):Int)=cL ((v+1:Nat):Int):=fun q v hv hq=>Fu7 hq hv 2 0 rfl
 obtain⟨f,hf⟩:=(((hE.and hE3).and ((hL (eM m) 0 (by omega) (Cj2 hD.ok)).and (hL y 1 (by omega) hy))).and (Ev.ge 2000)).ex;obtain⟨⟨⟨f1,f3⟩,g1,g3⟩,f6⟩:=hf;refine⟨f,?_⟩;have hw:=Fi9 (f-200);rw[show f-200+200=f by omega]at hw;obtain⟨q,rfl⟩:∃q,f=q+3:=⟨f-3,by omega⟩
 unfold F6;refine sbe f1 (sbe f3 ?_);have step:∀(v:Nat) (z:A9) (k':Nat),v<2->C2 [eM m,y] (v:Int)=some z->Bs3 (q+3) n (eM m) y (k'+1) (v:Int)=Bs4 (q+3) n (v:Int) z (Bs3 (q+3) n (eM m) y k') (q+3) ((0:Nat):Int):=fun v z k' hv hg=>by
  conv=>lhs;unfold Bs3
  rw[dT_ (by omega)];simp only[cond_true];rw[hg,sb];rfl
 rw[show(0:Int)=((0:Nat):Int) from rfl,step 0 (eM m) (q+2) (by omega) rfl,g1 _ _ (by omega),step 1 y (q+1) (by omega) rfl,g3 _ _ (by omega)];unfold Bs3;rw[dF_ (by omega)];simp only[cond_false];rw[hw,sb]
end
end Go.Proofs.YtfgbhfphjmmiaaaGreatDoor
end
section
namespace Go.Proofs.YtfgbhfphjmmiaaaGreatDoor.stepsGains
open Go.ChangeShapes Go.WideShapes Go.ChangeAt Go.RowKit Kx
open Go.ChangeMaps (open_string shut_string)
set_option linter.unusedVariables false
set_option maxRecDepth 100000
section
def Ak2(x:A9):List Dat:=[.sl 1 (x.Owner.map A3),.sl 1 (x.Choices.map A0)]
def wf5(x:Int):Prop:=(Lit.int .u8 x).wf=true
theorem Cg0{n:Nat}{ds:List Dat}(h:Fit prog (n+1) 5 ds):∃x:Int,ds=[.int .u8 x]/\wf5 x:=by
 exact Dh2 underlying5 h
def Fz1(x:Dc5):Prop:=wf5 x.a0/\wf5 x.a1/\wf5 x.a2
theorem Fs9{n:Nat}{ds:List Dat}(h:Fit prog (n+2) 115 ds):∃x:Dc5,ds=[.int .u8 x.a0,.int .u8 x.a1,.int .u8 x.a2]/\Fz1 x:=by
 have h0:=Bs8 underlying115 h;obtain⟨_,r0,rfl,g0,h1⟩:=h0;obtain⟨x0,rfl,w0⟩:=Cg0 (n:=n+0) g0;obtain⟨_,r1,rfl,g1,h2⟩:=h1;obtain⟨x1,rfl,w1⟩:=Cg0 (n:=n+0) g1;obtain⟨_,r2,rfl,g2,h3⟩:=h2;obtain⟨x2,rfl,w2⟩:=Cg0 (n:=n+0) g2;cases (show r2=[] from h3);exact⟨⟨x0,x1,x2⟩,rfl,⟨w0,w1,w2⟩⟩
def Fz2(x:Dc4):Prop:=wf5 x.a0/\wf5 x.a1
theorem Ft0{n:Nat}{ds:List Dat}(h:Fit prog (n+2) 116 ds):∃x:Dc4,ds=[.int .u8 x.a0,.int .u8 x.a1]/\Fz2 x:=by
 have h0:=Bs8 underlying116 h;obtain⟨_,r0,rfl,g0,h1⟩:=h0;obtain⟨x0,rfl,w0⟩:=Cg0 (n:=n+0) g0;obtain⟨_,r1,rfl,g1,h2⟩:=h1;obtain⟨x1,rfl,w1⟩:=Cg0 (n:=n+0) g1;cases (show r1=[] from h2);exact⟨⟨x0,x1⟩,rfl,⟨w0,w1⟩⟩
def Fi8(x:C8):Prop:=wf5 x.State/\wf5 x.Act/\wf5 x.Gain/\Fz1 x.To/\Fz2 x.Part
theorem Ft1{n:Nat}{ds:List Dat}(h:Fit prog (n+3) 118 ds):∃x:C8,ds=[.int .u8 x.State,.int .u8 x.Act,.int .u8 x.Gain,.int .u8 x.To.a0,.int .u8 x.To.a1,.int .u8 x.To.a2,.int .u8 x.Part.a0,.int .u8 x.Part.a1]/\Fi8 x:=by
 have h0:=Ap7 underlying118 h;obtain⟨_,r0,rfl,g0,h1⟩:=h0;obtain⟨x0,rfl,w0⟩:=Cg0 (n:=n+1) g0;obtain⟨_,r1,rfl,g1,h2⟩:=h1;obtain⟨x1,rfl,w1⟩:=Cg0 (n:=n+1) g1;obtain⟨_,r2,rfl,g2,h3⟩:=h2;obtain⟨x2,rfl,w2⟩:=Cg0 (n:=n+1) g2;obtain⟨_,r3,rfl,g3,h4⟩:=h3;obtain⟨x3,rfl,w3⟩:=Fs9 (n:=n+0) g3;obtain⟨_,r4,rfl,g4,h5⟩:=h4;obtain⟨x4,rfl,w4⟩:=Ft0 (n:=n+0) g4;cases (show r4=[] from h5);exact⟨⟨x0,x1,x2,x3,x4⟩,rfl,⟨w0,w1,w2,w3,w4⟩⟩
def Gr2(x:List C8):Prop:=x.length<=maxLen/\∀y∈x,Fi8 y
theorem Gi1{n:Nat}{ds:List Dat}(h:Fit prog (n+4) 51 ds):∃x:List C8,ds=[.sl 8 (x.map B6)]/\Gr2 x:=by
 obtain⟨es,rfl,hl,he⟩:=Dh3 underlying51 (sz:=8) (by kernel_rfl) h;obtain⟨l,rfl,hq⟩:=Cn0 (en:=B6) (Q:=Fi8) (fun x hx=>Ft1 hx) es he;exact⟨l,rfl,by simpa using hl,hq⟩
def Gl7(x:B4):Prop:=wf5 x.States/\wf5 x.Owners/\wf5 x.Grain/\wf5 x.Cents/\Gr2 x.Picks
theorem Gi2{n:Nat}{ds:List Dat}(h:Fit prog (n+5) 53 ds):∃x:B4,ds=[.int .u8 x.States,.int .u8 x.Owners,.int .u8 x.Grain,.int .u8 x.Cents,.sl 8 (x.Picks.map B6)]/\Gl7 x:=by
 have h0:=Ap7 underlying53 h;obtain⟨_,r0,rfl,g0,h1⟩:=h0;obtain⟨x0,rfl,w0⟩:=Cg0 (n:=n+3) g0;obtain⟨_,r1,rfl,g1,h2⟩:=h1;obtain⟨x1,rfl,w1⟩:=Cg0 (n:=n+3) g1;obtain⟨_,r2,rfl,g2,h3⟩:=h2;obtain⟨x2,rfl,w2⟩:=Cg0 (n:=n+3) g2;obtain⟨_,r3,rfl,g3,h4⟩:=h3;obtain⟨x3,rfl,w3⟩:=Cg0 (n:=n+3) g3;obtain⟨_,r4,rfl,g4,h5⟩:=h4;obtain⟨x4,rfl,w4⟩:=Gi1 (n:=n+0) g4;cases (show r4=[] from h5);exact⟨⟨x0,x1,x2,x3,x4⟩,rfl,⟨w0,w1,w2,w3,w4⟩⟩
def wf3(x:Int):Prop:=(Lit.int .i64 x).wf=true
theorem Gp6{n:Nat}{ds:List Dat}(h:Fit prog (n+1) 3 ds):∃x:Int,ds=[.int .i64 x]/\wf3 x:=by
 exact Dh2 underlying3 h
def Gr1(x:List UInt8):Prop:=x.length<=maxLen
theorem Gi0{n:Nat}{ds:List Dat}(h:Fit prog (n+1) 23 ds):∃x:List UInt8,ds=[.str x]/\Gr1 x:=by
 exact Dh4 underlying23 h
def wf9(x:List UInt8):Prop:=x.length<=maxLen
theorem Gv3{n:Nat}{ds:List Dat}(h:Fit prog (n+1) 9 ds):∃x:List UInt8,ds=[.str x]/\wf9 x:=by
 exact Dh4 underlying9 h
def Gr3(x:C6):Prop:=wf5 x.What/\wf5 x.State/\wf5 x.At/\wf3 x.N/\Gr1 x.Q/\wf9 x.S
theorem Gi3{n:Nat}{ds:List Dat}(h:Fit prog (n+2) 55 ds):∃x:C6,ds=[.int .u8 x.What,.int .u8 x.State,.int .u8 x.At,.int .i64 x.N,.str x.Q,.str x.S]/\Gr3 x:=by
 have h0:=Ap7 underlying55 h;obtain⟨_,r0,rfl,g0,h1⟩:=h0;obtain⟨x0,rfl,w0⟩:=Cg0 (n:=n+0) g0;obtain⟨_,r1,rfl,g1,h2⟩:=h1;obtain⟨x1,rfl,w1⟩:=Cg0 (n:=n+0) g1;obtain⟨_,r2,rfl,g2,h3⟩:=h2;obtain⟨x2,rfl,w2⟩:=Cg0 (n:=n+0) g2;obtain⟨_,r3,rfl,g3,h4⟩:=h3;obtain⟨x3,rfl,w3⟩:=Gp6 (n:=n+0) g3;obtain⟨_,r4,rfl,g4,h5⟩:=h4;obtain⟨x4,rfl,w4⟩:=Gi0 (n:=n+0) g4;obtain⟨_,r5,rfl,g5,h6⟩:=h5;obtain⟨x5,rfl,w5⟩:=Gv3 (n:=n+0) g5;cases (show r5=[] from h6);exact⟨⟨x0,x1,x2,x3,x4,x5⟩,rfl,⟨w0,w1,w2,w3,w4,w5⟩⟩
theorem Fw0{d:B4}(h:Gl7 d):Ai4 d:=
 ⟨Co0 h.1,Co0 h.2.1,Co0 h.2.2.1,Co0 h.2.2.2.1,fun p hp=>by
  obtain⟨h1,h2,h3,⟨h4,h5,h6⟩,h7,h8⟩:=h.2.2.2.2.2 p hp;exact⟨Co0 h1,Co0 h2,Co0 h3,Co0 h4,Co0 h5,Co0 h6,Co0 h7,Co0 h8⟩⟩
theorem law(x0:B4)(x1:C6)(x2:Int)(h0:Gl7 x0)(h1:Gr3 x1)(h2:wf3 x2)(q1:x1.Q.length<=1048576)(s1:x1.S.length<=1048576):∃fuel,F6 fuel x0 x1 x2=some true:=
 Cz8 (Fw0 h0) (Co0 h1.2.1) (Co0 h1.2.2.1) (by omega) (by omega)
theorem own:ownKnob prog.godebug=none:=by kernel_rfl
theorem Ci9:laidOutB prog=true:=by kernel_rfl
theorem Gw1{W:World}(h0:laidMetH prog Rows.stepsGainsRow.laid W)(hs:W.ShapedOpen prog):GlA (K5 W) W:=by
 have h:laidMet prog Rows.stepsGainsRow.laid W:=by
  rw[MakeChecks.laidMetH_plain _ _ _ (by kernel_rfl)]at h0;exact h0
 have all:∀n cs,gl n=some cs->(∃us,V7 (K5 W) n 0 us/\C9 (K5 W) cs us)/\∃c e z,W.heap[n]? =some (.cells c e z)/\c.size=cs.length:=fun n cs e=>by
  refine Cr1 (Q:=fun n cs=>(∃us,V7 (K5 W) n 0 us/\C9 (K5 W) cs us)/\∃c e z,W.heap[n]? =some (.cells c e z)/\c.size=cs.length) ?_ e;show _/\_/\_/\_/\_/\True;exact⟨Do9 h 0 (g:=4) (t:=338) (e:=5) rfl (by kernel_rfl) (by kernel_rfl) underlying338 (by kernel_rfl) (by kernel_rfl) (by kernel_rfl) (by kernel_rfl),
   Do9 h 1 (g:=5) (t:=339) (e:=5) rfl (by kernel_rfl) (by kernel_rfl) underlying339 (by kernel_rfl) (by kernel_rfl) (by kernel_rfl) (by kernel_rfl),
   Do9 h 2 (g:=3) (t:=310) (e:=39) rfl (by kernel_rfl) (by kernel_rfl) underlying310 (by kernel_rfl) (by kernel_rfl) (by kernel_rfl) (by kernel_rfl),
   Ep6 h 4 (g:=1) (t:=203) rfl (by kernel_rfl) (by kernel_rfl) (by kernel_rfl) rfl,
   Ep6 h 3 (g:=2) (t:=203) rfl (by kernel_rfl) (by kernel_rfl) (by kernel_rfl) rfl,
   trivial⟩
 refine⟨⟨fun n cs e=>(all n cs e).1,fun n k e=> ?_⟩,fun n cs e=>(all n cs e).2⟩
 .simp only[gxT,mem_cons,mem_nil_iff,or_false,Prod.mk.injEq]at e;obtain⟨rfl,rfl⟩:=e;exact Gw0 hs (zero:= #[.int .i64 0]) (t:=3) (of_decide_eq_true (by kernel_rfl)) (by kernel_rfl) (by kernel_rfl) (by kernel_rfl) underlying3 (by kernel_rfl)
theorem Fv4(os:Os)(started:os.Started)(H:Type)(enc:TypeId×Value->H)(F:Stop.Interp):
 ReturnsInHanded {} Tryz.checked os 6 .any ((Rows.OpenSpec.upto Rows.stepsGainsSpec).preRow enc prog f6 Rows.stepsGainsUptoRow.domain false Rows.stepsGainsUptoRow.laid)
  (((Rows.OpenSpec.upto Rows.stepsGainsSpec).at F).post enc prog f6 false true false false):=by
 refine returnsInHanded_of_row (C:=Tryz.checked) (s:=Rows.OpenSpec.upto Rows.stepsGainsSpec) own started (by kernel_rfl) func6
  (Ej3 (enc:=enc) (C:=Tryz.checked) (os:=os) (s:=Rows.OpenSpec.upto Rows.stepsGainsSpec) (k:=Rows.uptoSmall) rfl (World.laidAll prog os Rows.stepsGainsUptoRow.laid) #[.agg #[.int .u8 0,.int .u8 0,.int .u8 0,.int .u8 0,.slice none 0 0],.agg #[.int .u8 0,.int .u8 0,.int .u8 0,.int .i64 0,.string ByteArray.empty,.string ByteArray.empty],.int .i64 0] 8 (World.laidAll_os _ _ _)
   (World.shaped_of_ZipB (by kernel_rfl) (by kernel_rfl)) (by kernel_rfl) (by kernel_rfl) (by kernel_rfl)
   (by rw[MakeChecks.laidMetH_plain _ _ _ (by kernel_rfl)];exact laidMet_laidAll _ (by kernel_rfl) (by kernel_rfl))) ?_
 intro W base args ds gs before hval0 hW hcnd hk_ _ hlaid hshape _;have hgl:GlA (K5 W) W:=Gw1 hlaid hshape;have hk_:=hk_ _ rfl;have hval:∀(j:Nat) t v,f6.params[j]? =some t->args[j]? =some v->Value.okWide prog W .any base t v:=hval0;have hW':=hW;obtain⟨p,q,hA0,hV,rfl,hfz,hnd⟩:=hW;have hA:DataW.TrodAll enc prog W 0 (fun _=>true) true f6.params.toList args.toList ds p:=hA0;rw[Tryz.params6]at hA hval;obtain⟨v0,vs0,d0,ds0,p0,q0,hargs,rfl,rfl,h0,r0⟩:=trodAll_cons hA;obtain⟨v1,vs1,d1,ds1,p1,q1,rfl,rfl,rfl,h1,r1⟩:=trodAll_cons r0;obtain⟨v2,vs2,d2,ds2,p2,q2,rfl,rfl,rfl,h2,r2⟩:=trodAll_cons r1;obtain⟨rfl,rfl,rfl⟩:=trodAll_nil r2;obtain rfl:args= #[v0,v1,v2]:=by cases args;simp_all
 obtain⟨rfl,rfl⟩:=trodVars_none hV;have k0:=h0;have lt0:∀x∈p0,x.block<W.heap.size:=by obtain⟨m,hm⟩:=k0;exact DataW.trod_lt m _ _ _ hm
 obtain⟨c0,rfl⟩:=Eq9 underlying53 (hval 0 53 v0 rfl rfl);obtain⟨m0,hm0⟩:=k0;obtain⟨ds0,hr0,hf0⟩:=Af1 5 53 m0 _ _ (by kernel_rfl) hm0;obtain⟨x0,rfl,wf0_⟩:=Gi2 (n:=0) hf0;have rel0:B8 (K5 W) noR (.agg (dV [.int .u8 x0.States,.int .u8 x0.Owners,.int .u8 x0.Grain,.int .u8 x0.Cents,.sl 8 (x0.Picks.map B6)])) _:=Bz9 hr0;have k1:=h1;have lt1:∀x∈p1,x.block<W.heap.size:=by obtain⟨m,hm⟩:=k1;exact DataW.trod_lt m _ _ _ hm
 obtain⟨c1,rfl⟩:=Eq9 underlying55 (hval 1 55 v1 rfl rfl);obtain⟨m1,hm1⟩:=k1;obtain⟨ds1,hr1,hf1⟩:=Af1 2 55 m1 _ _ (by kernel_rfl) hm1;obtain⟨x1,rfl,wf1_⟩:=Gi3 (n:=0) hf1;have Gd5:B8 (K5 W) noR (.agg (dV [.int .u8 x1.What,.int .u8 x1.State,.int .u8 x1.At,.int .i64 x1.N,.str x1.Q,.str x1.S])) _:=Bz9 hr1;have k2:=h2;have lt2:∀x∈p2,x.block<W.heap.size:=by obtain⟨m,hm⟩:=k2;exact DataW.trod_lt m _ _ _ hm
 obtain⟨a2,rfl,rfl,rfl,w2⟩:=open_int underlying3 (hval 2 3 v2 rfl rfl) h2;obtain⟨m2,hm2⟩:=k2;obtain⟨ds2,hr2,hf2⟩:=Af1 1 3 m2 _ _ (by kernel_rfl) hm2;obtain⟨x2,rfl,wf2_⟩:=Gp6 (n:=0) hf2;have Gk8:B8 (K5 W) noR (.d (.int .i64 x2)) _:=Eh4 hr2;have hbk:=of_decide_eq_true (p:=Rows.uptoBulkAll (H:=H) _<=1048576) hk_;simp only[append_nil,Rows.uptoBulkAll]at hbk;have hb1_4:x1.Q.length<=1048576:=by have:=Cv0 (s:=x1.Q) 4 underlying55 hm1 hr1 rfl underlying23 (by kernel_rfl) rfl;omega
 have hb1_5:x1.S.length<=1048576:=by have:=Cv0 (s:=x1.S) 5 underlying55 hm1 hr1 rfl underlying9 (by kernel_rfl) rfl;omega
 obtain⟨fuel,hF⟩:=law x0 x1 x2 wf0_ wf1_ wf2_ hb1_4 hb1_5;clear hA0 hval0;refine(Gf2 hF (K5 W) W [_,_,_] (Cx0 W) hgl (by simp only[B2];exact⟨_,_,rfl,rel0,⟨_,_,rfl,Gd5,⟨_,_,rfl,Gk8,rfl⟩⟩⟩)).mono fun e W' hE=> ?_
 obtain⟨u,M',rfl,hext,hv⟩:=hE;have bel:=hext.below;have hv:=I6 hv;cases hv;show∃v,Ending.returned _= .returned v/\Rows.stepsGainsSpec.post enc prog f6 false true false false W _ v W';exact⟨_,rfl,_,_,_,[],_,[],hW',trodAll_mk1 (shut_bool underlying4 _),(trodAll_cons_mk (Below.trod Ci9 (by kernel_rfl) (of_decide_eq_true (by kernel_rfl)) ⟨_,hm0⟩ bel lt0) (trodAll_cons_mk (Below.trod Ci9 (by kernel_rfl) (of_decide_eq_true (by kernel_rfl)) ⟨_,hm1⟩ bel lt1) (trodAll_cons_mk (Below.trod Ci9 (by kernel_rfl) (of_decide_eq_true (by kernel_rfl)) ⟨_,hm2⟩ bel lt2) trodAll_mk0))),rfl,bel.frame _,fun h=>by cases h⟩
theorem Ds7:(Rows.stepsGainsUptoRow.inPlace==Tryz.pinned.checked.prog.inPlace 6)=true:=by kernel_rfl
theorem By7:(Rows.stepsGainsUptoRow.unfollowed==Tryz.pinned.checked.prog.unfollowed 6)=true:=by kernel_rfl
theorem Da5:(Rows.stepsGainsUptoRow.recurses==Tryz.pinned.checked.prog.recurses 6)=true:=by kernel_rfl
theorem Ff2:(Rows.stepsGainsUptoRow.named==Tryz.pinned.checked.prog.varsNamed 6)=true:=by kernel_rfl
theorem Fb2:joinedFacts Tryz.pinned.checked.prog 6 f6 (Rows.OpenSpec.upto Rows.stepsGainsSpec).bare Rows.stepsGainsUptoRow=true:=by
 unfold joinedFacts;rw[Ds7,By7,Da5,Ff2];kernel_rfl
theorem Gw5:Rows.stepsGainsUptoRow.holds Tryz.pinned (Rows.OpenSpec.upto Rows.stepsGainsSpec):=
 OpenClaim.holds_of_cond 6 f6 rfl rfl rfl rfl rfl rfl rfl ⟨rfl,rfl,rfl,rfl,rfl⟩ rfl rfl rfl rfl rfl (by kernel_rfl) func6 Fb2
  (of_decide_eq_true (by kernel_rfl)) (by unfold Func.isWrapper;first|(rw[if_pos (by decide+kernel)];kernel_rfl)|(rw[if_neg (by decide+kernel)];exact⟨rfl,rfl⟩))
  (fun os started H enc _ F=>by rw[OpenClaim.pre_eq_preRow];exact Fv4 os started H enc F)
theorem proved:Rows.StepsGainsUptoCardSaid:=
 Claim7.holds_tied_plain_at .later [] [.data,.data,.data,.sentinel,.sentinel] true (true, "502f4c70369b75b0d817dcaec3831be972de460fbc89e4c07d93a27f2ee98cfe") true Gw5 (fun _ h=>by cases h) (by kernel_rfl) (fun _ h=>by cases h) stepsGainsUpto_row_tie rfl ⟨rfl,rfl⟩ (by kernel_rfl) rfl
  (fun f fn hf hfn=>by
   obtain rfl:f=6:=ax_ ((show prog.funcNamed "croupier/croupierlaw21.StepsGains" =some 6 by kernel_rfl).symm.trans hf)|>.symm;obtain rfl:fn=f6:=(ax_ (func6.symm.trans hfn)).symm;exact⟨by kernel_rfl,fun j t ht=>by
    rw[Tryz.params6]at ht;have hm:t∈[53,55,3]:=by simpa using Array.mem_of_getElem? ht
    have hall:([53,55,3].all fun u=> !prog.wantsStandIn u)=true:=by kernel_rfl
    exact(show prog.wantsStandIn t=false by simpa using List.all_eq_true.1 hall t hm)⟩)
  (by kernel_rfl)
#print axioms proved
end
end Go.Proofs.YtfgbhfphjmmiaaaGreatDoor.stepsGains
end
