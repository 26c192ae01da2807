/- StepsSums holds: whatever the input, the call returns true, and what came in reads as it did. No condition. -/
import Derived.Test.YtfgbhfphjmmiaaaGreatDoorRows
import Derived.Test.YtfgbhfphjmmiaaaGreatDoorTie
import Derived.Test.YtfgbhfphjmmiaaaGreatDoorCards
import Derived.WalkKit
import Derived.ShutString
import Derived.ChangeOld
import Derived.Test.YtfgbhfphjmmiaaaGreatDoorSuf
section
namespace Go.Proofs.YtfgbhfphjmmiaaaGreatDoor
open Go Go.RowKit Kx
set_option maxRecDepth 100000
section
theorem Fn3{d:List UInt8}{c:UInt8}:((c::d).drop (Int.toNat 1)).take (Int.toNat (((c::d).length:Int)-1))=d:=by
 rw[show Int.toNat 1=1 from rfl,List.drop_succ_cons,List.drop_zero,List.take_of_length_le (by rw[List.length_cons];omega)]
theorem Er2{c:UInt8}(h:48≤c.toNat∧c.toNat≤57):decide ((c.toNat:Int)<48)=false∧decide ((c.toNat:Int)>57)=false:=by
 obtain⟨h1,h2⟩:=h
 exact⟨decide_eq_false (by omega),decide_eq_false (by omega)⟩
theorem Gf4{c:UInt8}{d:List UInt8}(hc:∀c∈d,48≤c.toNat∧c.toNat≤57)(hl:d.length≤2000000000):∀(r i k:Nat),i+r=d.length→r<k→Ah5 (c::d) k (i:Int)=some true
 |_,_,0,_,h=>absurd h (by omega)
 |0,i,k+1,hi,_=>by
  unfold Ah5
  rw[Fn3,decide_eq_false (by omega)];rfl
 |r+1,i,k+1,hi,hk=>by
  have hil:i<d.length:=by omega
  have hd:=Er2 (hc d[i] (List.getElem_mem hil))
  unfold Ah5
  rw[Fn3,decide_eq_true (by omega),C6 hil]
  simp only[cond_true,sb,hd.1,hd.2,cond_false]
  rw[wi i (by omega)]
  exact Gf4 hc hl r (i+1) k (by omega) (by omega)
theorem Gf5{d:List UInt8}(hc:∀c∈d,48≤c.toNat∧c.toNat≤57)(hl:d.length≤2000000000):∀(r i k:Nat),i+r=d.length→r<k→Ah6 d k (i:Int)=some true
 |_,_,0,_,h=>absurd h (by omega)
 |0,i,k+1,hi,_=>by
  unfold Ah6
  rw[decide_eq_false (by omega)];rfl
 |r+1,i,k+1,hi,hk=>by
  have hil:i<d.length:=by omega
  have hd:=Er2 (hc d[i] (List.getElem_mem hil))
  unfold Ah6
  rw[decide_eq_true (by omega),C6 hil]
  simp only[cond_true,sb,hd.1,hd.2,cond_false]
  rw[wi i (by omega)]
  exact Gf5 hc hl r (i+1) k (by omega) (by omega)
theorem Ev6{fuel:Nat}{n:Int}(hl:lt n≤100000000)(hf:2000000010<fuel):Fo7 fuel (tx n)=some true:=by
 have hlen:=K3 n
 have hne:∀{c:UInt8} {b:Nat},b<48→48≤c.toNat→((c.toNat:Int)==(b:Int))=false:=fun h1 h2=>beq_false_of_ne (by omega)
 by_cases h0:n=0
 ·subst h0;rfl
 ·unfold Fo7
  rw[Hf0,decide_eq_false h0]
  simp only[cond_false]
  by_cases h1:n<0
  ·obtain⟨c,s,hcs,hc1,hc2⟩:=Av9 (show 0< -n by omega)
   have ht:tx n=45::c::s:=by unfold tx;rw[if_pos h1,hcs]
   rw[ht]at hlen
   have hch:=G9 (show 0≤-n by omega)
   rw[hcs]at hch
   simp only[List.length_cons]at hlen
   rw[ht,Fn3]
   rw[decide_eq_true (by simp only[List.length_cons];omega),show C4 (45::c::s) 0=some 45 from rfl]
   simp only[cond_true,sb]
   rw[show(((45:UInt8).toNat:Int)==45)=true from rfl]
   simp only[cond_true]
   rw[G2 (by simp only[List.length_cons,Bool.and_eq_true,decide_eq_true_eq];omega)]
   rw[beq_false_of_ne (show((((c::s).length:Nat):Int))≠0 by simp only[List.length_cons];omega),show C4 (c::s) 0=some c from rfl]
   simp only[cond_false,sb]
   rw[beq_false_of_ne (show((c.toNat:Nat):Int)≠48 by omega)]
   simp only[cond_false]
   exact Gf4 (d:=c::s) hch (by simp only[List.length_cons];omega) (c::s).length 0 fuel (by omega) (by simp only[List.length_cons];omega)
  ·obtain⟨c,s,hcs,hc1,hc2⟩:=Av9 (show 0<n by omega)
   have ht:tx n=c::s:=by unfold tx;rw[if_neg h1,hcs]
   rw[ht]at hlen
   have hch:=G9 (show 0≤n by omega)
   rw[hcs]at hch
   simp only[List.length_cons]at hlen
   rw[ht]
   rw[decide_eq_true (by simp only[List.length_cons];omega),show C4 (c::s) 0=some c from rfl]
   simp only[cond_true,sb]
   rw[beq_false_of_ne (show((c.toNat:Nat):Int)≠45 by omega)]
   simp only[cond_false]
   rw[beq_false_of_ne (show((((c::s).length:Nat):Int))≠0 by simp only[List.length_cons];omega)]
   simp only[cond_false]
   rw[beq_false_of_ne (show((c.toNat:Nat):Int)≠48 by omega),sb]
   simp only[cond_false]
   exact Gf5 (d:=c::s) hch (by simp only[List.length_cons];omega) (c::s).length 0 fuel (by omega) (by simp only[List.length_cons];omega)
theorem Gf3{fuel:Nat}{r:Rat}(h:rs r)(hf:2000000010+r.den<fuel):F82 fuel (T r)=some true:=by
 have hd:=r.den_pos
 unfold F82
 rw[Hc1 h (by decide) (by omega),sb]
 simp only
 rw[Ev6 (Nat.le_trans h.1 (by decide)) (by omega),Ev6 (Nat.le_trans h.2 (by decide)) (by omega)]
 simp only[sb,Bool.not_true,cond_false]
 by_cases h1:r.den=1
 ·rw[decide_eq_false (by omega)];rfl
 ·rw[decide_eq_true h1]
  simp only[Bool.not_true,cond_false]
  rw[show([49]:List UInt8)=tx 1 from rfl,Hm3 (Nat.le_trans h.2 (by decide)) (by decide) (by omega),sb,show Q8 (r.den:Int) 1=1 by unfold Q8;rw[if_neg (by omega),if_pos (by omega)]]
  simp only[show decide ((1:Int)>0)=true from rfl,cond_true]
  rw[He1 (Nat.le_trans h.1 (by decide)) (Nat.le_trans h.2 (by decide)) (by omega),sb,show((Int.gcd r.num (r.den:Int):Nat):Int)=1 by
   rw[show Int.gcd r.num (r.den:Int)=1 from r.reduced];rfl]
  rfl
theorem Ff9{x:Rat}(hx:rs x):Ev fun f=>F82 f (T x)=some true:=Ev.from_ (2000000010+x.den+1) fun n h=>Gf3 hx (by omega)
theorem By9{l:List Rat}(hl:l.length≤1000)(hr:∀x∈l,rs x):∀(r i:Nat),i+r=l.length→Ev fun f=>∀k,r<k→Ay8 f (l.map T) (l.length:Int) k (i:Int)=some true
 |0,i,hi=>Ev.of fun f k hk=>by
  obtain⟨k,rfl⟩:∃j,k=j+1:=⟨k-1,by omega⟩
  unfold Ay8
  rw[decide_eq_false (by simp;omega)]
  simp
 |r+1,i,hi=>by
  have hil:i<l.length:=by omega
  refine((Ff9 (hr l[i] (List.getElem_mem hil))).and (By9 hl hr r (i+1) (by omega))).mono fun f h k hk=> ?_
  obtain⟨h1,h2⟩:=h
  obtain⟨k,rfl⟩:∃j,k=j+1:=⟨k-1,by omega⟩
  unfold Ay8
  rw[decide_eq_true (by simp;omega),D2 hil]
  simp only[cond_true,sb,h1,Bool.not_true,cond_false]
  rw[wi i (by omega)]
  exact h2 k (by omega)
theorem Af3{l:List Rat}{n:Nat}(hn:l.length=n)(hl:n≤1000)(hr:∀x∈l,rs x):Ev fun f=>F32 f (l.map T) (n:Int)=some true:=by
 subst hn
 refine((By9 hl hr l.length 0 (by omega)).and (Ev.ge 2000)).mono fun f h=> ?_
 unfold F32
 exact h.1 f (by have:=h.2;omega)
theorem Gw9{n:Nat}(x:List UInt8)(h1:1≤n)(h2:n≤5)(k:Nat):F18 (k+20) (n:Int) [x]=some (List.replicate n x):=by
 match n,h1,h2 with
 |1,_,_=>
  have h:F18 (k+20) 1 [x]=some (List.replicate 1 x):=by kernel_rfl
  exact h
 |2,_,_=>
  have h:F18 (k+20) 2 [x]=some (List.replicate 2 x):=by kernel_rfl
  exact h
 |3,_,_=>
  have h:F18 (k+20) 3 [x]=some (List.replicate 3 x):=by kernel_rfl
  exact h
 |4,_,_=>
  have h:F18 (k+20) 4 [x]=some (List.replicate 4 x):=by kernel_rfl
  exact h
 |5,_,_=>
  have h:F18 (k+20) 5 [x]=some (List.replicate 5 x):=by kernel_rfl
  exact h
end
section
def gm(v:List Rat)(c:Cho):Rat:=c.gain+mix v c
def szg(g D B:Nat):Prop:=szs g D B∧rs (0:Rat)∧∃p q,g*D≤10^p∧B*12+9999≤10^q∧p+q<1000000
structure okG(D:Nat)(c:Cho):Prop where
 den:fr D 9999 c.gain
theorem Fj0{c:Cho}{v:List Rat}{g D B n:Nat}(hc:okN g n c)(hgc:fr D 9999 c.gain)(hn:n=v.length)(hv:∀x∈v,fr D B x)(hg:0<g)(hD:0<D):fr (g*D) (B*12+9999) (gm v c):=by
 have h1:=By6 hc hn hv hg hD
 have h2:fr (g*D) 9999 c.gain:=by have:=Ag5 hgc hg;rwa [Nat.mul_comm]at this
 have:=Au5 h2 h1
 rwa [Nat.add_comm]at this
theorem Ds3{c:Cho}{v:List Rat}{g D B n:Nat}(hc:okN g n c)(hgc:fr D 9999 c.gain)(hn:n=v.length)(hv:∀x∈v,fr D B x)(hs:szg g D B):Ev fun f=>Fq0 f (eC c) (v.map R)=some (R (gm v c)):=by
 obtain⟨hs1,_,p,q,hp,hq,hpq⟩:=hs
 have h1:=By6 hc hn hv hs1.1 hs1.2.1
 have h2:fr (g*D) 9999 c.gain:=by have:=Ag5 hgc hs1.1;rwa [Nat.mul_comm]at this
 have z1:rs (mix v c):=Ac4 h1 hp (by omega) hpq
 have z2:rs c.gain:=Ac4 h2 hp (by omega) hpq
 refine(((Dp7 z2).and (Bp3 hc hn hv hs1)).and (Gk4 z2 z1)).mono fun f h=> ?_
 obtain⟨⟨e1,e2⟩,e3⟩:=h
 unfold Fq0
 exact sbe e1 (sbe e2 (sbe e3 rfl))
theorem Cf8{own:Int}{v:List Rat}{l1:List Cho}{g D B:Nat}(hl:l1.length≤1000000)(hc:∀c∈l1,okN g v.length c∧fr D 9999 c.gain)(hv:∀x∈v,fr D B x)(hs:szg g D B):
 ∀(l:List Cho) (i k0:Nat) (x:Rat),l1.drop i=l→fr (g*D) (B*12+9999) x→
  Ev fun f=>∀k,l.length<k→Y8 f own (v.map R) (l1.map eC) k (k0:Int) (i:Int) (R x).n_.neg (R x).n_.mag (R x).d.neg (R x).d.mag=some (R (Dn3 own (l.map (gm v)) (i+1) k0 x).1,((Dn3 own (l.map (gm v)) (i+1) k0 x).2:Int))
 |[],i,k0,x,hd,hx=>Ev.of fun f k hk=>by
  obtain⟨k,rfl⟩:∃j,k=j+1:=⟨k-1,by simp at hk;omega⟩
  have:=drop_nil hd
  unfold Y8
  rw[decide_eq_false (by simp;omega)];rfl
 |c::l,i,k0,x,hd,hx=>by
  obtain⟨hi,hb,hd'⟩:=S5 hd
  obtain⟨hcc,hgc⟩:=hc c (by rw[←hb];exact List.getElem_mem hi)
  have hm:=Fj0 hcc hgc rfl hv hs.1.1 hs.1.2.1
  obtain⟨p,q,hp,hq,hpq⟩:=hs.2.2
  have hz:rs (gm v c):=Ac4 hm hp hq hpq
  have hz':rs x:=Ac4 hx hp hq hpq
  refine((((Ds3 hcc hgc rfl hv hs).and (Hc4 hz hz')).and (Cf8 (own:=own) hl hc hv hs l (i+1) (i+1) (gm v c) hd' hm)).and (Cf8 (own:=own) hl hc hv hs l (i+1) k0 x hd' hx)).mono fun f h k hk=> ?_
  obtain⟨⟨⟨h1,h2⟩,h3⟩,h4⟩:=h
  obtain⟨k,rfl⟩:∃j,k=j+1:=⟨k-1,by simp at hk;omega⟩
  unfold Y8
  rw[decide_eq_true (by simp;omega)]
  simp only[cond_true]
  refine sbe (x:=eC c) (by rw[D2 hi,hb]) (sbe h1 (sbe h2 (sbe Dw5 ?_)))
  rw[List.map_cons,Dn3]
  by_cases hp:own=0∧x<gm v c∨own=1∧gm v c<x
  ·rw[decide_eq_true hp,if_pos hp]
   simp only[cond_true]
   unfold Aq4
   rw[wi i (by omega)]
   exact h3 k (by simp at hk;omega)
  ·rw[decide_eq_false hp,if_neg hp]
   simp only[cond_false]
   unfold Aq4
   rw[wi i (by omega)]
   exact h4 k (by simp at hk;omega)
theorem Ef9{own:Int}{v:List Rat}{l:List Cho}{g D B:Nat}(hl:l.length≤1000000)(h0:l≠[])(hc:∀c∈l,okN g v.length c∧fr D 9999 c.gain)(hv:∀x∈v,fr D B x)(hs:szg g D B):
 Ev fun f=>Fb6 f own (eL l) (v.map R)=some (R (bst own (l.map (gm v))).1,((bst own (l.map (gm v))).2:Int)):=by
 cases l with
 |nil=>exact absurd rfl h0
 |cons c l=>
  obtain⟨hcc,hgc⟩:=hc c List.mem_cons_self
  have hm:=Fj0 hcc hgc rfl hv hs.1.1 hs.1.2.1
  simp only[List.length_cons]at hl
  refine(((Ds3 hcc hgc rfl hv hs).and (Cf8 (own:=own) (by omega) (fun c h=>hc c (List.mem_cons_of_mem _ h)) hv hs l 0 0 (gm v c) rfl hm)).and (Ev.ge (l.length+1))).mono fun f h=> ?_
  obtain⟨⟨h1,h2⟩,h3⟩:=h
  unfold Fb6 eL
  refine sbe (x:=eC c) rfl (sbe h1 (sbe (x:=l.map eC) ?_ ?_))
  ·exact Cx0 _ _
  ·exact h2 f (by omega)
def stg(m:Mdl)(v:List Rat)(s:Nat):Rat:=(bst (m.own.getD s 0) ((m.ch.getD s []).map (gm v))).1
def nxg(m:Mdl)(v:List Rat):List Rat:=(List.range m.ch.length).map (stg m v)
def gns(m:Mdl):Nat→List Rat
 |0=>bgn m 0
 |k+1=>nxg m (gns m k)
theorem Fk5(m:Mdl)(v:List Rat):(nxg m v).length=m.ch.length:=by simp[nxg]
theorem Ac6{g:Nat}{m:Mdl}(hm:okS g m):∀k,(gns m k).length=m.ch.length
 |0=>by simp[gns,bgn,hm.len]
 |k+1=>by simp[gns,Fk5]
def gnD(D:Nat)(m:Mdl):Prop:=∀l∈m.ch,∀c∈l,fr D 9999 c.gain
theorem Gd7{m:Mdl}{g D B:Nat}{v:List Rat}(hm:okS g m)(hgd:gnD D m)(hn:v.length=m.ch.length)(hv:∀x∈v,fr D B x)(hg:0<g)(hD:0<D):∀x∈nxg m v,fr (g*D) (B*12+9999) x:=by
 intro x hx
 obtain⟨s,hs,rfl⟩:=List.mem_map.1 hx
 have hs:=List.mem_range.1 hs
 unfold stg
 rw[List.getD_eq_getElem?_getD,List.getD_eq_getElem?_getD,List.getElem?_eq_getElem hs]
 have hcs:=hm.cs m.ch[s] (List.getElem_mem hs)
 refine Cf9 (by simpa using hcs.1) fun y hy=> ?_
 obtain⟨c,hc,rfl⟩:=List.mem_map.1 hy
 exact Fj0 (hcs.2.2 c hc) (hgd _ (List.getElem_mem hs) c hc) hn.symm hv hg hD
theorem Cj2{m:Mdl}{D g:Nat}(h:gnD D m)(hg:0<g):∀k,gnD (g^k*D) m
 |0=>by rw[Nat.pow_zero,Nat.one_mul];exact h
 |k+1=>fun l hl c hc=>by
  have:=Ag5 (h l hl c hc) (Nat.pow_pos hg:0<g^(k+1))
  rwa [Nat.mul_comm]at this
theorem Cu0{m:Mdl}{g D:Nat}(hm:okS g m)(hgd:gnD D m)(hg:0<g)(hD:0<D):∀k,∀x∈gns m k,fr (g^k*D) (9999*13^k) x
 |0,x,hx=>by
  obtain⟨s,_,rfl⟩:=List.mem_map.1 hx
  split
  ·rename_i h;rw[Nat.zero_testBit]at h;cases h
  ·exact I6 (S7 (by simpa using hD)) (by decide)
 |k+1,x,hx=>by
  have hp:0<g^k*D:=Nat.mul_pos (Nat.pow_pos hg) hD
  have h0:=Gd7 hm (Cj2 hgd hg k) (Ac6 hm k) (Cu0 hm hgd hg hD k) hg hp x hx
  rw[←Nat.mul_assoc,←Nat.pow_succ']at h0
  refine I6 h0 ?_
  have:1≤13^k:=Nat.pow_pos (by decide)
  rw[Nat.pow_succ]
  omega
theorem Fn2{g D:Nat}(hg:0<g)(h:g≤9999)(hD:0<D)(h9:D≤9999){k:Nat}(hk:k≤61):szg g (g^k*D) (9999*13^k):=by
 have h1:g*(g^k*D)≤10^(4*(k+2)):=by
  rw[←Nat.mul_assoc,←Nat.pow_succ',Nat.pow_mul,Nat.pow_succ (n:=10^4) (m:=k+1)]
  exact Nat.mul_le_mul (Nat.pow_le_pow_left (by omega) _) (by omega)
 have h2:9999*13^k*12+9999≤10^(2*(k+4)):=by
  have h3:13^k≤(10^2)^k:=Nat.pow_le_pow_left (by decide) _
  have h4:1≤(10^2)^k:=Nat.pow_pos (by decide)
  rw[Nat.pow_mul,Nat.pow_add]
  have h5:((10:Nat)^2)^4=100000000:=by decide
  rw[h5]
  omega
 exact⟨⟨hg,Nat.mul_pos (Nat.pow_pos hg) hD,4*(k+2),2*(k+4),h1,by omega,by omega⟩,Ac4 (S7 (D:=1) (by decide)) (p:=1) (q:=1) (by decide) (by decide) (by decide),_,_,h1,h2,by omega⟩
theorem Ds6{m:Mdl}{g D:Nat}(hm:okS g m)(hgd:gnD D m)(hg:0<g)(h9:g≤9999)(hD:0<D)(hD9:D≤9999){k:Nat}(hk:k≤61):∀x∈gns m k,rs x:=fun x hx=>by
 obtain⟨_,_,p,q,hp,hq,hpq⟩:=Fn2 hg h9 hD hD9 hk
 refine Ac4 (Cu0 hm hgd hg hD k x hx) (Nat.le_trans (Nat.le_mul_of_pos_left _ hg) hp) (by omega) hpq
theorem Bx2{m:Mdl}{g D B:Nat}{v:List Rat}(hm:okS g m)(hgd:gnD D m)(hn:v.length=m.ch.length)(hv:∀x∈v,fr D B x)(hs:szg g D B){i:Nat}(hil:i<m.ch.length):Ev fun f=>∃j,Fb6 f (m.own.getD i 0) (eL (m.ch.getD i [])) (v.map R)=some (R (stg m v i),j):=by
 have hio:i<m.own.length:=by rw[hm.len];exact hil
 have hcs:=hm.cs m.ch[i] (List.getElem_mem hil)
 have hb:=Ef9 (own:=m.own[i]) hcs.2.1 hcs.1 (fun c hc=>⟨by rw[hn];exact hcs.2.2 c hc,hgd _ (List.getElem_mem hil) c hc⟩) hv hs
 refine hb.mono fun f h=> ?_
 unfold stg
 rw[List.getD_eq_getElem?_getD,List.getD_eq_getElem?_getD,List.getElem?_eq_getElem hil,List.getElem?_eq_getElem hio]
 exact⟨_,h⟩
theorem Ct6{m:Mdl}{g D B:Nat}{v:List Rat}(hm:okS g m)(hgd:gnD D m)(hn:v.length=m.ch.length)(hv:∀x∈v,fr D B x)(hs:szg g D B){v11:Int}{z:A2}:
 ∀(r i:Nat),i+r=m.ch.length→Ev fun f=>∀(rec_:Int→List A2→Option (List (List UInt8)×Int)) k,r<k→Ax9 f (eM m) (v.map R) v11 rec_ k (i:Int) (fil (fun s=>R (stg m v s)) z m.ch.length i)=rec_ (IntKind.i64.wrap (v11+1)) ((nxg m v).map R)
 |0,i,hi=>Ev.of fun f rec_ k hk=>by
  obtain⟨k,rfl⟩:∃j,k=j+1:=⟨k-1,by omega⟩
  obtain rfl:i=m.ch.length:=by omega
  unfold Ax9
  rw[decide_eq_false (by simp[eM]),Bo0]
  simp[nxg,Function.comp_def]
 |r+1,i,hi=>by
  have hil:i<m.ch.length:=by omega
  have hio:i<m.own.length:=by rw[hm.len];exact hil
  have h12:=hm.le
  refine((Bx2 hm hgd hn hv hs hil).and (Ct6 hm hgd hn hv hs (v11:=v11) (z:=z) r (i+1) (by omega))).mono fun f h rec_ k hk=> ?_
  obtain⟨⟨j,h1⟩,h3⟩:=h
  obtain⟨k,rfl⟩:∃j,k=j+1:=⟨k-1,by omega⟩
  rw[List.getD_eq_getElem?_getD,List.getD_eq_getElem?_getD,List.getElem?_eq_getElem hil,List.getElem?_eq_getElem hio]at h1
  unfold Ax9
  rw[decide_eq_true (by simp[eM];omega)]
  simp only[cond_true]
  refine sbe (D2 hil) (sbe (C6 hio) (sbe h1 (sbe (O7 hil) (sbe rfl ?_))))
  rw[tn]
  simp only
  rw[show(fil (fun s=>R (stg m v s)) z m.ch.length i).set i (R (stg m v i))=fil (fun s=>R (stg m v s)) z m.ch.length (i+1) from V8 (f:=fun s=>R (stg m v s)) hil,wi i (by omega)]
  exact h3 rec_ k (by omega)
theorem Ct4{m:Mdl}{g D B:Nat}{v:List Rat}{n:Int}(hm:okS g m)(hgd:gnD D m)(hn:v.length=m.ch.length)(hv:∀x∈v,fr D B x)(hs:szg g D B){z:A2}:
 ∀(r i:Nat),i+r=m.ch.length→Ev fun f=>∀k,r<k→Ax8 f (eM m) n (v.map R) k (i:Int) (fil (fun s=>R (stg m v s)) z m.ch.length i)=Ag0 f (eM m) n f (IntKind.i64.wrap (0+1)) ((nxg m v).map R)
 |0,i,hi=>Ev.of fun f k hk=>by
  obtain⟨k,rfl⟩:∃j,k=j+1:=⟨k-1,by omega⟩
  obtain rfl:i=m.ch.length:=by omega
  unfold Ax8
  rw[decide_eq_false (by simp[eM]),Bo0]
  simp[nxg,Function.comp_def]
 |r+1,i,hi=>by
  have hil:i<m.ch.length:=by omega
  have hio:i<m.own.length:=by rw[hm.len];exact hil
  have h12:=hm.le
  refine((Bx2 hm hgd hn hv hs hil).and (Ct4 (n:=n) hm hgd hn hv hs (z:=z) r (i+1) (by omega))).mono fun f h k hk=> ?_
  obtain⟨⟨j,h1⟩,h3⟩:=h
  obtain⟨k,rfl⟩:∃j,k=j+1:=⟨k-1,by omega⟩
  rw[List.getD_eq_getElem?_getD,List.getD_eq_getElem?_getD,List.getElem?_eq_getElem hil,List.getElem?_eq_getElem hio]at h1
  unfold Ax8
  rw[decide_eq_true (by simp[eM];omega)]
  simp only[cond_true]
  refine sbe (D2 hil) (sbe (C6 hio) (sbe h1 (sbe (O7 hil) (sbe rfl ?_))))
  rw[tn]
  simp only
  rw[show(fil (fun s=>R (stg m v s)) z m.ch.length i).set i (R (stg m v i))=fil (fun s=>R (stg m v s)) z m.ch.length (i+1) from V8 (f:=fun s=>R (stg m v s)) hil,wi i (by omega)]
  exact h3 k (by omega)
theorem Ct5{m:Mdl}{g D n:Nat}(hm:okS g m)(hgd:gnD D m)(hg:0<g)(h9:g≤9999)(hD:0<D)(hD9:D≤9999)(hk:n≤60):
 ∀(r i:Nat),i+r=n→Ev fun f=>∀k,r<k→Ag0 f (eM m) (n:Int) k (i:Int) ((gns m i).map R)=some ((gns m n).map T,0)
 |0,i,hi=>by
  obtain rfl:i=n:=by omega
  refine(Br1 (by rw[Ac6 hm];have:=hm.le;omega) (Ds6 hm hgd hg h9 hD hD9 (show i≤61 by omega))).mono fun f h k hk'=> ?_
  obtain⟨k,rfl⟩:∃j,k=j+1:=⟨k-1,by omega⟩
  unfold Ag0
  rw[decide_eq_false (by omega)]
  exact sbe h rfl
 |r+1,i,hi=>by
  have h12:=hm.le
  have hlen:=Ac6 hm i
  refine((Ct6 (v11:=(i:Int)) (z:=(⟨(⟨false,[]⟩:A3),(⟨false,[]⟩:A3)⟩:A2)) hm (Cj2 hgd hg i) hlen (Cu0 hm hgd hg hD i) (Fn2 hg h9 hD hD9 (show i≤61 by omega)) m.ch.length 0 (by omega)).and ((Ct5 hm hgd hg h9 hD hD9 hk r (i+1) (by omega)).and (Ev.ge 13))).mono fun f h k hk'=> ?_
  obtain⟨h1,h2,h3⟩:=h
  obtain⟨k,rfl⟩:∃j,k=j+1:=⟨k-1,by omega⟩
  unfold Ag0
  rw[decide_eq_true (by omega)]
  simp only[cond_true,List.length_map,hlen]
  refine sbe (Af8 (by omega) _) ?_
  have:=h1 (Ag0 f (eM m) (n:Int) k) f (by omega)
  rw[Bn9]at this
  refine this.trans ?_
  rw[wi i (by omega)]
  exact h2 k (by omega)
theorem Em5{r:Rat}(h:shB r=true)(h0:0≤r){D:Nat}(hD:0<D)(hd:r.den∣D):fr D 9999 r:=by
 obtain⟨h1,_⟩:=(Am2 (k:=4) (by decide)).1 h
 refine Gc2 hD hd ?_
 have:(10:Int)^4=10000:=by decide
 have:=r.den_pos
 have:9999*1≤9999*r.den:=Nat.mul_le_mul_left _ r.den_pos
 omega
theorem Ck2{m:Mdl}(h:okM m):gnD (gG m) m:=fun l hl c hc=>by
 obtain⟨a,b,d⟩:=Ad3 h
 have hm:=List.mem_flatten.2 ⟨l,hl,hc⟩
 exact Em5 (h.ga c hm).1 (h.ga c hm).2 a (d c hm)
theorem Ct7{m:Mdl}(h:okM m){n:Nat}(hn:n≤60):Ev fun f=>F14 f (eM m) (n:Int)=some ((gns m n).map T,0):=by
 have h12:=h.n12
 have hS:=M7 h
 have hle:=hS.le
 obtain⟨a,b,_⟩:=H8 h
 obtain⟨a',b',_⟩:=Ad3 h
 have hgd:=Ck2 h
 have hlen:=Ac6 hS 0
 have e0:=(Ca7 h (tg:=0) (n:=(n:Int)) (by decide)).and ((Cq5 (m:=m) (tg:=0) h12 (by decide)).and (Ev.ge 100))
 have hpow:0<2^m.own.length:=Nat.pow_pos (by decide)
 cases n with
 |zero=>
  refine(e0.and (Br1 (l:=gns m 0) (by omega) (Ds6 hS hgd a b a' b' (by omega)))).mono fun f hf=> ?_
  obtain⟨⟨h1,h2,_⟩,h3⟩:=hf
  rw[if_pos ⟨hpow,by omega,by omega⟩]at h1
  unfold F14
  refine sbe h1 ?_
  simp only[show((0:Int) !=0)=false from rfl,cond_false]
  refine sbe h2 ?_
  rw[decide_eq_false (by omega)]
  exact sbe h3 rfl
 |succ n=>
  refine(e0.and ((Ct4 (n:=((n+1:Nat):Int)) (z:=(⟨(⟨false,[]⟩:A3),(⟨false,[]⟩:A3)⟩:A2)) hS (Cj2 hgd a 0) hlen (Cu0 hS hgd a a' 0) (Fn2 a b a' b' (show 0≤61 by omega)) m.ch.length 0 (by omega)).and (Ct5 hS hgd a b a' b' hn n 1 (by omega)))).mono fun f hf=> ?_
  obtain⟨⟨h1,h2,h0⟩,h3,h4⟩:=hf
  rw[if_pos ⟨hpow,by omega,by omega⟩]at h1
  unfold F14
  refine sbe h1 ?_
  simp only[show((0:Int) !=0)=false from rfl,cond_false]
  refine sbe h2 ?_
  rw[decide_eq_true (by omega)]
  simp only[cond_true,List.length_map,show(bgn m 0).length=m.ch.length from hlen]
  refine sbe (Af8 (by omega) _) ?_
  have:=h3 f (by omega)
  rw[Bn9]at this
  refine this.trans ?_
  exact h4 f (by omega)
end
section
def fc(m:Mdl)(s:Nat):Cho:=(m.ch.getD s []).headD ⟨[],0,[]⟩
def Ef4(p:Rat):List (Int×Rat)→List Rat→List Rat
 |[],q=>q
 |b::l,q=>Ef4 p l (q.set b.1.toNat (q.getD b.1.toNat 0+p*b.2))
def fw(m:Mdl)(p:List Rat):Nat→List Rat
 |0=>List.replicate m.ch.length 0
 |i+1=>if p.getD i 0=0 then fw m p i else Ef4 (p.getD i 0) (fc m i).next (fw m p i)
def ind(n s:Nat):List Rat:=(List.range n).map fun i=>if i=s then 1 else 0
def aft(m:Mdl)(s:Nat):Nat→List Rat
 |0=>ind m.ch.length s
 |k+1=>fw m (aft m s k) m.ch.length
theorem Co9(p:Rat):∀(l:List (Int×Rat)) (q:List Rat),(Ef4 p l q).length=q.length
 |[],_=>rfl
 |b::l,q=>by rw[Ef4,Co9 p l,List.length_set]
theorem Bj2(m:Mdl)(p:List Rat):∀i,(fw m p i).length=m.ch.length
 |0=>by simp[fw]
 |i+1=>by
  rw[fw]
  split
  ·exact Bj2 m p i
  ·rw[Co9];exact Bj2 m p i
theorem Ab9(m:Mdl)(s:Nat):∀k,(aft m s k).length=m.ch.length
 |0=>by simp[aft,ind]
 |k+1=>Bj2 m _ _
def dt(p v:List Rat):Nat→Rat
 |0=>0
 |i+1=>dt p v i+p.getD i 0*v.getD i 0
theorem Er8{q v:List Rat}{t:Nat}{y:Rat}(ht:t<q.length):∀n,dt (q.set t (q.getD t 0+y)) v n=dt q v n+if t<n then y*v.getD t 0 else 0
 |0=>by simp[dt,Rat.add_zero]
 |n+1=>by
  rw[dt,dt,Er8 ht n]
  by_cases h:t=n
  ·subst h
   rw[if_neg (Nat.lt_irrefl _),if_pos (Nat.lt_succ_self _)]
   have:(q.set t (q.getD t 0+y)).getD t 0=q.getD t 0+y:=by
    rw[List.getD_eq_getElem?_getD,List.getElem?_set_self ht];rfl
   rw[this];grind
  ·have:(q.set t (q.getD t 0+y)).getD n 0=q.getD n 0:=by
    rw[List.getD_eq_getElem?_getD,List.getElem?_set_ne h,←List.getD_eq_getElem?_getD]
   rw[this]
   by_cases h2:t<n
   ·rw[if_pos h2,if_pos (by omega)];grind
   ·rw[if_neg h2,if_neg (by omega)];grind
theorem Bp2{v:List Rat}:∀(l:List (Int×Rat)) (x:Rat),Bs1 v l x=x+Bs1 v l 0
 |[],x=>by rw[Bs1,Bs1,Rat.add_zero]
 |b::l,x=>by
  rw[Bs1,Bs1,Bp2 l (x+b.2*v.getD b.1.toNat 0),Bp2 l (0+b.2*v.getD b.1.toNat 0)]
  grind
theorem Dp2{v:List Rat}{p:Rat}{n:Nat}:∀(l:List (Int×Rat)) (q:List Rat),q.length=n→(∀b∈l,b.1.toNat<n)→dt (Ef4 p l q) v n=dt q v n+p*Bs1 v l 0
 |[],q,_,_=>by rw[Ef4,Bs1,Rat.mul_zero,Rat.add_zero]
 |b::l,q,hq,hl=>by
  have hb:=hl b List.mem_cons_self
  rw[Ef4,Dp2 l _ (by rw[List.length_set];exact hq) fun c hc=>hl c (List.mem_cons_of_mem _ hc),Er8 (by omega),if_pos hb,Bs1,Bp2 l (0+_)]
  grind
theorem Z6{α:Type}{f:Nat→α}{n s:Nat}{z:α}(h:s<n):((List.range n).map f).getD s z=f s:=by
 rw[List.getD_eq_getElem?_getD,List.getElem?_map,List.getElem?_range h];rfl
theorem Dp5{v:List Rat}{n:Nat}:∀i,dt (List.replicate n 0) v i=0
 |0=>rfl
 |i+1=>by
  rw[dt,Dp5 i]
  have:(List.replicate n (0:Rat)).getD i 0=0:=by
   rw[List.getD_eq_getElem?_getD,List.getElem?_replicate];split<;>rfl
  rw[this,Rat.zero_mul,Rat.add_zero]
def bw(m:Mdl)(v:List Rat):List Rat:=(List.range m.ch.length).map fun s=>mix v (fc m s)
theorem Ff8{m:Mdl}{p v:List Rat}(hb:∀s,s<m.ch.length→∀b∈(fc m s).next,b.1.toNat<m.ch.length):∀i,i≤m.ch.length→dt (fw m p i) v m.ch.length=dt p (bw m v) i
 |0,_=>by rw[fw,Dp5];rfl
 |i+1,hi=>by
  rw[fw,dt,←Ff8 hb i (by omega)]
  have hg:(bw m v).getD i 0=mix v (fc m i):=Z6 (f:=fun s=>mix v (fc m s)) (by omega)
  rw[hg]
  split
  ·rename_i h;rw[h,Rat.zero_mul,Rat.add_zero]
  ·rw[Dp2 _ _ (Bj2 m p i) (hb i (by omega))];rfl
def bwk(m:Mdl):Nat→List Rat→List Rat
 |0,v=>v
 |k+1,v=>bwk m k (bw m v)
theorem Cq7(m:Mdl):∀(k:Nat) (v:List Rat),bwk m (k+1) v=bw m (bwk m k v)
 |0,_=>rfl
 |k+1,v=>by rw[bwk,Cq7 m k (bw m v)];rfl
theorem Dp4{v:List Rat}{n s:Nat}(hs:s<n):∀i,i≤n→dt (ind n s) v i=if s<i then v.getD s 0 else 0
 |0,_=>rfl
 |i+1,hi=>by
  have hg:(ind n s).getD i 0=if i=s then 1 else 0:=Z6 (f:=fun i=>if i=s then(1:Rat) else 0) (by omega)
  rw[dt,Dp4 hs i (by omega),hg]
  by_cases h:i=s
  ·subst h;rw[if_neg (Nat.lt_irrefl _),if_pos rfl,if_pos (Nat.lt_succ_self _)];grind
  ·rw[if_neg h]
   by_cases h2:s<i
   ·rw[if_pos h2,if_pos (by omega)];grind
   ·rw[if_neg h2,if_neg (by omega)];grind
theorem Hc3{m:Mdl}{s:Nat}(hb:∀s,s<m.ch.length→∀b∈(fc m s).next,b.1.toNat<m.ch.length)(hs:s<m.ch.length):∀(k:Nat) (v:List Rat),dt (aft m s k) v m.ch.length=(bwk m k v).getD s 0
 |0,v=>by rw[aft,Dp4 hs _ (Nat.le_refl _),if_pos hs];rfl
 |k+1,v=>by rw[aft,Ff8 hb _ (Nat.le_refl _),Hc3 hb hs k];rfl
theorem Dr8{q:List Rat}{D C B:Nat}{t:Nat}{y:Rat}(hq:∀x∈q,fr D C x)(hy:fr D (C+B) y):∀x∈q.set t y,fr D (C+B) x:=fun x hx=>by
 rcases List.mem_or_eq_of_mem_set hx with h|rfl
 ·exact I6 (hq x h) (by omega)
 ·exact hy
theorem Dm0{p:Rat}{g D B n:Nat}(hp:fr D B p):∀(l:List (Int×Rat)) (q:List Rat) (C:Nat),q.length=n→(∀b∈l,fr g 1 b.2∧0≤b.1∧b.1.toNat<n)→(∀x∈q,fr (g*D) C x)→∀x∈Ef4 p l q,fr (g*D) (C+B*l.length) x
 |[],q,C,_,_,hq=>fun x hx=>I6 (hq x hx) (by omega)
 |b::l,q,C,hn,hl,hq=>fun x hx=>by
  obtain⟨p1,p2,p3⟩:=hl b List.mem_cons_self
  have hm:fr (g*D) B (p*b.2):=by have:=Bj1 hp p1;rwa [Nat.mul_one,Nat.mul_comm]at this
  have hg:=frD hq (show b.1.toNat<q.length by omega)
  have:=Dm0 hp l (q.set b.1.toNat (q.getD b.1.toNat 0+p*b.2)) (C+B) (by rw[List.length_set];exact hn) (fun c hc=>hl c (List.mem_cons_of_mem _ hc)) (Dr8 hq (Au5 hg hm)) x hx
  refine I6 this ?_
  rw[List.length_cons,Nat.mul_succ]
  omega
theorem Ci5{m:Mdl}{g:Nat}(hm:okS g m){s:Nat}(hs:s<m.ch.length):okN g m.ch.length (fc m s)∧∃t,m.ch.getD s []=fc m s::t:=by
 have hcs:=hm.cs m.ch[s] (List.getElem_mem hs)
 have hg:m.ch.getD s []=m.ch[s]:=by rw[List.getD_eq_getElem?_getD,List.getElem?_eq_getElem hs];rfl
 unfold fc
 rw[hg]
 cases hc:m.ch[s] with
 |nil=>exact absurd hc hcs.1
 |cons c t=>exact⟨hcs.2.2 c (by rw[hc];exact List.mem_cons_self),t,rfl⟩
theorem Fi4{m:Mdl}{p:List Rat}{g D B:Nat}(hm:okS g m)(hn:p.length=m.ch.length)(hp:∀x∈p,fr D B x)(hg:0<g)(hD:0<D):∀i,i≤m.ch.length→∀x∈fw m p i,fr (g*D) (B*12*i) x
 |0,_,x,hx=>by
  rw[(List.mem_replicate.1 hx).2]
  exact I6 (S7 (Nat.mul_pos hg hD)) (by omega)
 |i+1,hi,x,hx=>by
  have ih:=Fi4 hm hn hp hg hD i (by omega)
  rw[fw]at hx
  have hmul:B*12*(i+1)=B*12*i+B*12:=Nat.mul_succ _ _
  split at hx
  ·exact I6 (ih x hx) (by omega)
  ·obtain⟨⟨c1,c2⟩,_⟩:=Ci5 hm (show i<m.ch.length by omega)
   have:=Dm0 (frD hp (show i<p.length by omega)) _ _ _ (Bj2 m p i) c2 ih x hx
   refine I6 this ?_
   have:B*(fc m i).next.length≤B*12:=Nat.mul_le_mul_left _ c1
   omega
theorem Cp0{m:Mdl}{g s:Nat}(hm:okS g m)(hg:0<g):∀k,∀x∈aft m s k,fr (g^k) (144^k) x
 |0,x,hx=>by
  obtain⟨i,_,rfl⟩:=List.mem_map.1 hx
  split
  ·exact Bw6 (by simp)
  ·exact I6 (S7 (by simp)) (by decide)
 |k+1,x,hx=>by
  have:=Fi4 hm (Ab9 m s k) (Cp0 hm hg k) hg (Nat.pow_pos hg) m.ch.length (Nat.le_refl _) x hx
  rw[←Nat.pow_succ']at this
  refine I6 this ?_
  rw[Nat.pow_succ,Nat.mul_assoc]
  exact Nat.mul_le_mul_left _ (by have:=hm.le;omega)
theorem Gg3{g:Nat}(hg:0<g)(h:g≤9999){k:Nat}(hk:k≤61):g*g^k≤10^(4*(k+1))∧144^k*144+144≤10^(3*(k+1)):=by
 refine⟨?_,?_⟩
 ·rw[←Nat.pow_succ',Nat.pow_mul]
  exact Nat.pow_le_pow_left (by omega) _
 ·rw[Nat.pow_mul,Nat.pow_succ]
  have h1:144^k≤(10^3)^k:=Nat.pow_le_pow_left (by decide) _
  have h2:0<(10^3)^k:=Nat.pow_pos (by decide)
  omega
theorem Dm2{m:Mdl}{g s:Nat}(hm:okS g m)(hg:0<g)(h9:g≤9999){k:Nat}(hk:k≤61):∀x∈aft m s k,rs x:=fun x hx=>by
 obtain⟨h1,h2⟩:=Gg3 hg h9 hk
 exact Ac4 (Cp0 hm hg k x hx) (Nat.le_trans (Nat.le_mul_of_pos_left _ hg) h1) (Nat.le_trans (by omega) h2) (by omega)
end
section
def U6(m:Mdl):Prop:=∀l∈m.ch,l.length=1
theorem Gc7{m:Mdl}(hc:U6 m)(h12:m.ch.length≤12):∀(r i k:Nat),i+r=m.ch.length→r<k→Y4 (m.ch.map eL) k (i:Int)=some (-1)
 |_,_,0,_,h=>absurd h (by omega)
 |0,i,k+1,hi,_=>by
  unfold Y4
  rw[decide_eq_false (by simp;omega)];rfl
 |r+1,i,k+1,hi,hk=>by
  have hil:i<m.ch.length:=by omega
  have h1:=hc m.ch[i] (List.getElem_mem hil)
  unfold Y4
  rw[decide_eq_true (by simp;omega),D2 hil]
  simp only[cond_true,sb]
  unfold Gh8
  rw[sb,show((((eL m.ch[i]).map A8).length:Int) !=1)=false by unfold eL;simp[h1]]
  simp only[cond_false]
  rw[wi i (by omega)]
  exact Gc7 hc h12 r (i+1) k (by omega) (by omega)
theorem Dc7{m:Mdl}(h:okM m)(hc:U6 m):Ev fun f=>Fs0 f (eM m)=some true:=by
 have hle:=(M7 h).le
 refine((Bc8 h).and (Ev.ge 20)).mono fun f hf=> ?_
 obtain⟨h1,h2⟩:=hf
 unfold Fs0
 rw[h1,sb]
 simp only[show((0:Int)==0)=true from rfl,cond_true]
 unfold Ed4 Ee1
 have hh:=Gc7 hc hle m.ch.length 0 f (by omega) (by omega)
 rw[show((0:Nat):Int)=0 from rfl]at hh
 rw[show(eM m).Choices=m.ch.map eL from rfl,hh]
 rfl
theorem rs0:rs 0:=Ac4 (S7 (D:=1) (by decide)) (p:=1) (q:=1) (by decide) (by decide) (by decide)
theorem rs1:rs 1:=Ac4 (Bw6 (D:=1) (by decide)) (p:=1) (q:=1) (by decide) (by decide) (by decide)
theorem Cj3{n s i:Nat}(hi:i<n):(ind n s)[i]? =some (if i=s then 1 else 0):=by
 unfold ind;rw[List.getElem?_map,List.getElem?_range hi];rfl
theorem Cj4(n s:Nat):(ind n s).length=n:=by simp[ind]
theorem T01{p:Prop}[Decidable p]:T (if p then 1 else 0)=if p then[49] else[48]:=by
 split
 ·exact T1
 ·exact T0
theorem Gx6{p:Prop}[Decidable p]:shB (if p then 1 else 0)=true:=by split<;>rfl
theorem Fm9{p:Prop}[Decidable p]:Ev fun f=>Eo3 f (T (if p then 1 else 0))=some true:=by
 obtain⟨b,h1,h2⟩:=Ca0 (q:=T (if p then 1 else 0)) (by rw[T01];split<;>decide)
 have:b=true:=h1.2 ⟨_,rfl,Gx6⟩
 subst this
 exact h2
theorem Gg2{n s:Nat}(hs:s<n)(hn:n≤12):∀(r i:Nat),i+r=n→Ev fun f=>∀k,r<k→Ai6 f ((ind n s).map T) k (i:Int) (R (if s<i then 1 else 0)).n_.neg (R (if s<i then 1 else 0)).n_.mag (R (if s<i then 1 else 0)).d.neg (R (if s<i then 1 else 0)).d.mag=some (R 1)
 |0,i,hi=>Ev.of fun f k hk=>by
  obtain⟨k,rfl⟩:∃j,k=j+1:=⟨k-1,by omega⟩
  unfold Ai6
  rw[decide_eq_false (by simp[ind];omega),if_pos (by omega)];rfl
 |r+1,i,hi=>by
  have hil:i<n:=by omega
  have r1:∀{p:Prop} [Decidable p],rs (if p then 1 else 0):=fun{p} _=>by split<;>first|exact rs1|exact rs0
  have hadd:(if s<i then 1 else 0)+(if i=s then 1 else 0)=(if s<i+1 then 1 else 0:Rat):=by
   by_cases h:i=s
   ·subst h;rw[if_neg (Nat.lt_irrefl _),if_pos rfl,if_pos (Nat.lt_succ_self _),Rat.zero_add]
   ·rw[if_neg h,Rat.add_zero]
    by_cases h2:s<i
    ·rw[if_pos h2,if_pos (by omega)]
    ·rw[if_neg h2,if_neg (by omega)]
  refine(((Dp7 (x:=if i=s then 1 else 0) r1).and (Gk4 (x:=if s<i then 1 else 0) (y:=if i=s then 1 else 0) r1 r1)).and (Gg2 hs hn r (i+1) (by omega))).mono fun f h k hk=> ?_
  obtain⟨⟨h1,h2⟩,h3⟩:=h
  obtain⟨k,rfl⟩:∃j,k=j+1:=⟨k-1,by omega⟩
  rw[hadd]at h2
  unfold Ai6
  rw[decide_eq_true (by simp[ind];omega)]
  simp only[cond_true]
  refine sbe (x:=T (if i=s then 1 else 0)) (by rw[M4,List.getElem?_map,Cj3 hil];rfl) (sbe (x:=R (if i=s then 1 else 0)) (by unfold Gi5;exact sbe h1 rfl) (sbe h2 ?_))
  rw[wi i (by omega)]
  exact h3 k (by omega)
theorem Fy8{n s:Nat}(hs:s<n)(hn:n≤12):∀(r i:Nat),i+r=n→Ev fun f=>∀k,r<k→Ai5 f ((ind n s).map T) k (i:Int)=some true
 |0,i,hi=>by
  refine((Gk5.and (Gg2 hs hn n 0 (by omega))).and ((Fg0 rs1).and (Ev.ge 20))).mono fun f h k hk=> ?_
  obtain⟨⟨h1,h2⟩,h3,h4⟩:=h
  obtain⟨k,rfl⟩:∃j,k=j+1:=⟨k-1,by omega⟩
  unfold Ai5
  rw[decide_eq_false (by simp[ind];omega)]
  simp only[cond_false]
  refine sbe (x:=R 1) ?_ (sbe h3 ?_)
  ·unfold Gi4
   have:=h2 f (by omega)
   rw[if_neg (Nat.not_lt_zero s)]at this
   exact sbe h1 this
  ·rw[T1];rfl
 |r+1,i,hi=>by
  have hil:i<n:=by omega
  refine((Fm9 (p:=i=s)).and (Fy8 hs hn r (i+1) (by omega))).mono fun f h k hk=> ?_
  obtain⟨h1,h3⟩:=h
  obtain⟨k,rfl⟩:∃j,k=j+1:=⟨k-1,by omega⟩
  unfold Ai5
  rw[decide_eq_true (by simp[ind];omega)]
  simp only[cond_true]
  refine sbe (x:=T (if i=s then 1 else 0)) (by rw[M4,List.getElem?_map,Cj3 hil];rfl) ?_
  rw[h1,sb]
  simp only[Bool.not_true,cond_false]
  have h0:∃c l,T (if i=s then 1 else 0)=c::l∧((c.toNat:Int)==45)=false:=by
   rw[T01]
   split
   ·exact⟨49,[],rfl,rfl⟩
   ·exact⟨48,[],rfl,rfl⟩
  obtain⟨c,l,hc,h45⟩:=h0
  rw[hc,show C4 (c::l) 0=some c from rfl,sb,sb,h45]
  simp only[cond_false]
  rw[wi i (by omega)]
  exact h3 k (by omega)
theorem Cg3{m:Mdl}(h:okM m)(hc:U6 m){s:Nat}(hs:s<m.own.length):Ev fun f=>F84 f (eM m) ((ind m.own.length s).map T)=some 0:=by
 have h12:=h.n12
 refine(((Bc8 h).and (Dc7 h hc)).and ((Fy8 hs h12 m.own.length 0 (by omega)).and (Ev.ge 20))).mono fun f hf=> ?_
 obtain⟨⟨h1,h2⟩,h3,h4⟩:=hf
 have h5:=h3 f (by omega)
 unfold F84 Gh5 Gh9
 rw[h1,sb,h2,sb]
 simp only[show((0:Int) !=0)=false from rfl,cond_false,Bool.not_true]
 rw[sb]
 simp only[show((0:Int) !=0)=false from rfl,cond_false]
 rw[show(eM m).Owner=m.own from rfl,List.length_map,List.length_map,List.length_map,Cj4,show(((m.own.length:Nat):Int) !=((m.own.length:Nat):Int))=false by simp]
 simp only[cond_false]
 rw[show((0:Nat):Int)=0 from rfl]at h5
 rw[h5]
 rfl
theorem Eu4{l:List Rat}(hl:l.length≤1000)(hr:∀x∈l,rs x):∀(r i:Nat),i+r=l.length→Ev fun f=>∀k,r<k→Az7 f (l.map T) k (i:Int) ((l.take i).map R)=some (l.map R)
 |0,i,hi=>Ev.of fun f k hk=>by
  obtain⟨k,rfl⟩:∃j,k=j+1:=⟨k-1,by omega⟩
  unfold Az7
  rw[decide_eq_false (by simp;omega),List.take_of_length_le (by omega)];rfl
 |r+1,i,hi=>by
  have hil:i<l.length:=by omega
  refine((Dp7 (hr l[i] (List.getElem_mem hil))).and (Eu4 hl hr r (i+1) (by omega))).mono fun f h k hk=> ?_
  obtain⟨h1,h3⟩:=h
  obtain⟨k,rfl⟩:∃j,k=j+1:=⟨k-1,by omega⟩
  unfold Az7
  rw[decide_eq_true (by simp;omega)]
  simp only[cond_true]
  refine sbe (D2 hil) (sbe h1 (sbe (N3 _ _ (by simp;omega)) ?_))
  rw[wi i (by omega),show(l.take i).map R++[R l[i]]=(l.take (i+1)).map R by rw[List.take_add_one,List.getElem?_eq_getElem hil,List.map_append];rfl]
  exact h3 k (by omega)
theorem Fj5{l:List Rat}(hl:l.length≤1000)(hr:∀x∈l,rs x):Ev fun f=>F85 f (l.map T)=some (l.map R):=by
 refine((Eu4 hl hr l.length 0 (by omega)).and (Ev.ge 1001)).mono fun f h=> ?_
 obtain⟨h1,h2⟩:=h
 unfold F85
 rw[show mkL 0 ((((l.map T).map e_s).length:Nat):Int) (⟨(⟨false,[]⟩:A3),(⟨false,[]⟩:A3)⟩:A2)=some [] by
  unfold mkL
  rw[show(decide ((0:Int)≤0)&&decide ((0:Int)≤(((l.map T).map e_s).length:Nat))&&decide (((((l.map T).map e_s).length:Nat):Int)≤2147483648))=true by
   simp;omega]
  rfl]
 exact sbe rfl (h1 f (by omega))
theorem Hj1{x:Rat}:(Cr3 x 0==0)=decide (x=0):=by
 unfold Cr3
 by_cases h1:x<0
 ·rw[if_pos h1,decide_eq_false (by intro e;subst e;exact Rat.lt_irrefl h1)];rfl
 ·rw[if_neg h1]
  by_cases h2:0<x
  ·rw[if_pos h2,decide_eq_false (by intro e;subst e;exact Rat.lt_irrefl h2)];rfl
  ·rw[if_neg h2,decide_eq_true (Rat.le_antisymm (Rat.not_lt.1 h2) (Rat.not_lt.1 h1))];rfl
theorem Cp4{c:Cho}{p:List Rat}{x:Rat}{s n g D B E:Nat}(hc:okN g n c)(hpx:p[s]? =some x)(hx:fr D B x)(hE:E≤10000)(hn:n≤12)(hg:0<g)(hD:0<D)(hsz:∃a b,g*D≤10^a∧B*144+144≤10^b∧a+b<1000000):
 ∀(l:List (Int×Rat)) (i C:Nat) (q:List Rat),c.next.drop i=l→q.length=n→C+B*l.length≤B*144→(∀y∈q,fr (g*D) C y)→
  Ev fun f=>∀(rec_:Int→List A2→Option (List (List UInt8)×Int)) k,l.length<k→Az0 f (p.map R) (s:Int) (eC c) rec_ k (i:Int) (q.map R)=rec_ (IntKind.i64.wrap ((s:Int)+1)) ((Ef4 x l q).map R)
 |[],i,C,q,hd,hq,_,_=>Ev.of fun f rec_ k hk=>by
  obtain⟨k,rfl⟩:∃j,k=j+1:=⟨k-1,by simp at hk;omega⟩
  have:=drop_nil hd
  unfold Az0
  rw[decide_eq_false (by simp[eC];omega)];rfl
 |b::l,i,C,q,hd,hq,hC,hfr=>by
  obtain⟨hi,hb,hd'⟩:=S5 hd
  obtain⟨c1,c2⟩:=hc
  obtain⟨p1,p2,p3⟩:=c2 b (by rw[←hb];exact List.getElem_mem hi)
  obtain⟨a,bb,s1,s2,s3⟩:=hsz
  have hml:B*(b::l).length=B*l.length+B:=by rw[List.length_cons,Nat.mul_succ]
  have hm:fr (g*D) B (x*b.2):=by have:=Bj1 hx p1;rwa [Nat.mul_one,Nat.mul_comm]at this
  have hgq:=frD hfr (show b.1.toNat<q.length by omega)
  have ha:=Au5 hgq hm
  have z1:rs b.2:=Ac4 (Ag5 p1 hD) s1 (Nat.le_trans (by omega) s2) s3
  have z2:rs x:=Ac4 (by have:=Ag5 hx hg;rwa [Nat.mul_comm]at this:fr (g*D) B x) s1 (Nat.le_trans (by omega) s2) s3
  have z3:rs (x*b.2):=Ac4 hm s1 (Nat.le_trans (by omega) s2) s3
  have z4:rs (q.getD b.1.toNat 0):=Ac4 hgq s1 (Nat.le_trans (by omega) s2) s3
  have hset:∀y∈q.set b.1.toNat (q.getD b.1.toNat 0+x*b.2),fr (g*D) (C+B) y:=Dr8 hfr ha
  refine(((Dp7 z1).and ((Hc5 z2 z1).and (Gk4 z4 z3))).and (Cp4 ⟨c1,c2⟩ hpx hx hE hn hg hD ⟨a,bb,s1,s2,s3⟩ l (i+1) (C+B) (q.set b.1.toNat (q.getD b.1.toNat 0+x*b.2)) hd' (by rw[List.length_set];exact hq) (by omega) hset)).mono fun f h rec_ k hk=> ?_
  obtain⟨⟨h1,h2,h3⟩,h4⟩:=h
  obtain⟨k,rfl⟩:∃j,k=j+1:=⟨k-1,by simp at hk;omega⟩
  have hgt:=He2 p2 (show b.1.toNat<q.length by omega)
  unfold Az0
  rw[decide_eq_true (by simp[eC];omega)]
  simp only[cond_true]
  refine sbe (x:=eB b) (by rw[show(eC c).Next=c.next.map eB from rfl,D2 hi,hb]) (sbe hgt (sbe (x:=R x) (by rw[M4,List.getElem?_map,hpx];rfl) (sbe h1 (sbe h2 (sbe h3 (sbe hgt (sbe rfl ?_)))))))
  rw[show(0+Int.toNat (eB b).To)=b.1.toNat by rw[Nat.zero_add];rfl,show(q.map R).set b.1.toNat (R (q.getD b.1.toNat 0+x*b.2))=(q.set b.1.toNat (q.getD b.1.toNat 0+x*b.2)).map R by rw[List.map_set],wi i (by omega)]
  exact h4 rec_ k (by simp at hk;omega)
theorem Cp3{m:Mdl}{p:List Rat}{g D B:Nat}{v34:Int}(hm:okS g m)(hn:p.length=m.ch.length)(hp:∀x∈p,fr D B x)(hg:0<g)(hD:0<D)(hsz:∃a b,g*D≤10^a∧B*144+144≤10^b∧a+b<1000000):
 ∀(r i:Nat),i+r=m.ch.length→Ev fun f=>∀(rec_:List A2→Int→Option (List (List UInt8)×Int)) k,r<k→Ab8 f (eM m) (p.map R) v34 rec_ k (i:Int) ((fw m p i).map R)=rec_ ((fw m p m.ch.length).map R) (IntKind.i64.wrap (v34+1))
 |0,i,hi=>Ev.of fun f rec_ k hk=>by
  obtain⟨k,rfl⟩:∃j,k=j+1:=⟨k-1,by omega⟩
  obtain rfl:i=m.ch.length:=by omega
  unfold Ab8
  rw[decide_eq_false (by simp[eM])];rfl
 |r+1,i,hi=>by
  have hil:i<m.ch.length:=by omega
  have h12:=hm.le
  obtain⟨hcN,t,ht⟩:=Ci5 hm hil
  have hgc:C4 (eM m).Choices (i:Int)=some (eL (fc m i::t)):=by
   rw[←ht,List.getD_eq_getElem?_getD,List.getElem?_eq_getElem hil,show(eM m).Choices=m.ch.map eL from rfl,D2 hil];rfl
  have hgp:C4 (p.map R) (i:Int)=some (R (p.getD i 0)):=by
   rw[D2 (by omega),List.getD_eq_getElem?_getD,List.getElem?_eq_getElem (show i<p.length by omega)];rfl
  have hpx:p[i]? =some (p.getD i 0):=by
   rw[List.getD_eq_getElem?_getD,List.getElem?_eq_getElem (show i<p.length by omega)];rfl
  have hx:=frD hp (show i<p.length by omega)
  have hmul:B*12*i+B*(fc m i).next.length≤B*144:=by
   have e1:B*12*i≤B*12*11:=Nat.mul_le_mul_left _ (by omega)
   have e2:B*(fc m i).next.length≤B*12:=Nat.mul_le_mul_left _ hcN.1
   omega
  refine((Cp4 (s:=i) (E:=1) hcN hpx hx (by omega) h12 hg hD hsz (fc m i).next 0 (B*12*i) (fw m p i) rfl (Bj2 m p i) hmul (Fi4 hm hn hp hg hD i (by omega))).and ((Cp3 (v34:=v34) hm hn hp hg hD hsz r (i+1) (by omega)).and (Ev.ge 20))).mono fun f h rec_ k hk=> ?_
  obtain⟨h1,h2,h3⟩:=h
  obtain⟨k,rfl⟩:∃j,k=j+1:=⟨k-1,by omega⟩
  have h4:=h2 rec_ k (by omega)
  unfold Ab8
  rw[decide_eq_true (by simp[eM];omega)]
  simp only[cond_true]
  refine sbe hgc (sbe hgp (sbe El1 ?_))
  rw[Hj1]
  by_cases h0:p.getD i 0=0
  ·rw[decide_eq_true h0]
   simp only[cond_true]
   unfold Bs8
   rw[wi i (by omega)]
   rw[fw,if_pos h0]at h4
   exact h4
  ·rw[decide_eq_false h0]
   simp only[cond_false]
   refine sbe (x:=eC (fc m i)) rfl ?_
   rw[fw,if_neg h0]at h4
   refine(h1 _ f (by have:=hcN.1;omega)).trans ?_
   rw[wi i (by omega)]
   exact h4
theorem Cp2{m:Mdl}{p:List Rat}{v34:Int}{l85:List A2}{n:Nat}(h85:l85.length=n)(hn:n≤12){z:A2}:
 ∀(r i:Nat),i+r=n→Ev fun f=>∀(rec_:List A2→Int→Option (List (List UInt8)×Int)) k,r<k→Ay9 f (eM m) (p.map R) l85 v34 rec_ k (i:Int) (fil (fun _=>R 0) z n i)=Ab8 f (eM m) (p.map R) v34 rec_ f 0 (List.replicate n (R 0))
 |0,i,hi=>Ev.of fun f rec_ k hk=>by
  obtain⟨k,rfl⟩:∃j,k=j+1:=⟨k-1,by omega⟩
  obtain rfl:i=n:=by omega
  unfold Ay9
  rw[decide_eq_false (by simp[h85]),Bo0,List.map_const',List.length_range]
  rfl
 |r+1,i,hi=>by
  have hil:i<n:=by omega
  refine(Gk5.and (Cp2 (m:=m) (p:=p) h85 hn (v34:=v34) (z:=z) r (i+1) (by omega))).mono fun f h rec_ k hk=> ?_
  obtain⟨h1,h3⟩:=h
  obtain⟨k,rfl⟩:∃j,k=j+1:=⟨k-1,by omega⟩
  unfold Ay9
  rw[decide_eq_true (by simp[h85];omega)]
  simp only[cond_true]
  refine sbe h1 (sbe (O7 hil) (sbe rfl ?_))
  rw[tn,show(fil (fun _=>R 0) z n i).set i (R 0)=fil (fun _=>R 0) z n (i+1) from V8 (f:=fun _=>R 0) hil,wi i (by omega)]
  exact h3 rec_ k (by omega)
theorem Cp5{l:List Rat}(hl:l.length≤1000)(hr:∀x∈l,rs x){z:List UInt8}:
 ∀(r i:Nat),i+r=l.length→Ev fun f=>∀k,r<k→Az1 f (l.map R) k (i:Int) (fil (fun s=>T (l.getD s 0)) z l.length i)=some (l.map T,0)
 |0,i,hi=>Ev.of fun f k hk=>by
  obtain⟨k,rfl⟩:∃j,k=j+1:=⟨k-1,by omega⟩
  obtain rfl:i=l.length:=by omega
  unfold Az1
  rw[decide_eq_false (by simp),Bo0]
  simp only[cond_false]
  congr 2
  refine List.ext_getElem (by simp) fun j h1 h2=> ?_
  simp at h1
  simp[h1]
 |r+1,i,hi=>by
  have hil:i<l.length:=by omega
  refine((Fg0 (hr l[i] (List.getElem_mem hil))).and (Cp5 hl hr (z:=z) r (i+1) (by omega))).mono fun f h k hk=> ?_
  obtain⟨h1,h3⟩:=h
  obtain⟨k,rfl⟩:∃j,k=j+1:=⟨k-1,by omega⟩
  have g1:(fil (fun s=>T (l.getD s 0)) z l.length i).set (0+Int.toNat (i:Int)) (T l[i])=fil (fun s=>T (l.getD s 0)) z l.length (i+1):=by
   rw[tn,show l[i]=l.getD i 0 by simp[hil]];exact V8 hil
  unfold Az1
  rw[decide_eq_true (by simp;omega)]
  simp only[cond_true]
  refine sbe (D2 hil) (sbe h1 (sbe (O7 hil) (sbe rfl ?_)))
  rw[g1,wi i (by omega)]
  exact h3 k (by omega)
theorem Cp1{m:Mdl}{g s n:Nat}(hm:okS g m)(hg:0<g)(h9:g≤9999)(hk:n≤60):
 ∀(r i:Nat),i+r=n→Ev fun f=>∀k,r<k→W3 f (eM m) (n:Int) k ((aft m s i).map R) (i:Int)=some ((aft m s n).map T,0)
 |0,i,hi=>by
  obtain rfl:i=n:=by omega
  have h12:=hm.le
  have hlen:=Ab9 m s i
  refine((Cp5 (l:=aft m s i) (z:=[]) (by omega) (Dm2 hm hg h9 (show i≤61 by omega)) (aft m s i).length 0 (by omega)).and (Ev.ge 20)).mono fun f h k hk'=> ?_
  obtain⟨h1,h2⟩:=h
  obtain⟨k,rfl⟩:∃j,k=j+1:=⟨k-1,by omega⟩
  unfold W3
  rw[decide_eq_false (by omega)]
  simp only[cond_false,List.length_map]
  refine sbe (Af8 (by omega) _) ?_
  have:=h1 f (by omega)
  rwa [Bn9]at this
 |r+1,i,hi=>by
  have h12:=hm.le
  have hlen:=Ab9 m s i
  obtain⟨s1,s2⟩:=Gg3 hg h9 (show i≤61 by omega)
  refine(((Cp2 (m:=m) (p:=aft m s i) (v34:=(i:Int)) (z:=(⟨(⟨false,[]⟩:A3),(⟨false,[]⟩:A3)⟩:A2)) (l85:=List.replicate m.ch.length (⟨(⟨false,[]⟩:A3),(⟨false,[]⟩:A3)⟩:A2)) (by simp) h12 m.ch.length 0 (by omega)).and (Cp3 (p:=aft m s i) (v34:=(i:Int)) hm hlen (Cp0 hm hg i) hg (Nat.pow_pos hg) ⟨_,_,s1,s2,by omega⟩ m.ch.length 0 (by omega))).and ((Cp1 (s:=s) hm hg h9 hk r (i+1) (by omega)).and (Ev.ge 20))).mono fun f h k hk'=> ?_
  obtain⟨⟨h1,h2⟩,h3,h4⟩:=h
  obtain⟨k,rfl⟩:∃j,k=j+1:=⟨k-1,by omega⟩
  unfold W3
  rw[decide_eq_true (by omega)]
  simp only[cond_true,List.length_map,hlen]
  refine sbe (Af8 (by omega) _) ?_
  have e1:=h1 (W3 f (eM m) (n:Int) k) f (by omega)
  rw[Bn9]at e1
  refine e1.trans ?_
  have e2:=h2 (W3 f (eM m) (n:Int) k) f (by omega)
  rw[fw,List.map_replicate]at e2
  refine e2.trans ?_
  rw[wi i (by omega)]
  exact h3 k (by omega)
theorem Q7{m:Mdl}(h:okM m)(hc:U6 m){s n:Nat}(hs:s<m.own.length)(hn:n≤60):Ev fun f=>F35 f (eM m) ((ind m.own.length s).map T) (n:Int)=some ((aft m s n).map T,0):=by
 have h12:=h.n12
 have hle:=h.len
 have hS:=M7 h
 obtain⟨a,b,_⟩:=H8 h
 refine(((Cg3 h hc hs).and (Fj5 (l:=ind m.own.length s) (by rw[Cj4];omega) fun x hx=>by
  obtain⟨i,_,rfl⟩:=List.mem_map.1 hx
  split<;>first|exact rs1|exact rs0)).and ((Cp1 (s:=s) hS a b hn n 0 (by omega)).and (Ev.ge 100))).mono fun f hf=> ?_
 obtain⟨⟨h1,h2⟩,h3,h4⟩:=hf
 unfold F35
 refine sbe h1 ?_
 simp only[show((0:Int) !=0)=false from rfl,cond_false]
 rw[decide_eq_false (by omega),decide_eq_false (by omega)]
 simp only[cond_false,sb]
 refine sbe h2 ?_
 have:=h3 f (by omega)
 rw[aft,hle]at this
 exact this
end
section
def mp(m:A9):List Int×List (List A1):=(m.Owner,m.Choices)
theorem obm{α β γ:Type}{o:Option α}{f:α→Option β}{g:β→γ}:(Option.bind o f).map g=Option.bind o (fun x=>(f x).map g):=by cases o<;>rfl
theorem cdm{β γ:Type}{b:Bool}{x y:Option β}{g:β→γ}:(bif b then x else y).map g=bif b then x.map g else y.map g:=by cases b<;>rfl
theorem asm{β γ:Type}{b:Bool}{x:Option β}{g:β→γ}:(ass b x).map g=ass b (x.map g):=by cases b<;>rfl
theorem mo5{l14:List Int}{y1:Int}:∀(k:Nat) (v:Int) (l:List (List A1)),Ab4 l14 y1 k v l=(Ak6 l14 y1 k v l).map mp
 |0,_,_=>rfl
 |k+1,v,l=>by
  unfold Ab4 Ak6
  unfold Ay6 Bs7
  simp only[obm,cdm,mo5 k]
  rfl
theorem mo3{f:Nat}{d:B0}{l14:List Int}{y1:Int}:∀(k:Nat) (v:Int) (l:List (List A1)),Ab3 f d l14 y1 k v l=(W2 f d l14 y1 k v l).map mp
 |0,_,_=>rfl
 |k+1,v,l=>by
  unfold Ab3 W2
  unfold Ay5 Ay3
  simp only[obm,cdm,asm,mo3 k,mo5]
theorem mo1{f:Nat}{d:B0}{l2:List (List A1)}{y1:Int}:∀(k:Nat) (v:Int) (l:List Int),Ab2 f d l2 y1 k v l=(At4 f d l2 y1 k v l).map mp
 |0,_,_=>rfl
 |k+1,v,l=>by
  unfold Ab2 At4
  unfold Ay4 Bs6
  simp only[obm,cdm,asm,mo1 k,mo3]
theorem mo{f:Nat}{d:B0}:Fa0 f d=(F20 f d).map mp:=by
 unfold Fa0 F20
 simp only[obm,mo1]
theorem Bp5{m m':Mdl}(h:okM m)(ho:m'.own.length=m.own.length)(hw:∀o∈m'.own,o=0∨o=1)(hl:m'.ch.length=m.ch.length)(hc:∀l∈m'.ch,1≤l.length∧l.length≤4∧∀c∈l,Cz8 c.act=true∧(shB c.gain=true∧0≤c.gain)∧c.gain.den∣gG m∧Fe4 m.own.length c.next∧∀b∈c.next,b.2.den∣gP m):okM m':=by
 obtain⟨a,b,_⟩:=H8 h
 obtain⟨a',b',_⟩:=Ad3 h
 have hf:∀c∈m'.ch.flatten,Cz8 c.act=true∧(shB c.gain=true∧0≤c.gain)∧c.gain.den∣gG m∧Fe4 m.own.length c.next∧∀b∈c.next,b.2.den∣gP m:=fun c hcm=>by
  obtain⟨l,h1,h2⟩:=List.mem_flatten.1 hcm
  exact(hc l h1).2.2 c h2
 obtain⟨u,hu,_⟩:=Am6 (l:=Ej8 m') (v:=1) (w:=gG m) (by decide) (Nat.one_dvd _) a' b' fun r hr=>by
  obtain⟨c,hcm,rfl⟩:=List.mem_map.1 hr
  exact(hf c hcm).2.2.1
 obtain⟨u',hu',_⟩:=Am6 (l:=Ev4 m') (v:=1) (w:=gP m) (by decide) (Nat.one_dvd _) a b fun r hr=>by
  obtain⟨c,hcm,hr⟩:=List.mem_flatMap.1 hr
  obtain⟨x,hx,rfl⟩:=List.mem_map.1 hr
  exact(hf c hcm).2.2.2.2 x hx
 exact⟨by rw[ho];exact h.n1,by rw[ho];exact h.n12,by rw[hl,ho];exact h.len,fun l hlm=>⟨(hc l hlm).1,(hc l hlm).2.1⟩,hw,fun c hcm=>(hf c hcm).1,fun c hcm=>(hf c hcm).2.1,fun c hcm=>by rw[ho];exact(hf c hcm).2.2.2.1,by rw[hu];rfl,by rw[hu'];rfl⟩
theorem Dv7{m:Mdl}(h:okM m){l:List Cho}(hl:l∈m.ch){c:Cho}(hc:c∈l):Cz8 c.act=true∧(shB c.gain=true∧0≤c.gain)∧c.gain.den∣gG m∧Fe4 m.own.length c.next∧∀b∈c.next,b.2.den∣gP m:=by
 have hm:=List.mem_flatten.2 ⟨l,hl,hc⟩
 exact⟨h.ac c hm,h.ga c hm,(Ad3 h).2.2 c hm,h.br c hm,(H8 h).2.2 c hm⟩
def chn(m:Mdl):Mdl:=⟨m.own,m.ch.map (·.take 1)⟩
theorem Fy0{m:Mdl}(h:okM m):okM (chn m)∧U6 (chn m):=by
 refine⟨Bp5 h rfl h.ow (by simp[chn]) fun l hl=> ?_,fun l hl=> ?_⟩
 ·obtain⟨l',hl',rfl⟩:=List.mem_map.1 hl
  have:=h.cl l' hl'
  refine⟨by rw[List.length_take];omega,by rw[List.length_take];omega,fun c hc=>Dv7 h hl' (List.mem_of_mem_take hc)⟩
 ·obtain⟨l',hl',rfl⟩:=List.mem_map.1 hl
  have:=h.cl l' hl'
  rw[List.length_take];omega
def one(m:Mdl):Mdl:=⟨m.own,m.ch.map (·.map fun c=>⟨c.act,1,c.next⟩)⟩
theorem Ge3{m:Mdl}(h:okM m):okM (one m):=by
 refine Bp5 h rfl h.ow (by simp[one]) fun l hl=> ?_
 obtain⟨l',hl',rfl⟩:=List.mem_map.1 hl
 have:=h.cl l' hl'
 refine⟨by rw[List.length_map];omega,by rw[List.length_map];omega,fun c hc=> ?_⟩
 obtain⟨c',hc',rfl⟩:=List.mem_map.1 hc
 obtain⟨h1,h2,h3,h4,h5⟩:=Dv7 h hl' hc'
 exact⟨h1,⟨rfl,(by decide:(0:Rat)≤1)⟩,Nat.one_dvd _,h4,h5⟩
def sto(m:Mdl)(tg:Nat):Mdl:=⟨List.replicate m.own.length 0,(List.range m.ch.length).map fun i=>[if tg.testBit i then⟨(fc m i).act,(fc m i).gain,[((i:Int),1)]⟩ else fc m i]⟩
theorem Es4{m:Mdl}(h:okM m){i:Nat}(hi:i<m.ch.length):fc m i∈m.ch[i]:=by
 have:=(h.cl _ (List.getElem_mem hi)).1
 unfold fc
 rw[List.getD_eq_getElem?_getD,List.getElem?_eq_getElem hi]
 cases hc:m.ch[i] with
 |nil=>rw[hc]at this;simp at this
 |cons c l=>exact List.mem_cons_self
theorem Ad9(m:Mdl)(tg:Nat):(sto m tg).ch.length=m.ch.length:=by simp[sto]
theorem Dz1{m:Mdl}(h:okM m)(tg:Nat):okM (sto m tg)∧U6 (sto m tg):=by
 refine⟨Bp5 h (by simp[sto]) (fun o ho=> .inl (List.mem_replicate.1 ho).2) (Ad9 m tg) fun l hl=> ?_,fun l hl=> ?_⟩
 ·obtain⟨i,hi,rfl⟩:=List.mem_map.1 hl
  have hi:=List.mem_range.1 hi
  refine⟨by simp,by simp,fun c hc=> ?_⟩
  rw[List.mem_singleton]at hc
  subst hc
  obtain⟨h1,h2,h3,h4,h5⟩:=Dv7 h (List.getElem_mem hi) (Es4 h hi)
  split
  ·refine⟨h1,h2,h3,⟨⟨by show(-1:Int)<(i:Int);omega,by show(i:Int)<m.own.length;have:=h.len;omega,trivial⟩,fun b hb=> ?_,Rat.zero_add 1⟩,fun b hb=> ?_⟩
   ·rw[List.mem_singleton]at hb;subst hb;exact⟨rfl,(by decide:(0:Rat)<1)⟩
   ·rw[List.mem_singleton]at hb;subst hb;exact Nat.one_dvd _
  ·exact⟨h1,h2,h3,h4,h5⟩
 ·obtain⟨i,hi,rfl⟩:=List.mem_map.1 hl
  rfl
theorem Gg0{α:Type}{l:List α}(h:1≤l.length):Em6 l 1 1=some (l.take 1):=by
 unfold Em6 slc
 rw[show(decide ((1:Int)≤1)&&decide ((1:Int)≤(l.length:Int)))=true by simp;omega]
 simp only[cond_true]
 rw[show(decide ((0:Int)≤0)&&decide ((0:Int)≤1)&&decide ((1:Int)≤(l.length:Int)))=true by simp;omega]
 rfl
theorem Cr1{m:Mdl}(h:okM m):∀(r i k:Nat),i+r=m.ch.length→r<k→Ay7 (m.own,m.ch.map eL) k (i:Int) (tur ((chn m).ch.map eL) (m.ch.map eL) i)=some (eM (chn m))
 |_,_,0,_,h=>absurd h (by omega)
 |0,i,k+1,hi,_=>by
  have e1:((chn m).ch.map eL).length=m.ch.length:=by simp[chn]
  have e2:(m.ch.map eL).length=m.ch.length:=by simp
  unfold Ay7
  rw[List.length_map,Cm2 e1 e2 (by omega),decide_eq_false (by omega),show i=m.ch.length by omega,Fn8 e1 e2];rfl
 |r+1,i,k+1,hi,hk=>by
  have hil:i<m.ch.length:=by omega
  have h12:=(M7 h).le
  have e1:((chn m).ch.map eL).length=m.ch.length:=by simp[chn]
  have e2:(m.ch.map eL).length=m.ch.length:=by simp
  have hpos:=(h.cl _ (List.getElem_mem hil)).1
  have hget:C4 (tur ((chn m).ch.map eL) (m.ch.map eL) i) (i:Int)=some (eL m.ch[i]):=by
   rw[M4,Cm1 e1 e2 hil,List.getElem?_map,List.getElem?_eq_getElem hil];rfl
  unfold Ay7
  rw[List.length_map,Cm2 e1 e2 (by omega),decide_eq_true (by omega)]
  simp only[cond_true]
  refine sbe hget (sbe (Gg0 (by unfold eL;rw[List.length_map];exact hpos)) (sbe hget (sbe rfl ?_)))
  rw[tn,Br3 e1 e2 hil (x:=(eL m.ch[i]).take 1) (by
   unfold chn
   rw[List.getElem?_map,List.getElem?_map,List.getElem?_eq_getElem hil]
   unfold eL
   rw[←List.map_take];rfl),wi i (by omega)]
  exact Cr1 h r (i+1) k (by omega) (by omega)
theorem Eg3{f:Nat}{d:B0}{m:Mdl}(h:okM m)(hE:F20 f d=some (eM m))(hf:20<f):F31 f d=some (eM (chn m)):=by
 have h12:=(M7 h).le
 unfold F31
 rw[mo,hE]
 have:=Cr1 h m.ch.length 0 f (by omega) (by omega)
 rw[Fn7]at this
 exact this
theorem Gz9{n s:Nat}(hn:n≤12):∀(r i k:Nat),i+r=n→r<k→Ak7 (n:Int) (s:Int) k (i:Int) (((ind n s).take i).map T)=some ((ind n s).map T)
 |_,_,0,_,h=>absurd h (by omega)
 |0,i,k+1,hi,_=>by
  unfold Ak7
  rw[decide_eq_false (by omega),List.take_of_length_le (by rw[Cj4];omega)];rfl
 |r+1,i,k+1,hi,hk=>by
  have hil:i<n:=by omega
  have hadd:((ind n s).take (i+1)).map T=((ind n s).take i).map T++[T (if i=s then 1 else 0)]:=by
   rw[List.take_add_one,Cj3 hil,List.map_append];rfl
  have ih:=Gz9 (s:=s) hn r (i+1) k (by omega) (by omega)
  rw[hadd,T01]at ih
  unfold Ak7
  rw[decide_eq_true (by omega)]
  simp only[cond_true]
  by_cases h:i=s
  ·rw[if_pos h]at ih
   rw[show((i:Int)==(s:Int))=true by rw[h];exact beq_self_eq_true _]
   simp only[cond_true]
   rw[N3 _ _ (by simp[ind];omega),sb]
   unfold Bg9
   rw[wi i (by omega)]
   exact ih
  ·rw[if_neg h]at ih
   rw[show((i:Int)==(s:Int))=false by rw[beq_eq_false_iff_ne];omega]
   simp only[cond_false]
   rw[N3 _ _ (by simp[ind];omega),sb]
   unfold Bg9
   rw[wi i (by omega)]
   exact ih
theorem Gp3{n s f:Nat}(hn:n≤12)(hf:20<f):F34 f (n:Int) (s:Int)=some ((ind n s).map T):=Gz9 hn n 0 f (by omega) (by omega)
theorem Dw2{m:Mdl}(hn:m.own.length≤12):∀(r i k:Nat),i+r=m.own.length→r<k→Az6 (eM m) 0 k (i:Int) (List.replicate i 0)=some ⟨List.replicate m.own.length 0,m.ch.map eL⟩
 |_,_,0,_,h=>absurd h (by omega)
 |0,i,k+1,hi,_=>by
  unfold Az6
  rw[List.length_map,decide_eq_false (by show¬(i:Int)<m.own.length;omega),show i=m.own.length by omega];rfl
 |r+1,i,k+1,hi,hk=>by
  unfold Az6
  rw[List.length_map,decide_eq_true (by show(i:Int)<m.own.length;omega)]
  simp only[cond_true]
  rw[N3 _ _ (by simp;omega),sb,←List.replicate_succ',wi i (by omega)]
  exact Dw2 hn r (i+1) k (by omega) (by omega)
theorem Cb3{m:Mdl}(h:okM m){tg:Nat}(ht:tg<18446744073709551616){o:List Int}{cc:List (List A1)}:∀(r i k:Nat),i+r=m.own.length→r<k→At5 (eM m) (tg:Int) ⟨o,cc⟩ k (i:Int) (((sto m tg).ch.take i).map eL)=some ⟨o,(sto m tg).ch.map eL⟩
 |_,_,0,_,h=>absurd h (by omega)
 |0,i,k+1,hi,_=>by
  have hle:=h.len
  unfold At5
  rw[List.length_map,decide_eq_false (by show¬(i:Int)<m.own.length;omega),List.take_of_length_le (by rw[Ad9];omega)];rfl
 |r+1,i,k+1,hi,hk=>by
  have hle:=h.len
  have h12:=h.n12
  have hil:i<m.ch.length:=by omega
  obtain⟨_,t,hrow⟩:=Ci5 (M7 h) hil
  have hgc:C4 (eM m).Choices (i:Int)=some (eL (fc m i::t)):=by
   rw[←hrow,List.getD_eq_getElem?_getD,List.getElem?_eq_getElem hil,show(eM m).Choices=m.ch.map eL from rfl,D2 hil];rfl
  have hadd:((sto m tg).ch.take (i+1)).map eL=((sto m tg).ch.take i).map eL++[eL [if tg.testBit i then⟨(fc m i).act,(fc m i).gain,[((i:Int),1)]⟩ else fc m i]]:=by
   rw[List.take_add_one,show(sto m tg).ch[i]? =some [if tg.testBit i then⟨(fc m i).act,(fc m i).gain,[((i:Int),1)]⟩ else fc m i] by
    unfold sto;rw[List.getElem?_map,List.getElem?_range hil];rfl,List.map_append];rfl
  have ih:=Cb3 h ht (o:=o) (cc:=cc) r (i+1) k (by omega) (by omega)
  rw[hadd]at ih
  have hlen:(((sto m tg).ch.take i).map eL).length≤12:=by rw[List.length_map,List.length_take,Ad9];omega
  unfold At5
  rw[List.length_map,decide_eq_true (by show(i:Int)<m.own.length;omega)]
  simp only[cond_true]
  refine sbe hgc (sbe (x:=eC (fc m i)) rfl (sbe (Et8 ht (by omega)) ?_))
  cases hb:tg.testBit i with
  |true=>
   rw[hb,if_pos rfl]at ih
   simp only[cond_true]
   rw[N3 _ _ (by simp only[List.length_cons,List.length_nil];omega),sb,wi i (by omega),show[(⟨(eC (fc m i)).Act,(eC (fc m i)).Gain,[(⟨(i:Int),[49]⟩:B8)]⟩:A1)]=eL [⟨(fc m i).act,(fc m i).gain,[((i:Int),1)]⟩] by
    unfold eL eC;simp only[List.map_cons,List.map_nil];unfold eB;rw[T1]]
   exact ih
  |false=>
   rw[hb,if_neg (by decide)]at ih
   simp only[cond_false]
   rw[N3 _ _ (by simp only[List.length_cons,List.length_nil];omega),sb,wi i (by omega)]
   exact ih
theorem De6{m:Mdl}(h:okM m){tg f:Nat}(ht:tg<18446744073709551616)(hf:20<f):F33 f (eM m) (tg:Int)=some (eM (sto m tg)):=by
 have h12:=h.n12
 unfold F33 F83
 have h1:=Dw2 h12 m.own.length 0 f (by omega) (by omega)
 rw[List.replicate_zero]at h1
 refine sbe h1 ?_
 exact Cb3 h ht m.own.length 0 f (by omega) (by omega)
end
section
theorem He8{m:Mdl}{g s:Nat}(hm:okS g m)(hc:U6 m)(hs:s<m.ch.length):m.ch.getD s []=[fc m s]:=by
 obtain⟨_,t,ht⟩:=Ci5 hm hs
 have h1:=hc _ (List.getElem_mem hs)
 have:m.ch.getD s []=m.ch[s]:=by rw[List.getD_eq_getElem?_getD,List.getElem?_eq_getElem hs];rfl
 rw[this]at ht⊢
 rw[ht,List.length_cons]at h1
 rw[ht,List.eq_nil_of_length_eq_zero (by omega:t.length=0)]
theorem Gc1{m:Mdl}{tg s:Nat}(hs:s<m.ch.length):fc (sto m tg) s=if tg.testBit s then⟨(fc m s).act,(fc m s).gain,[((s:Int),1)]⟩ else fc m s:=by
 rw[fc,show(sto m tg).ch.getD s []=_ from Z6 hs];rfl
theorem Eb0{m:Mdl}{g tg:Nat}(hm:okS g m)(hc:U6 m):∀k,vls m tg k=bwk (sto m tg) k (bgn m tg)
 |0=>rfl
 |k+1=>by
  rw[vls,Cq7,←Eb0 hm hc k]
  unfold nxt bw
  rw[Ad9]
  refine List.map_congr_left fun s hs=> ?_
  have hs:=List.mem_range.1 hs
  rw[Gc1 hs]
  unfold stp
  cases hb:tg.testBit s with
  |true=>
   rw[if_pos rfl,if_pos rfl]
   have hv:(vls m tg k).getD s 0=1:=by rw[List.getD_eq_getElem?_getD,Fo1 hm k s hs hb];rfl
   unfold mix
   rw[Bs1,Bs1,show((s:Int)).toNat=s by omega,hv]
   show(1:Rat)=0+1*1
   rw[Rat.mul_one,Rat.zero_add]
  |false=>
   rw[if_neg (by decide),if_neg (by decide),He8 hm hc hs];rfl
theorem Gw0{m:Mdl}(h:okM m)(hc:U6 m){tg s k:Nat}(hs:s<m.ch.length):dt (aft (sto m tg) s k) (bgn m tg) m.ch.length=(vls m tg k).getD s 0:=by
 have hS:=M7 (Dz1 h tg).1
 have:=Hc3 (m:=sto m tg) (s:=s) (fun t ht b hb=>((Ci5 hS ht).1.2 b hb).2.2) (by rw[Ad9];exact hs) k (bgn m tg)
 rw[Ad9]at this
 rw[this,Eb0 (M7 h) hc]
def gv(m:Mdl):List Rat:=(List.range m.ch.length).map fun s=>(fc m s).gain
theorem Et7{m:Mdl}{s:Nat}(hs:s<m.ch.length):(gv m).getD s 0=(fc m s).gain:=Z6 (f:=fun s=>(fc m s).gain) hs
theorem Ej9{m:Mdl}{g s j:Nat}(hm:okS g m)(hc:U6 m)(hs:s<m.ch.length):(gns m (j+1)).getD s 0=(gv m).getD s 0+(bw m (gns m j)).getD s 0:=by
 rw[Et7 hs,show(bw m (gns m j)).getD s 0=mix (gns m j) (fc m s) from Z6 (f:=fun s=>mix (gns m j) (fc m s)) hs,gns,show(nxg m (gns m j)).getD s 0=stg m (gns m j) s from Z6 hs]
 unfold stg
 rw[He8 hm hc hs];rfl
theorem Er7{p v a b:List Rat}{n:Nat}(h:∀j,j<n→v.getD j 0=a.getD j 0+b.getD j 0):∀i,i≤n→dt p v i=dt p a i+dt p b i
 |0,_=>by rw[dt,dt,dt,Rat.add_zero]
 |i+1,hi=>by
  rw[dt,dt,dt,Er7 h i (by omega),h i (by omega)]
  grind
def sgm(m:Mdl)(s:Nat):Nat→Rat
 |0=>0
 |i+1=>sgm m s i+dt (aft m s i) (gv m) m.ch.length
theorem Ev8{m:Mdl}{g s k:Nat}(hm:okS g m)(hc:U6 m)(hs:s<m.ch.length):∀i,i≤k→sgm m s i+dt (aft m s i) (gns m (k-i)) m.ch.length=(gns m k).getD s 0
 |0,_=>by rw[sgm,aft,Dp4 hs _ (Nat.le_refl _),if_pos hs,Rat.zero_add];rfl
 |i+1,hi=>by
  have ih:=Ev8 (k:=k) hm hc hs i (by omega)
  rw[show k-i=(k-(i+1))+1 by omega,Er7 (fun j hj=>Ej9 hm hc hj) _ (Nat.le_refl _),←Ff8 (fun t ht b hb=>((Ci5 hm ht).1.2 b hb).2.2) _ (Nat.le_refl _)]at ih
  rw[sgm,aft,←ih]
  grind
theorem Dp3{m:Mdl}{p:List Rat}:∀i,dt p (bgn m 0) i=0
 |0=>rfl
 |i+1=>by
  have:(bgn m 0).getD i 0=0:=by
   unfold bgn
   rw[List.getD_eq_getElem?_getD,List.getElem?_map]
   cases (List.range m.own.length)[i]? with
   |none=>rfl
   |some x=>rw[Option.map_some,Nat.zero_testBit];rfl
  rw[dt,Dp3 i,this,Rat.mul_zero,Rat.add_zero]
theorem Gx5{m:Mdl}{g s k:Nat}(hm:okS g m)(hc:U6 m)(hs:s<m.ch.length):sgm m s k=(gns m k).getD s 0:=by
 have:=Ev8 hm hc hs k (Nat.le_refl k)
 rw[Nat.sub_self,gns,Dp3,Rat.add_zero]at this
 exact this
theorem Eu6{v:List Rat}{x:Rat}:∀(l:List (Int×Rat)) (y:Rat),(∀b∈l,v.getD b.1.toNat 0=x)→Bs1 v l (x*y)=x*Cc1 l y
 |[],y,_=>rfl
 |b::l,y,h=>by
  rw[Bs1,Cc1,h b List.mem_cons_self,show x*y+b.2*x=x*(y+b.2) by grind]
  exact Eu6 l _ fun c hc=>h c (List.mem_cons_of_mem _ hc)
def cR(k:Nat):Rat:=Rat.divInt (k:Int) 1
theorem Fe5(k:Nat):cR (k+1)=1+cR k:=by
 unfold cR
 rw[show(1:Rat)=Rat.divInt 1 1 from rfl,Rat.divInt_add_divInt _ _ (by decide) (by decide)]
 congr 1
 omega
theorem Ds5{m:Mdl}(h:okM m):∀k,gns (one m) k=List.replicate m.ch.length (cR k)
 |0=>by
  have hle:=h.len
  unfold gns bgn
  refine List.ext_getElem (by simp[one,hle]) fun j h1 h2=> ?_
  simp[cR]
 |k+1=>by
  have h1:(one m).ch.length=m.ch.length:=by simp[one]
  rw[gns,Ds5 h k,nxg,h1,Fe5]
  refine List.ext_getElem (by simp) fun j hj h2=> ?_
  simp at h2
  rw[List.getElem_map,List.getElem_range,List.getElem_replicate]
  unfold stg
  have hrow:(one m).ch.getD j []=m.ch[j].map fun c=>⟨c.act,1,c.next⟩:=by
   unfold one;rw[List.getD_eq_getElem?_getD,List.getElem?_map,List.getElem?_eq_getElem h2];rfl
  rw[hrow]
  have hl:=h.cl _ (List.getElem_mem h2)
  refine Cf9 (P:=fun y=>y=1+cR k) (by
   intro e
   have:=congrArg List.length e
   simp at this
   rw[this]at hl;simp at hl) fun y hy=> ?_
  obtain⟨c',hc',rfl⟩:=List.mem_map.1 hy
  obtain⟨c,hc,rfl⟩:=List.mem_map.1 hc'
  have hbr:=(Dv7 h (List.getElem_mem h2) hc).2.2.2.1
  have hN:=Fk9 h.n12 hbr (H8 h).1 (Dv7 h (List.getElem_mem h2) hc).2.2.2.2
  unfold gm mix
  have:=Eu6 (v:=List.replicate m.ch.length (cR k)) (x:=cR k) c.next 0 fun b hb=>by
   have:=(hN.2 b hb).2.2
   rw[List.getD_eq_getElem?_getD,List.getElem?_replicate,if_pos (by rw[h.len];exact this)];rfl
  rw[Rat.mul_zero,hbr.2.2,Rat.mul_one]at this
  rw[this]
theorem Eh4{p v:List Rat}{D B E C:Nat}(hp:∀x∈p,fr D B x)(hv:∀x∈v,fr E C x)(hD:0<D)(hE:0<E):∀i,i≤p.length→i≤v.length→fr (D*E) (B*C*i) (dt p v i)
 |0,_,_=>I6 (S7 (Nat.mul_pos hD hE)) (by omega)
 |i+1,h1,h2=>by
  have:=Au5 (Eh4 hp hv hD hE i (by omega) (by omega)) (Bj1 (frD hp (show i<p.length by omega)) (frD hv (show i<v.length by omega)))
  rw[dt]
  rwa [←Nat.mul_succ]at this
theorem Fj1{m:Mdl}(h:okM m):∀x∈gv m,fr (gG m) 9999 x:=fun x hx=>by
 obtain⟨s,hs,rfl⟩:=List.mem_map.1 hx
 exact Ck2 h _ (List.getElem_mem (List.mem_range.1 hs)) _ (Es4 h (List.mem_range.1 hs))
theorem Cf1{m:Mdl}{g s i:Nat}(hm:okS g m)(hg:0<g)(hi:i≤5):∀x∈aft m s i,fr (g^5) (144^5) x:=fun x hx=>
 I6 (Es5 (Cp0 hm hg i x hx) (Nat.pow_dvd_pow g hi) (Nat.pow_pos hg)) (Nat.pow_le_pow_right (by decide) hi)
theorem Gf7{m:Mdl}(h:okM m){s:Nat}:∀i,i≤5→fr (gP m^5*gG m) (144^5*9999*(12*i)) (sgm m s i)
 |0,_=>I6 (S7 (Nat.mul_pos (Nat.pow_pos (H8 h).1) (Ad3 h).1)) (by omega)
 |i+1,hi=>by
  have hle:=(M7 h).le
  have h1:=Eh4 (Cf1 (s:=s) (M7 h) (H8 h).1 (show i≤5 by omega)) (Fj1 h) (Nat.pow_pos (H8 h).1) (Ad3 h).1 m.ch.length (by rw[Ab9];omega) (by simp[gv])
  have h2:=Au5 (Gf7 h (s:=s) i (by omega)) h1
  rw[sgm]
  refine I6 h2 ?_
  rw[←Nat.mul_add]
  exact Nat.mul_le_mul_left _ (by omega)
theorem big{m:Mdl}(h:okM m):gP m^5*gG m≤10^24∧144^5*9999*72≤10^20:=by
 obtain⟨_,b,_⟩:=H8 h
 obtain⟨_,b',_⟩:=Ad3 h
 refine⟨?_,by decide⟩
 have h1:gP m^5≤10000^5:=Nat.pow_le_pow_left (by omega) 5
 have h2:gP m^5*gG m≤10000^5*10000:=Nat.mul_le_mul h1 (by omega)
 have e:(10000:Nat)^5*10000=10^24:=by decide
 omega
theorem Bj8{m:Mdl}(h:okM m){B:Nat}{x:Rat}(hx:fr (gP m^5*gG m) B x)(hB:B≤144^5*9999*72):rs x:=Ac4 hx (big h).1 (Nat.le_trans hB (big h).2) (by decide)
theorem Dz9{m:Mdl}(h:okM m){s i0:Nat}(hi0:i0≤5){X:Rat}(hX:fr (gP m^5*gG m) (144^5*9999*(12*i0)) X){y4:List (List UInt8)×Int}(h4:y4.1.length=m.ch.length){v30:Int}:
 ∀(r t:Nat),t+r=m.ch.length→Ev fun f=>∀(rec_:List UInt8→Int→Option Bool) k,r<k→Ce1 f v30 (eM m) y4 ((aft m s i0).map T,0) rec_ k (T (X+dt (aft m s i0) (gv m) t)) (t:Int)=rec_ (T (X+dt (aft m s i0) (gv m) m.ch.length)) (IntKind.i64.wrap (v30+1))
 |0,t,ht=>Ev.of fun f rec_ k hk=>by
  obtain⟨k,rfl⟩:∃j,k=j+1:=⟨k-1,by omega⟩
  unfold Ce1
  rw[List.length_map,h4,decide_eq_false (by omega),show t=m.ch.length by omega];rfl
 |r+1,t,ht=>by
  have htl:t<m.ch.length:=by omega
  have hle:=(M7 h).le
  have hal:(aft m s i0).length=m.ch.length:=Ab9 m s i0
  have hA:=Cf1 (s:=s) (M7 h) (H8 h).1 hi0
  have g0:=(H8 h).1;have g1:=(Ad3 h).1
  have hat:=frD hA (show t<(aft m s i0).length by omega)
  have hgt:=frD (Fj1 h) (show t<(gv m).length by simpa[gv] using htl)
  have hm:=Bj1 hat hgt
  have hd:=fun(j:Nat) (hj:j≤m.ch.length)=>Eh4 hA (Fj1 h) (Nat.pow_pos g0) g1 j (by omega) (by simpa[gv] using hj)
  have hs:=Au5 hX (hd t (by omega))
  have z1:rs ((aft m s i0).getD t 0):=Bj8 h (Ag5 hat g1) (by decide)
  have z2:rs ((gv m).getD t 0):=Bj8 h (by have:=Ag5 hgt (Nat.pow_pos g0:0<gP m^5);rwa [Nat.mul_comm]at this) (by decide)
  have z3:rs ((aft m s i0).getD t 0*(gv m).getD t 0):=Bj8 h hm (by decide)
  have z4:rs (X+dt (aft m s i0) (gv m) t):=Bj8 h hs (by rw[←Nat.mul_add];exact Nat.mul_le_mul_left _ (by omega))
  refine(((Gq6 z1 z2).and (Fz0 z4 z3)).and (Dz9 (s:=s) h hi0 hX h4 (v30:=v30) r (t+1) (by omega))).mono fun f hf rec_ k hk=> ?_
  obtain⟨⟨h1,h2⟩,h3⟩:=hf
  obtain⟨k,rfl⟩:∃j,k=j+1:=⟨k-1,by omega⟩
  have e3:=h3 rec_ k (by omega)
  rw[dt,←Rat.add_assoc]at e3
  obtain⟨_,tl,hrow⟩:=Ci5 (M7 h) htl
  have hgc:C4 (eM m).Choices (t:Int)=some (eL (fc m t::tl)):=by
   rw[←hrow,List.getD_eq_getElem?_getD,List.getElem?_eq_getElem htl,show(eM m).Choices=m.ch.map eL from rfl,D2 htl];rfl
  have hga:C4 ((aft m s i0).map T) (t:Int)=some (T ((aft m s i0).getD t 0)):=by
   rw[D2 (by omega),List.getD_eq_getElem?_getD,List.getElem?_eq_getElem (show t<(aft m s i0).length by omega)];rfl
  unfold Ce1
  rw[List.length_map,h4,decide_eq_true (by omega)]
  simp only[cond_true]
  refine sbe hga (sbe hgc (sbe (x:=eC (fc m t)) rfl (sbe (x:=T ((aft m s i0).getD t 0*(gv m).getD t 0)) ?_ (sbe h2 ?_))))
  ·rw[Et7 htl]at h1⊢;exact h1
  ·rw[wi t (by omega)];exact e3
theorem Dz8{m:Mdl}(h:okM m)(hc:U6 m){s kk:Nat}{d2:Int}(hs:s<m.ch.length)(hk5:kk≤5)(hd2:IntKind.i64.wrap (Int.tmod d2 6)=(kk:Int)){y4 y5:List (List UInt8)×Int}(h4:y4.1.length=m.ch.length){V:List UInt8}(g4:C4 y4.1 (s:Int)=some V)(g5:C4 y5.1 (s:Int)=some (T (sgm m s kk))):
 ∀(r i:Nat),i+r=kk→Ev fun f=>∀(rec_:Int→Option Bool) k,r<k→Bf6 f d2 (s:Int) V (eM m) y4 y5 ((ind m.ch.length s).map T) rec_ k (T (sgm m s i)) (i:Int)=rec_ (IntKind.i64.wrap ((s:Int)+1))
 |0,i,hi=>Ev.of fun f rec_ k hk=>by
  obtain⟨k,rfl⟩:∃j,k=j+1:=⟨k-1,by omega⟩
  unfold Bf6
  rw[hd2,decide_eq_false (by omega),show i=kk by omega,g4,sb,g5]
  simp only[cond_false,beq_self_eq_true,Bool.not_true,sb]
 |r+1,i,hi=>by
  have hle:=(M7 h).le
  have hlen:=h.len
  have hal:(aft m s i).length=m.ch.length:=Ab9 m s i
  refine(((Q7 h hc (s:=s) (n:=i) (by omega) (by omega)).and (Af3 hal (by omega) (Dm2 (M7 h) (H8 h).1 (H8 h).2.1 (by omega)))).and ((Dz9 h (s:=s) (show i≤5 by omega) (Gf7 (s:=s) h i (by omega)) h4 (v30:=(i:Int)) m.ch.length 0 (by omega)).and ((Dz8 h hc hs hk5 hd2 h4 g4 g5 r (i+1) (by omega)).and (Ev.ge 20)))).mono fun f hf rec_ k hk=> ?_
  obtain⟨⟨h1,h2⟩,h3,h4',h5⟩:=hf
  obtain⟨k,rfl⟩:∃j,k=j+1:=⟨k-1,by omega⟩
  rw[←hlen]at h1
  unfold Bf6
  rw[hd2,decide_eq_true (by omega),h1]
  simp only[cond_true,sb]
  rw[show((0:Int) !=0)=false from rfl]
  simp only[cond_false]
  rw[List.length_map,h4,h2]
  simp only[sb,Bool.not_true,cond_false]
  have e3:=h3 (Bf6 f d2 (s:Int) V (eM m) y4 y5 ((ind m.ch.length s).map T) rec_ k) f (by omega)
  rw[dt,Rat.add_zero]at e3
  refine e3.trans ?_
  rw[wi i (by omega)]
  exact h4' rec_ k (by omega)
theorem Dz7{m:Mdl}(h:okM m){s kk tg:Nat}{d2:Int}(hk5:kk≤5)(ht:tg<18446744073709551616){y4 y5:List (List UInt8)×Int}(h4:y4.1.length=m.ch.length):
 ∀(r t:Nat),t+r=m.ch.length→Ev fun f=>∀(rec_:Int→Option Bool) k,r<k→Bl5 f d2 (s:Int) (eM m) (tg:Int) y4 y5 ((ind m.ch.length s).map T) ((aft (sto m tg) s kk).map T,0) rec_ k (T (dt (aft (sto m tg) s kk) (bgn m tg) t)) (t:Int)=Bf6 f d2 (s:Int) (T (dt (aft (sto m tg) s kk) (bgn m tg) m.ch.length)) (eM m) y4 y5 ((ind m.ch.length s).map T) rec_ f [48] 0
 |0,t,htr=>Ev.of fun f rec_ k hk=>by
  obtain⟨k,rfl⟩:∃j,k=j+1:=⟨k-1,by omega⟩
  unfold Bl5
  rw[List.length_map,h4,decide_eq_false (by omega),show t=m.ch.length by omega];rfl
 |r+1,t,htr=>by
  have htl:t<m.ch.length:=by omega
  have hS:=(Dz1 h tg).1
  have hle:=(M7 h).le
  have hlen:=h.len
  have hal:(aft (sto m tg) s kk).length=m.ch.length:=by rw[Ab9,Ad9]
  have hA:=Cf1 (s:=s) (M7 hS) (H8 hS).1 hk5
  have g0:=(H8 hS).1;have g1:=(Ad3 hS).1
  have hat:=frD hA (show t<(aft (sto m tg) s kk).length by omega)
  have hb1:∀x∈bgn m tg,fr (gG (sto m tg)) 1 x:=fun x hx=>by
   obtain⟨i,_,rfl⟩:=List.mem_map.1 hx
   split
   ·exact Bw6 g1
   ·exact I6 (S7 g1) (by decide)
  have hbl:(bgn m tg).length=m.ch.length:=by simp[bgn,hlen]
  have hd:=Eh4 hA hb1 (Nat.pow_pos g0) g1 t (by omega) (by omega)
  have z1:rs ((aft (sto m tg) s kk).getD t 0):=Bj8 hS (Ag5 hat g1) (by decide)
  have z4:rs (dt (aft (sto m tg) s kk) (bgn m tg) t):=Bj8 hS hd (by
   have:144^5*1*t≤144^5*1*12:=Nat.mul_le_mul_left _ (by omega)
   refine Nat.le_trans this (by decide))
  refine((Fz0 z4 z1).and (Dz7 h (d2:=d2) (s:=s) (y5:=y5) hk5 ht h4 r (t+1) (by omega))).mono fun f hf rec_ k hk=> ?_
  obtain⟨h2,h3⟩:=hf
  obtain⟨k,rfl⟩:∃j,k=j+1:=⟨k-1,by omega⟩
  have e3:=h3 rec_ k (by omega)
  have hga:C4 ((aft (sto m tg) s kk).map T) (t:Int)=some (T ((aft (sto m tg) s kk).getD t 0)):=by
   rw[D2 (by omega),List.getD_eq_getElem?_getD,List.getElem?_eq_getElem (show t<(aft (sto m tg) s kk).length by omega)];rfl
  have hbt:(bgn m tg).getD t 0=if tg.testBit t then 1 else 0:=Z6 (f:=fun s=>if tg.testBit s then(1:Rat) else 0) (by omega)
  rw[dt,hbt]at e3
  unfold Bl5
  rw[List.length_map,h4,decide_eq_true (by omega)]
  simp only[cond_true]
  rw[Et8 ht (by omega),sb]
  unfold Dk3
  cases hb:tg.testBit t with
  |true=>
   rw[hb,if_pos rfl,Rat.mul_one]at e3
   simp only[cond_true]
   refine sbe hga (sbe h2 ?_)
   rw[wi t (by omega)]
   exact e3
  |false=>
   rw[hb,if_neg (by decide),Rat.mul_zero,Rat.add_zero]at e3
   simp only[cond_false]
   rw[wi t (by omega)]
   exact e3
theorem Dz6{m:Mdl}(h:okM m)(hc:U6 m){kk tg:Nat}{d:B0}{d2:Int}(hk5:kk≤5)(ht:tg<18446744073709551616)(hd2:IntKind.i64.wrap (Int.tmod d2 6)=(kk:Int)):
 ∀(r s:Nat),s+r=m.ch.length→Ev fun f=>∀k,r<k→Aq5 f d d2 (eM m) (tg:Int) ((vls m tg kk).map T,0) ((gns m kk).map T,0) (eM (sto m tg)) k (s:Int)=Option.bind (Fa0 f d) fun y269=>Bf7 f d2 y269 f 0 y269.2
 |0,s,hs=>Ev.of fun f k hk=>by
  obtain⟨k,rfl⟩:∃j,k=j+1:=⟨k-1,by omega⟩
  unfold Aq5
  rw[List.length_map,List.length_map,Ae1 (M7 h),decide_eq_false (by omega)];rfl
 |r+1,s,hs=>by
  have hsl:s<m.ch.length:=by omega
  have hle:=(M7 h).le
  have hlen:=h.len
  obtain⟨hS,hSc⟩:=Dz1 h tg
  have hso:(sto m tg).own.length=m.ch.length:=by simp[sto,hlen]
  have hal:(aft (sto m tg) s kk).length=m.ch.length:=by rw[Ab9,Ad9]
  have hvl:((vls m tg kk).map T).length=m.ch.length:=by rw[List.length_map,Ae1 (M7 h)]
  have hgl:((gns m kk).map T).length=m.ch.length:=by rw[List.length_map,Ac6 (M7 h)]
  have hv4:C4 ((vls m tg kk).map T) (s:Int)=some (T (dt (aft (sto m tg) s kk) (bgn m tg) m.ch.length)):=by
   rw[Gw0 h hc hsl,D2 (by rw[Ae1 (M7 h)];exact hsl),List.getD_eq_getElem?_getD,List.getElem?_eq_getElem (show s<(vls m tg kk).length by rw[Ae1 (M7 h)];exact hsl)];rfl
  have hv5:C4 ((gns m kk).map T) (s:Int)=some (T (sgm m s kk)):=by
   rw[Gx5 (M7 h) hc hsl,D2 (by rw[Ac6 (M7 h)];exact hsl),List.getD_eq_getElem?_getD,List.getElem?_eq_getElem (show s<(gns m kk).length by rw[Ac6 (M7 h)];exact hsl)];rfl
  refine(((Q7 hS hSc (s:=s) (n:=kk) (by omega) (by omega)).and (Af3 hal (by omega) (Dm2 (M7 hS) (H8 hS).1 (H8 hS).2.1 (by omega)))).and (((Dz7 h (s:=s) (d2:=d2) (y4:=((vls m tg kk).map T,0)) (y5:=((gns m kk).map T,0)) hk5 ht hvl m.ch.length 0 (by omega)).and (Dz8 h hc hsl hk5 hd2 (y4:=((vls m tg kk).map T,0)) (y5:=((gns m kk).map T,0)) hvl hv4 hv5 kk 0 (by omega))).and ((Dz6 h hc (d:=d) hk5 ht hd2 r (s+1) (by omega)).and (Ev.ge 30)))).mono fun f hf k hk=> ?_
  obtain⟨⟨h1,h2⟩,⟨h3,h4⟩,h5,h6⟩:=hf
  obtain⟨k,rfl⟩:∃j,k=j+1:=⟨k-1,by omega⟩
  rw[hso]at h1
  unfold Aq5
  rw[List.length_map,hvl,decide_eq_true (by omega)]
  simp only[cond_true]
  rw[Gp3 hle (by omega),sb,hd2,h1,sb]
  simp only[show((0:Int) !=0)=false from rfl,cond_false]
  rw[h2]
  simp only[sb,Bool.not_true,cond_false]
  have e3:=h3 (Aq5 f d d2 (eM m) (tg:Int) ((vls m tg kk).map T,0) ((gns m kk).map T,0) (eM (sto m tg)) k) f (by omega)
  rw[dt,T0]at e3
  refine e3.trans ?_
  have e4:=h4 (Aq5 f d d2 (eM m) (tg:Int) ((vls m tg kk).map T,0) ((gns m kk).map T,0) (eM (sto m tg)) k) f (by omega)
  rw[sgm,T0]at e4
  refine e4.trans ?_
  rw[wi s (by omega)]
  exact h5 k (by omega)
def Ec6(c:Cho):Cho:=⟨c.act,1,c.next⟩
theorem Dv9{m:Mdl}(h:okM m){s:Nat}(hs:s<m.ch.length){rec_:Int→List (List A1)→Option Bool}:∀(r j k:Nat),j+r=m.ch[s].length→r<k→Ce2 (s:Int) (eL m.ch[s]) rec_ k (j:Int) ((tur ((one m).ch.map eL) (m.ch.map eL) s).set s (tur (eL (m.ch[s].map Ec6)) (eL m.ch[s]) j))=rec_ (IntKind.i64.wrap ((s:Int)+1)) (tur ((one m).ch.map eL) (m.ch.map eL) (s+1))
 |_,_,0,_,h=>absurd h (by omega)
 |0,j,k+1,hj,_=>by
  have e1:((one m).ch.map eL).length=m.ch.length:=by simp[one]
  have e2:(m.ch.map eL).length=m.ch.length:=by simp
  have e3:(eL (m.ch[s].map Ec6)).length=m.ch[s].length:=by simp[eL]
  have e4:(eL m.ch[s]).length=m.ch[s].length:=by simp[eL]
  unfold Ce2
  rw[List.length_map,e4,decide_eq_false (by omega),show j=m.ch[s].length by omega,Fn8 e3 e4,Br3 e1 e2 hs (x:=eL (m.ch[s].map Ec6)) (by
   unfold one;rw[List.getElem?_map,List.getElem?_map,List.getElem?_eq_getElem hs];rfl)];rfl
 |r+1,j,k+1,hj,hk=>by
  have hjl:j<m.ch[s].length:=by omega
  have h4:=h.cl _ (List.getElem_mem hs)
  have e1:((one m).ch.map eL).length=m.ch.length:=by simp[one]
  have e2:(m.ch.map eL).length=m.ch.length:=by simp
  have e3:(eL (m.ch[s].map Ec6)).length=m.ch[s].length:=by simp[eL]
  have e4:(eL m.ch[s]).length=m.ch[s].length:=by simp[eL]
  have hlt:s<(tur ((one m).ch.map eL) (m.ch.map eL) s).length:=by rw[Cm2 e1 e2 (by omega)];exact hs
  have hget:C4 ((tur ((one m).ch.map eL) (m.ch.map eL) s).set s (tur (eL (m.ch[s].map Ec6)) (eL m.ch[s]) j)) (s:Int)=some (tur (eL (m.ch[s].map Ec6)) (eL m.ch[s]) j):=by
   rw[M4,List.getElem?_set_self hlt]
  have hgj:C4 (tur (eL (m.ch[s].map Ec6)) (eL m.ch[s]) j) (j:Int)=some (eC m.ch[s][j]):=by
   rw[M4,Cm1 e3 e4 hjl];unfold eL;rw[List.getElem?_map,List.getElem?_eq_getElem hjl];rfl
  unfold Ce2
  rw[List.length_map,e4,decide_eq_true (by omega)]
  simp only[cond_true]
  refine sbe hget (sbe hgj (sbe rfl (sbe rfl ?_)))
  rw[tn,show Int.toNat (s:Int)=s by omega,List.set_set,show(⟨(eC m.ch[s][j]).Act,[49],(eC m.ch[s][j]).Next⟩:A1)=eC (Ec6 m.ch[s][j]) by unfold eC Ec6;rw[T1],Br3 e3 e4 hjl (x:=eC (Ec6 m.ch[s][j])) (by
   unfold eL;rw[List.getElem?_map,List.getElem?_map,List.getElem?_eq_getElem hjl];rfl),wi j (by omega)]
  exact Dv9 h hs r (j+1) k (by omega) (by omega)
theorem Dv8{m:Mdl}(h:okM m){f n:Nat}{d2:Int}(h5:m.ch.length≤5)(hd2:IntKind.i64.wrap (Int.tmod d2 61)=(n:Int))(h1:F14 f (eM (one m)) (n:Int)=some ((gns (one m) n).map T,0))(h2:F39 f (n:Int) 1=some (T (cR n)))(hf:2000≤f):
 ∀(r s k:Nat),s+r=m.ch.length→r<k→Bf7 f d2 (m.own,m.ch.map eL) k (s:Int) (tur ((one m).ch.map eL) (m.ch.map eL) s)=some true
 |_,_,0,_,h=>absurd h (by omega)
 |0,s,k+1,hs,_=>by
  have e1:((one m).ch.map eL).length=m.ch.length:=by simp[one]
  have e2:(m.ch.map eL).length=m.ch.length:=by simp
  have hpos:=h.n1
  have hlen:=h.len
  unfold Bf7
  rw[List.length_map,e2,decide_eq_false (by omega),show s=m.ch.length by omega,Fn8 e1 e2,hd2]
  simp only[cond_false]
  rw[show(⟨m.own,(one m).ch.map eL⟩:A9)=eM (one m) from rfl,h1,sb]
  simp only[show((0:Int)==0)=true from rfl,cond_true]
  rw[h2,sb,List.length_map,←hlen]
  have hr:=Gw9 (n:=m.ch.length) (T (cR n)) (by omega) (by omega) (f-20)
  rw[show f-20+20=f by omega]at hr
  rw[hr,sb,Ds5 h,List.map_replicate,Gb9 (by rw[List.length_replicate];omega) (by omega)]
  rfl
 |r+1,s,k+1,hs,hk=>by
  have hsl:s<m.ch.length:=by omega
  have e1:((one m).ch.map eL).length=m.ch.length:=by simp[one]
  have e2:(m.ch.map eL).length=m.ch.length:=by simp
  have h4:=h.cl _ (List.getElem_mem hsl)
  have hget:C4 (tur ((one m).ch.map eL) (m.ch.map eL) s) (s:Int)=some (eL m.ch[s]):=by
   rw[M4,Cm1 e1 e2 hsl,List.getElem?_map,List.getElem?_eq_getElem hsl];rfl
  unfold Bf7
  rw[List.length_map,e2,decide_eq_true (by omega)]
  simp only[cond_true]
  refine sbe hget (sbe rfl ?_)
  rw[show Int.toNat (s:Int)=s by omega]
  have h7:=Dv9 h hsl (rec_:=Bf7 f d2 (m.own,m.ch.map eL) k) m.ch[s].length 0 f (by omega) (by omega)
  rw[Fn7]at h7
  refine h7.trans ?_
  rw[wi s (by omega)]
  exact Dv8 h h5 hd2 h1 h2 hf r (s+1) k (by omega) (by omega)
theorem Dt7{d:B0}{b n:Int}(hd:Aj8 d)(b0:0≤b)(b1:b<65536)(hn:0≤n):∃fuel,F8 fuel d b n=some true:=by
 obtain⟨m0,hm0,hE⟩:=Eh2 hd
 have hM0:=hm0.ok
 obtain⟨hM,hC⟩:=Fy0 hM0
 have h12:=hM.n12
 have hlen:=hM.len
 have hlen0:=hM0.len
 have c5:m0.own.length≤5:=by rw[hm0.own];simp[Bs2];exact(Au3 d).2
 obtain⟨tg,htg,hset⟩:=Fm8 (n:=(chn m0).own.length) (b:=b) (by omega) b0 (by omega)
 have h62:(2:Nat)^(chn m0).own.length≤2^12:=Nat.pow_le_pow_right (by decide) h12
 have ht:tg<18446744073709551616:=by omega
 obtain⟨k,hk⟩:∃k:Nat,n%6=(k:Int):=⟨(n%6).toNat,by omega⟩
 obtain⟨q,hq⟩:∃q:Nat,n%61=(q:Int):=⟨(n%61).toNat,by omega⟩
 have hd2:IntKind.i64.wrap (Int.tmod n 6)=(k:Int):=by rw[(tdm hn).2,hk,E1 (i:=(k:Int)) (by omega) (by omega)]
 have hd61:IntKind.i64.wrap (Int.tmod n 61)=(q:Int):=by rw[(tdm hn).2,hq,E1 (i:=(q:Int)) (by omega) (by omega)]
 have hSS:=M7 hM
 have hvl:=Ae1 hSS tg k
 have hgl:=Ac6 hSS k
 have hgr:=Ds6 hSS (Ck2 hM) (H8 hM).1 (H8 hM).2.1 (Ad3 hM).1 (Ad3 hM).2.1 (show k≤61 by omega)
 have hvr:=Ew3 (tg:=tg) hSS (H8 hM).1 (H8 hM).2.1 (show k≤61 by omega)
 obtain⟨f,hf⟩:=(((hE.and (Eb5 hM htg (n:=k) (by omega))).and ((Ct7 hM (n:=k) (by omega)).and (Ct7 (Ge3 hM0) (n:=q) (by omega)))).and (((Af3 hvl (by omega) hvr).and (Af3 hgl (by omega) hgr)).and (((Dz6 hM hC (d:=d) (show k≤5 by omega) ht hd2 (chn m0).ch.length 0 (by omega)).and (Gq7 (n:=(q:Int)) (d:=1) (by omega) (by omega) (by decide) (by decide))).and (Ev.ge 3000)))).ex
 obtain⟨⟨⟨h1,h2⟩,h3,h4⟩,⟨h5,h6⟩,⟨h7,h8⟩,h9⟩:=hf
 refine⟨f,?_⟩
 have hw:=Em9 (f-200)
 rw[show f-200+200=f by omega]at hw
 unfold F8
 rw[hw,sb]
 simp only[Bool.not_true,cond_false]
 rw[Eg3 hM0 h1 (by omega),sb,List.length_map,show(eM (chn m0)).Owner=(chn m0).own from rfl,hset,sb,hd2,h2,sb,h3,sb]
 simp only[show((0:Int) !=0)=false from rfl,cond_false]
 rw[←hlen,h5,sb]
 simp only[Bool.not_true,cond_false]
 rw[h6]
 simp only[sb,Bool.not_true,cond_false]
 rw[De6 hM ht (by omega),sb]
 have e7:=h7 f (by omega)
 refine e7.trans ?_
 rw[mo,h1]
 have e6:=Dv8 hM0 (by omega) hd61 h4 h8 (by omega) m0.ch.length 0 f (by omega) (by omega)
 rw[Fn7]at e6
 exact e6
end
end Go.Proofs.YtfgbhfphjmmiaaaGreatDoor
end
section
namespace Go.Proofs.YtfgbhfphjmmiaaaGreatDoor.stepsSums
open Go.ChangeShapes Go.WideShapes Go.ChangeAt Go.RowKit Kx
open Go.ChangeMaps (open_string shut_string)
set_option linter.unusedVariables false
set_option maxRecDepth 100000
section
def wf5(x:Int):Prop:=(Lit.int .u8 x).wf=true
theorem Da9{n:Nat}{ds:List Dat}(h:Fit Tryz.prog (n+1) 5 ds):∃x:Int,ds=[.int .u8 x]∧wf5 x:=by
 exact Dk7 Tryz.underlying5 h
def Gg9(x:Df7):Prop:=wf5 x.a0∧wf5 x.a1∧wf5 x.a2
theorem Fy4{n:Nat}{ds:List Dat}(h:Fit Tryz.prog (n+2) 115 ds):∃x:Df7,ds=[.int .u8 x.a0,.int .u8 x.a1,.int .u8 x.a2]∧Gg9 x:=by
 have h0:=Bt0 Tryz.underlying115 h
 obtain⟨_,r0,rfl,g0,h1⟩:=h0
 obtain⟨x0,rfl,w0⟩:=Da9 (n:=n+0) g0
 obtain⟨_,r1,rfl,g1,h2⟩:=h1
 obtain⟨x1,rfl,w1⟩:=Da9 (n:=n+0) g1
 obtain⟨_,r2,rfl,g2,h3⟩:=h2
 obtain⟨x2,rfl,w2⟩:=Da9 (n:=n+0) g2
 cases (show r2=[] from h3)
 exact⟨⟨x0,x1,x2⟩,rfl,⟨w0,w1,w2⟩⟩
def Gh0(x:Df6):Prop:=wf5 x.a0∧wf5 x.a1
theorem Fy5{n:Nat}{ds:List Dat}(h:Fit Tryz.prog (n+2) 116 ds):∃x:Df6,ds=[.int .u8 x.a0,.int .u8 x.a1]∧Gh0 x:=by
 have h0:=Bt0 Tryz.underlying116 h
 obtain⟨_,r0,rfl,g0,h1⟩:=h0
 obtain⟨x0,rfl,w0⟩:=Da9 (n:=n+0) g0
 obtain⟨_,r1,rfl,g1,h2⟩:=h1
 obtain⟨x1,rfl,w1⟩:=Da9 (n:=n+0) g1
 cases (show r1=[] from h2)
 exact⟨⟨x0,x1⟩,rfl,⟨w0,w1⟩⟩
def Fo3(x:C9):Prop:=wf5 x.State∧wf5 x.Act∧wf5 x.Gain∧Gg9 x.To∧Gh0 x.Part
theorem Fy6{n:Nat}{ds:List Dat}(h:Fit Tryz.prog (n+3) 118 ds):∃x:C9,ds=[.int .u8 x.State,.int .u8 x.Act,.int .u8 x.Gain,.int .u8 x.To.a0,.int .u8 x.To.a1,.int .u8 x.To.a2,.int .u8 x.Part.a0,.int .u8 x.Part.a1]∧Fo3 x:=by
 have h0:=Bh5 Tryz.underlying118 h
 obtain⟨_,r0,rfl,g0,h1⟩:=h0
 obtain⟨x0,rfl,w0⟩:=Da9 (n:=n+1) g0
 obtain⟨_,r1,rfl,g1,h2⟩:=h1
 obtain⟨x1,rfl,w1⟩:=Da9 (n:=n+1) g1
 obtain⟨_,r2,rfl,g2,h3⟩:=h2
 obtain⟨x2,rfl,w2⟩:=Da9 (n:=n+1) g2
 obtain⟨_,r3,rfl,g3,h4⟩:=h3
 obtain⟨x3,rfl,w3⟩:=Fy4 (n:=n+0) g3
 obtain⟨_,r4,rfl,g4,h5⟩:=h4
 obtain⟨x4,rfl,w4⟩:=Fy5 (n:=n+0) g4
 cases (show r4=[] from h5)
 exact⟨⟨x0,x1,x2,x3,x4⟩,rfl,⟨w0,w1,w2,w3,w4⟩⟩
def Hf1(x:List C9):Prop:=x.length≤maxLen∧∀y∈x,Fo3 y
theorem Gp8{n:Nat}{ds:List Dat}(h:Fit Tryz.prog (n+4) 51 ds):∃x:List C9,ds=[.sl 8 (x.map B2)]∧Hf1 x:=by
 obtain⟨es,rfl,hl,he⟩:=Dk8 Tryz.underlying51 (sz:=8) (by kernel_rfl) h
 obtain⟨l,rfl,hq⟩:=Co6 (en:=B2) (Q:=Fo3) (fun x hx=>Fy6 hx) es he
 exact⟨l,rfl,by simpa using hl,hq⟩
def Gx9(x:B0):Prop:=wf5 x.States∧wf5 x.Owners∧wf5 x.Grain∧wf5 x.Cents∧Hf1 x.Picks
theorem Gp9{n:Nat}{ds:List Dat}(h:Fit Tryz.prog (n+5) 53 ds):∃x:B0,ds=[.int .u8 x.States,.int .u8 x.Owners,.int .u8 x.Grain,.int .u8 x.Cents,.sl 8 (x.Picks.map B2)]∧Gx9 x:=by
 have h0:=Bh5 Tryz.underlying53 h
 obtain⟨_,r0,rfl,g0,h1⟩:=h0
 obtain⟨x0,rfl,w0⟩:=Da9 (n:=n+3) g0
 obtain⟨_,r1,rfl,g1,h2⟩:=h1
 obtain⟨x1,rfl,w1⟩:=Da9 (n:=n+3) g1
 obtain⟨_,r2,rfl,g2,h3⟩:=h2
 obtain⟨x2,rfl,w2⟩:=Da9 (n:=n+3) g2
 obtain⟨_,r3,rfl,g3,h4⟩:=h3
 obtain⟨x3,rfl,w3⟩:=Da9 (n:=n+3) g3
 obtain⟨_,r4,rfl,g4,h5⟩:=h4
 obtain⟨x4,rfl,w4⟩:=Gp8 (n:=n+0) g4
 cases (show r4=[] from h5)
 exact⟨⟨x0,x1,x2,x3,x4⟩,rfl,⟨w0,w1,w2,w3,w4⟩⟩
def Hf2(x:Int):Prop:=(Lit.int .u16 x).wf=true
theorem Gq0{n:Nat}{ds:List Dat}(h:Fit Tryz.prog (n+1) 69 ds):∃x:Int,ds=[.int .u16 x]∧Hf2 x:=by
 exact Dk7 Tryz.underlying69 h
theorem Ge0{d:B0}(h:Gx9 d):Aj8 d:=
 ⟨Da7 h.1,Da7 h.2.1,Da7 h.2.2.1,Da7 h.2.2.2.1,fun p hp=>by
  obtain⟨h1,h2,h3,⟨h4,h5,h6⟩,h7,h8⟩:=h.2.2.2.2.2 p hp
  exact⟨Da7 h1,Da7 h2,Da7 h3,Da7 h4,Da7 h5,Da7 h6,Da7 h7,Da7 h8⟩⟩
theorem law(x0:B0)(x1 x2:Int)(h0:Gx9 x0)(h1:Hf2 x1)(h2:wf5 x2):∃fuel,F8 fuel x0 x1 x2=some true:=
 Dt7 (Ge0 h0) (Fx5 h1).1 (Fx5 h1).2 (Da7 h2).1
theorem own:ownKnob Tryz.prog.godebug=none:=by kernel_rfl
theorem Ck0:laidOutB Tryz.prog=true:=by kernel_rfl
theorem Hl5{W:World}(h0:laidMetH Tryz.prog Rows.stepsSumsRow.laid W)(hs:W.ShapedOpen Tryz.prog):GlA (K0 W) W:=by
 have h:laidMet Tryz.prog Rows.stepsSumsRow.laid W:=by
  rw[MakeChecks.laidMetH_plain _ _ _ (by kernel_rfl)]at h0
  exact h0
 have all:∀n cs,gl n=some cs→(∃us,W1 (K0 W) n 0 us∧D1 (K0 W) cs us)∧∃c e z,W.heap[n]? =some (.cells c e z)∧c.size=cs.length:=fun n cs e=>by
  refine Ct9 (Q:=fun n cs=>(∃us,W1 (K0 W) n 0 us∧D1 (K0 W) cs us)∧∃c e z,W.heap[n]? =some (.cells c e z)∧c.size=cs.length) ?_ e
  show _∧_∧_∧_∧_∧True
  exact⟨Ds4 h 0 (g:=4) (t:=338) (e:=5) rfl (by kernel_rfl) (by kernel_rfl) Tryz.underlying338 (by kernel_rfl) (by kernel_rfl) (by kernel_rfl) (by kernel_rfl),
   Ds4 h 1 (g:=5) (t:=339) (e:=5) rfl (by kernel_rfl) (by kernel_rfl) Tryz.underlying339 (by kernel_rfl) (by kernel_rfl) (by kernel_rfl) (by kernel_rfl),
   Ds4 h 2 (g:=3) (t:=310) (e:=39) rfl (by kernel_rfl) (by kernel_rfl) Tryz.underlying310 (by kernel_rfl) (by kernel_rfl) (by kernel_rfl) (by kernel_rfl),
   Et6 h 4 (g:=1) (t:=203) rfl (by kernel_rfl) (by kernel_rfl) (by kernel_rfl) rfl,
   Et6 h 3 (g:=2) (t:=203) rfl (by kernel_rfl) (by kernel_rfl) (by kernel_rfl) rfl,
   trivial⟩
 refine⟨⟨fun n cs e=>(all n cs e).1,fun n k e=> ?_⟩,fun n cs e=>(all n cs e).2⟩
 ·simp only[gxT,List.mem_cons,List.mem_nil_iff,or_false,Prod.mk.injEq]at e
  obtain⟨rfl,rfl⟩:=e
  exact Hl4 hs (zero:= #[.int .i64 0]) (t:=3) (of_decide_eq_true (by kernel_rfl)) (by kernel_rfl) (by kernel_rfl) (by kernel_rfl) Tryz.underlying3 (by kernel_rfl)
theorem Gd0(os:Os)(started:os.Started)(H:Type)(enc:TypeId×Value→H):
 ReturnsInHanded {} Tryz.checked os 8 .any (fun w args=>(Rows.stepsSumsSpec.pre enc Tryz.prog Tryz.f8 Rows.stepsSumsRow.domain false w args∧laidMetH Tryz.prog Rows.stepsSumsRow.laid w)∧sizedMet enc Tryz.prog Tryz.f8 (OpenSpec.ofChange Rows.stepsSumsSpec) false w args)
  (Rows.stepsSumsSpec.post enc Tryz.prog Tryz.f8 false true false false):=by
 refine Aa6 (C:=Tryz.checked) (X:=fun w _=>laidMetH Tryz.prog Rows.stepsSumsRow.laid w) (fun _ _ _ hh h=>h.of_heap hh) own started (by kernel_rfl) Tryz.func8
  (ChangeSpec.witness_shaped (enc:=enc) (C:=Tryz.checked) (os:=os) (X:=fun w _=>laidMetH Tryz.prog Rows.stepsSumsRow.laid w) false (World.laidAll Tryz.prog os Rows.stepsSumsRow.laid) #[.agg #[.int .u8 0,.int .u8 0,.int .u8 0,.int .u8 0,.slice none 0 0],.int .u16 0,.int .u8 0] 8 (World.laidAll_os _ _ _)
   (World.shaped_of_ZipB (by kernel_rfl) (by kernel_rfl)) (by kernel_rfl) (by kernel_rfl) (by kernel_rfl)
   (by rw[MakeChecks.laidMetH_plain _ _ _ (by kernel_rfl)];exact laidMet_laidAll _ (by kernel_rfl) (by kernel_rfl))) ?_
 intro W base args ds gs before hval0 hW hcnd hlaid hshape
 have hgl:GlA (K0 W) W:=Hl5 hlaid hshape
 have hval:∀(j:Nat) t v,Tryz.f8.params[j]? =some t→args[j]? =some v→Value.okWide Tryz.prog W .any base t v:=hval0
 have hW':=hW
 obtain⟨p,q,hA0,hV,rfl,hfz,hnd⟩:=hW
 have hA:DataW.TrodAll enc Tryz.prog W 0 (fun _=>true) true Tryz.f8.params.toList args.toList ds p:=hA0
 rw[Tryz.params8]at hA hval
 obtain⟨v0,vs0,d0,ds0,p0,q0,hargs,rfl,rfl,h0,r0⟩:=trodAll_cons hA
 obtain⟨v1,vs1,d1,ds1,p1,q1,rfl,rfl,rfl,h1,r1⟩:=trodAll_cons r0
 obtain⟨v2,vs2,d2,ds2,p2,q2,rfl,rfl,rfl,h2,r2⟩:=trodAll_cons r1
 obtain⟨rfl,rfl,rfl⟩:=trodAll_nil r2
 obtain rfl:args= #[v0,v1,v2]:=by cases args;simp_all
 obtain⟨rfl,rfl⟩:=trodVars_none hV
 have k0:=h0
 have lt0:∀x∈p0,x.block<W.heap.size:=by obtain⟨m,hm⟩:=k0;exact DataW.trod_lt m _ _ _ hm
 obtain⟨c0,rfl⟩:=Gd9 Tryz.underlying53 (hval 0 53 v0 rfl rfl)
 obtain⟨m0,hm0⟩:=k0
 obtain⟨ds0,hr0,hf0⟩:=Af6 5 53 m0 _ _ (by kernel_rfl) hm0
 obtain⟨x0,rfl,wf0_⟩:=Gp9 (n:=0) hf0
 have rel0:B9 (K0 W) noR (.agg (dV [.int .u8 x0.States,.int .u8 x0.Owners,.int .u8 x0.Grain,.int .u8 x0.Cents,.sl 8 (x0.Picks.map B2)])) _:=Dx5 hr0
 have k1:=h1
 have lt1:∀x∈p1,x.block<W.heap.size:=by obtain⟨m,hm⟩:=k1;exact DataW.trod_lt m _ _ _ hm
 obtain⟨a1,rfl,rfl,rfl,w1⟩:=open_int Tryz.underlying69 (hval 1 69 v1 rfl rfl) h1
 obtain⟨m1,hm1⟩:=k1
 obtain⟨ds1,hr1,hf1⟩:=Af6 1 69 m1 _ _ (by kernel_rfl) hm1
 obtain⟨x1,rfl,wf1_⟩:=Gq0 (n:=0) hf1
 have Gm3:B9 (K0 W) noR (.d (.int .u16 x1)) _:=Cw0 hr1
 have k2:=h2
 have lt2:∀x∈p2,x.block<W.heap.size:=by obtain⟨m,hm⟩:=k2;exact DataW.trod_lt m _ _ _ hm
 obtain⟨a2,rfl,rfl,rfl,w2⟩:=open_int Tryz.underlying5 (hval 2 5 v2 rfl rfl) h2
 obtain⟨m2,hm2⟩:=k2
 obtain⟨ds2,hr2,hf2⟩:=Af6 1 5 m2 _ _ (by kernel_rfl) hm2
 obtain⟨x2,rfl,wf2_⟩:=Da9 (n:=0) hf2
 have Gw8:B9 (K0 W) noR (.d (.int .u8 x2)) _:=Cw0 hr2
 obtain⟨fuel,hF⟩:=law x0 x1 x2 wf0_ wf1_ wf2_
 clear hA0 hval0
 refine(Gn4 hF (K0 W) W [_,_,_] (Cz5 W) hgl (by simp only[B6];exact⟨_,_,rfl,rel0,⟨_,_,rfl,Gm3,⟨_,_,rfl,Gw8,rfl⟩⟩⟩)).mono fun e W' hE=> ?_
 obtain⟨u,M',rfl,hext,hv⟩:=hE
 have bel:=hext.below
 have hv:=G5 hv
 cases hv
 exact⟨_,rfl,_,_,_,[],_,[],hW',trodAll_mk1 (shut_bool Tryz.underlying4 _),(trodAll_cons_mk (Below.trod Ck0 (by kernel_rfl) (of_decide_eq_true (by kernel_rfl)) ⟨_,hm0⟩ bel lt0) (trodAll_cons_mk (Below.trod Ck0 (by kernel_rfl) (of_decide_eq_true (by kernel_rfl)) ⟨_,hm1⟩ bel lt1) (trodAll_cons_mk (Below.trod Ck0 (by kernel_rfl) (of_decide_eq_true (by kernel_rfl)) ⟨_,hm2⟩ bel lt2) trodAll_mk0))),rfl,bel.frame _,fun h=>by cases h⟩
theorem Dv6:(Rows.stepsSumsRow.inPlace==Tryz.pinned.checked.prog.inPlace 8)=true:=by kernel_rfl
theorem Bz0:(Rows.stepsSumsRow.unfollowed==Tryz.pinned.checked.prog.unfollowed 8)=true:=by kernel_rfl
theorem Dd5:(Rows.stepsSumsRow.recurses==Tryz.pinned.checked.prog.recurses 8)=true:=by kernel_rfl
theorem Fk8:(Rows.stepsSumsRow.named==Tryz.pinned.checked.prog.varsNamed 8)=true:=by kernel_rfl
theorem Fe7:joinedFacts Tryz.pinned.checked.prog 8 Tryz.f8 Rows.stepsSumsSpec Rows.stepsSumsRow=true:=by
 unfold joinedFacts
 rw[Dv6,Bz0,Dd5,Fk8]
 kernel_rfl
theorem Hm0:Rows.stepsSumsRow.holds Tryz.pinned (OpenSpec.ofChange Rows.stepsSumsSpec):=
 OpenClaim.holds_of_wide 8 Tryz.f8 rfl rfl rfl rfl rfl rfl rfl ⟨rfl,rfl,rfl,rfl,rfl⟩ rfl rfl rfl rfl rfl (by kernel_rfl) Tryz.func8 Fe7
  (of_decide_eq_true (by kernel_rfl)) (by unfold Func.isWrapper;first|(rw[if_pos (by decide+kernel)];kernel_rfl)|(rw[if_neg (by decide+kernel)];exact⟨rfl,rfl⟩))
  (fun os started H enc _=>Gd0 os started H enc)
theorem proved:Rows.StepsSumsCardSaid:=
 Claim7.holds_tied_plain_at .later [] [.data,.data,.data,.sentinel,.sentinel] true (true, "502f4c70369b75b0d817dcaec3831be972de460fbc89e4c07d93a27f2ee98cfe") true Hm0 (fun _ h=>by cases h) (by kernel_rfl) (fun _ h=>by cases h) stepsSums_row_tie rfl ⟨rfl,rfl⟩ (by kernel_rfl) rfl
  (fun f fn hf hfn=>by
   obtain rfl:f=8:=Option.some.inj ((show Tryz.prog.funcNamed "croupier/croupierlaw21.StepsSums" =some 8 by kernel_rfl).symm.trans hf)|>.symm
   obtain rfl:fn=Tryz.f8:=(Option.some.inj (Tryz.func8.symm.trans hfn)).symm
   exact⟨by kernel_rfl,fun j t ht=>by
    rw[Tryz.params8]at ht
    have hm:t∈[53,69,5]:=by simpa using Array.mem_of_getElem? ht
    have hall:([53,69,5].all fun u=> !Tryz.prog.wantsStandIn u)=true:=by kernel_rfl
    exact(show Tryz.prog.wantsStandIn t=false by simpa using List.all_eq_true.1 hall t hm)⟩)
  (by kernel_rfl)
#print axioms proved
end
end Go.Proofs.YtfgbhfphjmmiaaaGreatDoor.stepsSums
end
