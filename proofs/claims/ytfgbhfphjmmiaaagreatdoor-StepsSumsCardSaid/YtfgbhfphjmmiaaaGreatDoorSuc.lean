/- One part of the texts that lead to the theorem; it claims nothing by itself. -/
import GoSem.ClaimChange
import GoSem.ClaimWide
import Derived.Lay
import Derived.LaidMore
import Derived.ProofKit
import Derived.OpenShut
import Derived.Handed
import Derived.Stop.Joined
import Derived.SevenTiedAt
import Derived.KernelRfl
import Derived.Test.YtfgbhfphjmmiaaaGreatDoorSub
section
namespace Go.Proofs.YtfgbhfphjmmiaaaGreatDoor.Kx
open Go Go.RowKit
section
def K0(W:World):Mem:=fun b=>match W.heap[b]? with|some (.cells c _ _)=>some c|_=>none
theorem Cz5(W:World):Ag2 (K0 W) W:=fun b c h=>by
 unfold K0 at h
 split at h
 ·rename_i c' e z hh;cases h;exact⟨_,e,z,hh,Pre.refl _⟩
 ·cases h
theorem Cg2{W:World}{a:Addr}{v:Value}(h:W.cell? a=some v):∃c,K0 W a.block=some c∧a.spot=none∧c[a.off]? =some v:=by
 unfold World.cell? at h
 split at h
 ·rename_i c e z hh
  split at h
  ·cases h
  ·rename_i hs
   exact⟨c,by unfold K0;rw[hh],by simpa using hs,h⟩
 ·cases h
theorem An0{α β:Type}{f:α→Option β}:∀{l:List α} {us:List β},l.mapM f=some us→us.length=l.length∧∀(i:Nat) (x:α),l[i]? =some x→∃y,us[i]? =some y∧f x=some y
 |[],us,h=>by simp at h;subst h;exact⟨rfl,fun i x h=>by simp at h⟩
 |a::l,us,h=>by
  rw[List.mapM_cons]at h
  simp only[Option.bind_eq_bind,Option.bind_eq_some_iff,Option.pure_def,Option.some.injEq]at h
  obtain⟨y,hy,ys,hys,rfl⟩:=h
  obtain⟨h1,h2⟩:=An0 hys
  refine⟨by simp[h1],fun i x hi=> ?_⟩
  cases i with
  |zero=>simp at hi;subst hi;exact⟨y,by simp,hy⟩
  |succ i=>simpa using h2 i x (by simpa using hi)
theorem Bm5{W:World}{a:Addr}{n:Nat}{us:List Value}(h:W.cells? 0 a n=some us):us.length=n∧∀i,i<n→W.cell? (a.add i)=us[i]? :=by
 unfold World.cells? at h
 rw[if_pos (Nat.zero_le _)]at h
 obtain⟨h1,h2⟩:=An0 h
 refine⟨by simpa using h1,fun i hi=> ?_⟩
 obtain⟨y,hy,hf⟩:=h2 i i (by simp[hi])
 rw[hf,hy]
theorem Bl9{a:Addr}(hs:a.spot=none)(n:Nat):a.add n=⟨a.block,a.off+n,none⟩:=by
 unfold Addr.add
 split
 ·rename_i h;subst h;cases a;simp at hs⊢;exact hs
 ·rfl
theorem Bt6(a:Addr):a.add 0=a:=by simp[Addr.add]
def Gj1(F:TypeId→List Dat→Prop):List Field→List Dat→Prop
 |[],ds=>ds=[]
 |f::fs,ds=>∃x y,ds=x++y∧F f.type x∧Gj1 F fs y
def Gj0(F:List Dat→Prop):Nat→List Dat→Prop
 |0,ds=>ds=[]
 |n+1,ds=>∃x y,ds=x++y∧F x∧Gj0 F n y
def Fit(P:Program):Nat→TypeId→List Dat→Prop
 |0,_,_=>False
 |n+1,t,ds=>match P.underlying t with
  |some .bool=>∃b,ds=[.bool b]
  |some (.int k)=>∃m,ds=[.int k m]∧(Lit.int k m).wf=true
  |some .string=>∃s,ds=[.str s]∧s.length≤maxLen
  |some (.slice e)=>∃es,ds=[.sl (P.cellsOf e) es]∧es.length≤maxLen∧∀x∈es,Fit P n e x
  |some (.struct fs)=>Gj1 (Fit P n) fs.toList ds
  |some (.array k e)=>Gj0 (Fit P n e) k ds
  |_=>False
def Bi3(P:Program)(okT:TypeId→Bool):List Field→Nat→Nat→Bool
 |[],o,tot=>Nat.beq o tot
 |f::fs,o,tot=>match Nat.beq f.offset o,okT f.type with|true,true=>Bi3 P okT fs (o+P.cellsOf f.type) tot|_,_=>false
def okT(P:Program):Nat→TypeId→Bool
 |0,_=>false
 |n+1,t=>match P.underlying t with
  |some .bool=>true
  |some (.int _)=>true
  |some .string=>true
  |some (.slice e)=>match Nat.ble 1 (P.cellsOf e) with|true=>okT P n e|false=>false
  |some (.struct fs)=>Bi3 P (okT P n) fs.toList 0 (P.cellsOf t)
  |some (.array k e)=>match Nat.beq (k*P.cellsOf e) (P.cellsOf t) with|true=>okT P n e|false=>false
  |_=>false
section
variable {H:Type} {enc:TypeId×Value→H} {P:Program} {W:World}
theorem Be9{G:TypeId→List Value→Option (DataW H×List MemPlace)}{F:TypeId→List Dat→Prop}{okt:TypeId→Bool}(hG:∀t cs x,okt t=true→G t cs=some x→∃ds,D1 (K0 W) ds cs∧F t ds):
 ∀(fs:List Field) (o:Nat) (cs:List Value) (xs:List (DataW H×List MemPlace)),Bi3 P okt fs o cs.length=true→fs.mapM (fun f=>G f.type ((cs.drop f.offset).take (P.cellsOf f.type)))=some xs→o≤cs.length→∃ds,D1 (K0 W) ds (cs.drop o)∧Gj1 F fs ds
 |[],o,cs,xs,hc,_,_=>by
  have:o=cs.length:=Nat.eq_of_beq_eq_true hc
  rw[List.drop_eq_nil_of_le (by omega)]
  exact⟨[],by simp[D1],rfl⟩
 |f::fs,o,cs,xs,hc,hm,ho=>by
  unfold Bi3 at hc
  split at hc
  ·rename_i hb hok
   have hb:=Nat.eq_of_beq_eq_true hb
   rw[List.mapM_cons]at hm
   simp only[Option.bind_eq_bind,Option.bind_eq_some_iff,Option.pure_def,Option.some.injEq]at hm
   obtain⟨y,hy,ys,hys,_⟩:=hm
   rw[hb]at hy
   obtain⟨d1,r1,f1⟩:=hG _ _ _ hok hy
   have hle:o+P.cellsOf f.type≤cs.length:=by
    have key:∀(fs:List Field) (o tot:Nat),Bi3 P okt fs o tot=true→o≤tot:=fun fs=>by
     induction fs with
     |nil=>intro o tot h;have:=Nat.eq_of_beq_eq_true h;omega
     |cons g gs ih=>
      intro o tot h
      unfold Bi3 at h
      split at h
      ·have:=ih _ _ h;omega
      ·cases h
    exact key fs _ _ hc
   obtain⟨d2,r2,f2⟩:=Be9 hG fs (o+P.cellsOf f.type) cs ys hc hys hle
   refine⟨d1++d2,?_,d1,d2,rfl,f1,f2⟩
   have e:cs.drop o=(cs.drop o).take (P.cellsOf f.type)++cs.drop (o+P.cellsOf f.type):=by
    rw[←List.drop_drop,List.take_append_drop]
   rw[e]
   exact r1.append r2
  ·cases hc
theorem trod_array{G:List Value→Option (DataW H×List MemPlace)}{F:List Dat→Prop}{sz:Nat}(hG:∀cs x,G cs=some x→∃ds,D1 (K0 W) ds cs∧F ds):
 ∀(n j:Nat) (cs:List Value),cs.length=(j+n)*sz→(∀i,i<n→∃x,G ((cs.drop ((j+i)*sz)).take sz)=some x)→∃ds,D1 (K0 W) ds (cs.drop (j*sz))∧Gj0 F n ds
 |0,j,cs,hl,_=>⟨[],by rw[List.drop_eq_nil_of_le (by rw[hl];simp)];simp[D1],rfl⟩
 |n+1,j,cs,hl,h=>by
  obtain⟨x,hx⟩:=h 0 (by omega)
  obtain⟨d1,r1,f1⟩:=hG _ _ hx
  obtain⟨d2,r2,f2⟩:=trod_array hG n (j+1) cs (by rw[hl];congr 1;omega) (fun i hi=>by obtain⟨y,hy⟩:=h (i+1) (by omega);exact⟨y,by rw[show j+1+i=j+(i+1) by omega];exact hy⟩)
  refine⟨d1++d2,?_,d1,d2,rfl,f1,f2⟩
  have e:cs.drop (j*sz)=(cs.drop ((j+0)*sz)).take sz++cs.drop ((j+1)*sz):=by
   rw[Nat.add_zero,Nat.add_mul,Nat.one_mul,←List.drop_drop,List.take_append_drop]
  rw[e]
  exact r1.append r2
theorem Af6:∀(m:Nat) (t:TypeId) (n:Nat) (cs:List Value) (x:DataW H×List MemPlace),okT P m t=true→DataW.trod enc P W 0 (fun _=>true) true n t cs=some x→∃ds,D1 (K0 W) ds cs∧Fit P m t ds
 |0,_,_,_,_,h,_=>by cases h
 |m+1,t,0,cs,x,_,h=>by cases h
 |m+1,t,n+1,cs,x,hk,h=>by
  unfold okT at hk
  split at hk
  ·rename_i hu
   unfold DataW.trod at h
   rw[hu]at h
   split at h<;>first|(exfalso;simp_all;done)|skip
   rename_i b he
   exact⟨[.bool b],⟨_,[],rfl,.bool b,rfl⟩,by unfold Fit;rw[hu];exact⟨b,rfl⟩⟩
  ·rename_i k hu
   unfold DataW.trod at h
   rw[hu]at h
   split at h<;>first|(exfalso;simp_all;done)|skip
   rename_i k1 k2 q he
   cases he
   split at h
   ·rename_i hkk
    obtain⟨rfl,hwf⟩:=hkk
    exact⟨[.int _ q],⟨_,[],rfl,.int _ q,rfl⟩,by unfold Fit;rw[hu];exact⟨q,rfl,hwf⟩⟩
   ·cases h
  ·rename_i hu
   unfold DataW.trod at h
   rw[hu]at h
   split at h<;>first|(exfalso;simp_all;done)|skip
   rename_i s he
   split at h
   ·rename_i hs
    refine⟨[.str s.data.toList],⟨_,[],rfl,?_,rfl⟩,by unfold Fit;rw[hu];exact⟨_,rfl,by simpa using hs⟩⟩
    have:Aa7 s.data.toList= .string s:=by simp[Aa7]
    rw[←this]
    exact .str _
   ·cases h
  ·rename_i e hu
   split at hk
   ·rename_i hsz
    have hsz:=Nat.le_of_ble_eq_true hsz
    unfold DataW.trod at h
    rw[hu]at h
    split at h<;>first|(exfalso;simp_all;done)|skip
    ·exact⟨[.sl (P.cellsOf e) []],⟨_,[],rfl,.sl _ [] none 0 0 0 (fun _=>[]) (Nat.le_refl _) (fun h=>absurd rfl h) (fun i hi=>by simp at hi) (fun i cs hi=>by simp at hi) (fun i j cs c u hi=>by simp at hi),rfl⟩,by unfold Fit;rw[hu];exact⟨[],rfl,Nat.zero_le _,fun x hx=>by cases hx⟩⟩
    ·rename_i e' a len cap he
     cases he
     split at h
     ·rename_i hle
      obtain⟨_,hlc,hcap⟩:=hle
      simp only[Option.bind_eq_some_iff]at h
      obtain⟨elems,hel,_⟩:=h
      obtain⟨hlen,hget⟩:=An0 hel
      rw[List.length_range]at hlen
      have hone:∀i,i<len→∃us ds,W.cells? 0 (a.add (i*P.cellsOf e)) (P.cellsOf e)=some us∧D1 (K0 W) ds us∧Fit P m e ds:=fun i hi=>by
       obtain⟨y,_,hy⟩:=hget i i (by simp[hi])
       simp only[Option.bind_eq_some_iff]at hy
       obtain⟨us,h1,h2⟩:=hy
       obtain⟨ds,h3,h4⟩:=Af6 m e n us y hk h2
       exact⟨us,ds,h1,h3,h4⟩
      have hch:∃es:List (List Dat),es.length=len∧∀i d,es[i]? =some d→∃us,W.cells? 0 (a.add (i*P.cellsOf e)) (P.cellsOf e)=some us∧D1 (K0 W) d us∧Fit P m e d:=by
       have build:∀k,k≤len→∃es:List (List Dat),es.length=k∧∀i d,es[i]? =some d→∃us,W.cells? 0 (a.add (i*P.cellsOf e)) (P.cellsOf e)=some us∧D1 (K0 W) d us∧Fit P m e d:=fun k=>by
        induction k with
        |zero=>exact fun _=>⟨[],rfl,fun i d h=>by simp at h⟩
        |succ k ih=>
         intro hk'
         obtain⟨es,h1,h2⟩:=ih (by omega)
         obtain⟨us,ds,h3,h4,h5⟩:=hone k (by omega)
         refine⟨es++[ds],by simp[h1],fun i d hi=> ?_⟩
         by_cases hik:i<es.length
         ·rw[List.getElem?_append_left hik]at hi;exact h2 i d hi
         ·rw[List.getElem?_append_right (by omega)]at hi
          have:i-es.length=0:=by
           cases hz:i-es.length with
           |zero=>rfl
           |succ z=>rw[hz]at hi;simp at hi
          rw[this]at hi
          simp at hi
          subst hi
          have:i=k:=by omega
          subst this
          exact⟨us,h3,h4,h5⟩
       exact build len (Nat.le_refl _)
      obtain⟨es,hes,hall⟩:=hch
      have hspot:0<len→a.spot=none:=fun h0=>by
       obtain⟨us,ds,h1,_⟩:=hone 0 h0
       obtain⟨h2,h3⟩:=Bm5 h1
       have h4:=h3 0 (by omega)
       rw[Nat.zero_mul,Bt6,Bt6]at h4
       rw[List.getElem?_eq_getElem (by omega)]at h4
       obtain⟨c,_,h5,_⟩:=Cg2 h4
       exact h5
      refine⟨[.sl (P.cellsOf e) es],⟨_,[],rfl,?_,rfl⟩,by unfold Fit;rw[hu];exact⟨es,rfl,by omega,fun x hx=>by obtain⟨i,hi⟩:=List.mem_iff_getElem?.1 hx;obtain⟨us,_,_,h⟩:=hall i x hi;exact h⟩⟩
      have hus:∃us:Nat→List Value,∀i d,es[i]? =some d→W.cells? 0 (a.add (i*P.cellsOf e)) (P.cellsOf e)=some (us i)∧D1 (K0 W) d (us i):=by
       refine⟨fun i=>(W.cells? 0 (a.add (i*P.cellsOf e)) (P.cellsOf e)).getD [],fun i d hi=> ?_⟩
       obtain⟨us,h1,h2,_⟩:=hall i d hi
       dsimp only
       rw[h1]
       exact⟨rfl,h2⟩
      obtain⟨us,hus⟩:=hus
      rw[←hes]
      refine .sl _ es (some a) cap a.block a.off us (by omega) (fun hne=> ?_) (fun i hi=> ?_) (fun i d hi=> ?_) (fun i j d c u hi hj hu=> ?_)
      ·have:0<es.length:=List.length_pos_iff.2 hne
       have:=hspot (by omega)
       cases a;simp at this⊢;exact this
      ·obtain⟨h1,h2⟩:=hus i es[i] (List.getElem?_eq_getElem hi)
       obtain⟨h3,h4⟩:=Bm5 h1
       have hs:=hspot (by omega)
       have h40:=h4 0 (by omega)
       rw[List.getElem?_eq_getElem (show 0<(us i).length by omega)]at h40
       obtain⟨c,h5,_,_⟩:=Cg2 h40
       rw[Bl9 hs,Bl9 rfl]at h5
       refine⟨c,h5,fun j hj=> ?_⟩
       have h4j:=h4 j (by omega)
       rw[List.getElem?_eq_getElem hj]at h4j
       obtain⟨c',h6,_,h7⟩:=Cg2 h4j
       rw[Bl9 hs,Bl9 rfl]at h6 h7
       rw[h5]at h6
       cases h6
       rw[List.getElem?_eq_getElem hj]
       exact h7
      ·obtain⟨h1,h2⟩:=hus i d hi
       have:=(Bm5 h1).1
       have:=h2.len
       omega
      ·exact(hus i d hi).2.get hj hu
     ·cases h
   ·cases hk
  ·rename_i fs hu
   unfold DataW.trod at h
   rw[hu]at h
   split at h<;>first|(exfalso;simp_all;done)|skip
   rename_i fs' cs' he
   cases he
   split at h
   ·rename_i hlen
    simp only[Option.map_eq_some_iff]at h
    obtain⟨xs,hxs,_⟩:=h
    obtain⟨ds,h1,h2⟩:=Be9 (P:=P) (W:=W) (G:=fun t cs=>DataW.trod enc P W 0 (fun _=>true) true n t cs) (F:=Fit P m) (okt:=okT P m) (fun t cs x h1 h2=>Af6 m t n cs x h1 h2) fs.toList 0 _ xs (by rw[hlen];exact hk) hxs (Nat.zero_le _)
    exact⟨ds,by simpa using h1,by unfold Fit;rw[hu];exact h2⟩
   ·cases h
  ·rename_i k e hu
   split at hk
   ·rename_i hsz
    have hsz:=Nat.eq_of_beq_eq_true hsz
    unfold DataW.trod at h
    rw[hu]at h
    split at h<;>first|(exfalso;simp_all;done)|skip
    rename_i k' e' cs' he
    cases he
    split at h
    ·rename_i hlen
     simp only[Option.map_eq_some_iff]at h
     obtain⟨xs,hxs,_⟩:=h
     obtain⟨_,hget⟩:=An0 hxs
     obtain⟨ds,h1,h2⟩:=trod_array (W:=W) (G:=fun cs=>DataW.trod enc P W 0 (fun _=>true) true n e cs) (F:=Fit P m e) (sz:=P.cellsOf e) (fun cs x h=>Af6 m e n cs x hk h) k 0 _ (by rw[hlen,←hsz,Nat.zero_add]) (fun i hi=>by
      obtain⟨y,_,hy⟩:=hget i i (by simp[hi])
      exact⟨y,by rw[Nat.zero_add];exact hy⟩)
     exact⟨ds,by simpa using h1,by unfold Fit;rw[hu];exact h2⟩
    ·cases h
   ·cases hk
  ·cases hk
section
variable {P:Program} {n:Nat} {t:TypeId} {ds:List Dat}
theorem Dk7{k:IntKind}(hu:P.underlying t=some (.int k))(h:Fit P (n+1) t ds):∃m,ds=[.int k m]∧(Lit.int k m).wf=true:=by unfold Fit at h;rw[hu]at h;exact h
theorem Dk8{e:TypeId}(hu:P.underlying t=some (.slice e)){sz:Nat}(hs:P.cellsOf e=sz)(h:Fit P (n+1) t ds):∃es,ds=[.sl sz es]∧es.length≤maxLen∧∀x∈es,Fit P n e x:=by unfold Fit at h;rw[hu]at h;subst hs;exact h
theorem Bh5{fs:Array Field}(hu:P.underlying t=some (.struct fs))(h:Fit P (n+1) t ds):Gj1 (Fit P n) fs.toList ds:=by unfold Fit at h;rw[hu]at h;exact h
theorem Bt0{k:Nat}{e:TypeId}(hu:P.underlying t=some (.array k e))(h:Fit P (n+1) t ds):Gj0 (Fit P n e) k ds:=by unfold Fit at h;rw[hu]at h;exact h
theorem Co6{α:Type}{en:α→List Dat}{Q:α→Prop}{F:List Dat→Prop}(h:∀x,F x→∃y,x=en y∧Q y):∀(es:List (List Dat)),(∀x∈es,F x)→∃l:List α,es=l.map en∧∀y∈l,Q y
 |[],_=>⟨[],rfl,fun y h=>by cases h⟩
 |x::es,hx=>by
  obtain⟨y,rfl,hy⟩:=h x (hx x List.mem_cons_self)
  obtain⟨l,rfl,hl⟩:=Co6 h es (fun x h=>hx x (List.mem_cons_of_mem _ h))
  exact⟨y::l,rfl,fun z hz=>by rcases List.mem_cons.1 hz with rfl|hz;exact hy;exact hl z hz⟩
theorem Gd9{W:World}{r:Reach}{base:Nat}{v:Value}{fs:Array Field}(hu:P.underlying t=some (.struct fs))(h:Value.okWide P W r base t v):∃cs,v= .agg cs:=by
 unfold Value.okWide at h;rw[hu]at h;obtain⟨cs,e,_⟩:=h;exact⟨cs,e⟩
theorem Dx5{M:Mem}{cs:Array Value}(h:D1 M ds cs.toList):B9 M noR (.agg (dV ds)) (.agg cs):=by
 simp only[B9]
 exact⟨cs.toList,by simp,B6.dV h⟩
theorem Cw0{M:Mem}{d:Dat}{v:Value}(h:D1 M [d] [v]):B9 M noR (.d d) v:=by
 obtain⟨u,us,e,h1,_⟩:=h
 cases e
 simp only[B9]
 exact h1
end
end
end
section
section
variable {H:Type} {enc:TypeId×Value→H} {P:Program} {W:World} {M:Mem} {b:Nat} {sp:Nat→Bool} {held:Bool}
theorem Bm6{g:Nat}{cs:Array Value}{t:TypeId}{tag:Nat×Nat}(h:W.heap[g]? =some (.cells cs t tag)):W1 (K0 W) g 0 cs.toList:=
 ⟨cs,by unfold K0;rw[h],fun j hj=>by simp⟩
theorem Bb9{n:String}{g:Nat}{cs:Array Value}(hg:P.globalNamed n=some g)(h:W.var? P n=some cs):∃e z,W.heap[g]? =some (.cells cs e z):=by
 simp only[World.var?,hg,Option.bind_some]at h
 split at h
 ·rename_i e
  cases h
  exact⟨_,_,e⟩
 ·cases h
theorem Au2{n:String}{g:Nat}{cs:Array Value}(hg:P.globalNamed n=some g)(h:W.var? P n=some cs):W1 (K0 W) g 0 cs.toList:=by
 simp only[World.var?,hg,Option.bind_some]at h
 split at h
 ·rename_i e
  cases h
  exact Bm6 e
 ·cases h
def dw:DataW H→Option Dat
 | .lit (.int k z)=>some (.int k z)
 | .lit (.string s)=>some (.str s)
 | .lit (.bool x)=>some (.bool x)
 | .iface _ _=>some (.ife true)
 |_=>none
def okE(P:Program)(t:TypeId):Bool:=
 match P.underlying t with
 |some .bool=>true
 |some (.int _)=>true
 |some .string=>true
 |some (.interface _)=>true
 |_=>false
theorem el1{t:TypeId}{fuel:Nat}{cs:List Value}{d:DataW H}{q:List MemPlace}{x:Dat}(hk:okE P t=true)(h:DataW.trod enc P W b sp held fuel t cs=some (d,q))(hd:dw d=some x):∃v,cs=[v]∧P9 M x v:=by
 cases fuel with
 |zero=>simp[DataW.trod]at h
 |succ n=>
  unfold okE at hk
  split at hk
  ·rename_i hu
   unfold DataW.trod at h
   rw[hu]at h
   split at h<;>first|(simp_all;done)|skip
   rename_i c _ _
   simp only[Option.some.injEq,Prod.mk.injEq]at h
   obtain⟨rfl,_⟩:=h
   cases hd
   exact⟨_,rfl,.bool _⟩
  ·rename_i hu
   obtain⟨z,rfl,hx,_⟩:=DataW.trod_int hu h
   cases hx
   cases hd
   exact⟨_,rfl,.int _ _⟩
  ·rename_i hu
   obtain⟨s,rfl,hx,_⟩:=DataW.trod_string hu h
   cases hx
   cases hd
   refine⟨_,rfl,?_⟩
   have:=P9.str (M:=M) s.data.toList
   simpa[Aa7] using this
  ·rename_i hu
   unfold DataW.trod at h
   rw[hu]at h
   split at h<;>first|(simp_all;done)|skip
   ·cases h;cases hd
   ·split at h
    ·cases h;cases hd
    ·rename_i nm _
     simp only[Option.map_eq_some_iff,Prod.mk.injEq]at h
     obtain⟨_,_,rfl,_⟩:=h
     cases hd
     exact⟨_,rfl,.ifc _ _⟩
    ·cases h
  ·cases hk
theorem Hi3{t e:TypeId}{k fuel:Nat}{cs:List Value}{ds:List (DataW H)}{q:List MemPlace}{xs:List Dat}(ht:P.underlying t=some (.array k e))(hk:okE P e=true)(hc:P.cellsOf e=1)(hct:P.cellsOf t=k)
 (h:DataW.trod enc P W b sp held fuel t cs=some (.agg ds,q)) (hd:ds.mapM dw=some xs):D1 M xs cs:=by
 obtain⟨ys,m,_,ex,hl,hn,hel⟩:=DataW.trod_array ht h
 have ed:ds=ys.map (·.1):=DataW.agg.inj (Prod.mk.inj ex).1
 have hm:=An0 hd
 refine D1.of_get (by rw[hl,hct,hm.1,ed,List.length_map,hn]) (fun j c u h1 h2=> ?_)
 have hj:j<k:=by
  have:=(List.getElem?_eq_some_iff.mp h2).1
  omega
 have hy:ys[j]? =some ys[j]:=List.getElem?_eq_getElem (by omega)
 have h3:=hel j hj
 rw[hy,hc,Nat.mul_one]at h3
 have hdj:ds[j]? =some (ys[j]).1:=by rw[ed,List.getElem?_map,hy];rfl
 obtain⟨y,e1,e2⟩:=hm.2 j _ hdj
 obtain rfl:y=c:=Option.some.inj (e1.symm.trans h1)
 obtain⟨v,e3,e4⟩:=el1 (M:=M) hk (show DataW.trod enc P W b sp held m e _=some ((ys[j]).1,(ys[j]).2) from h3) e2
 have e5:cs[j]? =some v:=by
  have:((cs.drop j).take 1)[0]? =some v:=by rw[e3];rfl
  simpa using this
 obtain rfl:v=u:=Option.some.inj (e5.symm.trans h2)
 exact e4
end
section
variable {P:Program} {W:World} {laid:List (String×DataW Unit)}
theorem Ac9:∀{laid:List (String×DataW Unit)} {ps:List MemPlace} {i:Nat} {n:String} {d:DataW Unit},DataW.LaidVars P W laid ps→laid[i]? =some (n,d)→
 ∃g t cs fuel p,P.globalNamed n=some g∧(P.globals[g]?).map (·.type)=some t∧W.var? P n=some cs∧DataW.trod (fun _=>()) P W 0 (fun _=>true) false fuel t cs.toList=some (d,p)
 |[],_,_,_,_,_,h=>by simp at h
 |(m,e)::l,ps,0,n,d,h,hi=>by
  obtain⟨g,t,cs,fuel,p,q,h1,h2,h3,h4,_⟩:=h
  simp only[List.getElem?_cons_zero,Option.some.injEq,Prod.mk.injEq]at hi
  obtain⟨rfl,rfl⟩:=hi
  exact⟨g,t,cs,fuel,p,h1,h2,h3,h4⟩
 |(m,e)::l,ps,i+1,n,d,h,hi=>by
  obtain⟨_,_,_,_,_,q,_,_,_,_,h5,_⟩:=h
  exact Ac9 h5 (by simpa using hi)
theorem Ds4(hl:laidMet P laid W)(i:Nat){n:String}{ds:List (DataW Unit)}{g:Nat}{t e:TypeId}{k:Nat}{xs:List Dat}(hm:laid[i]? =some (n,.agg ds))(hg:P.globalNamed n=some g)(htt:(P.globals[g]?).map (·.type)=some t)
 (ht:P.underlying t=some (.array k e)) (hk:okE P e=true) (hc:P.cellsOf e=1) (hct:P.cellsOf t=k) (hd:ds.mapM dw=some xs):(∃us,W1 (K0 W) g 0 us∧D1 (K0 W) xs us)∧∃c e z,W.heap[g]? =some (.cells c e z)∧c.size=(xs:List Dat).length:=by
 obtain⟨ps,h,_⟩:=hl
 obtain⟨g',t',cs,fuel,p,h1,h2,h3,h4⟩:=Ac9 h hm
 obtain rfl:=Option.some.inj (hg.symm.trans h1)
 obtain rfl:=Option.some.inj (htt.symm.trans h2)
 have hr:=Hi3 (M:=K0 W) ht hk hc hct h4 hd
 obtain⟨e',z',hh⟩:=Bb9 hg h3
 exact⟨⟨_,Au2 hg h3,hr⟩,_,_,_,hh,by rw[←hr.len,Array.length_toList]⟩
theorem Et6(hl:laidMet P laid W)(i:Nat){n:String}{d:DataW Unit}{g:Nat}{t:TypeId}{x:Dat}(hm:laid[i]? =some (n,d))(hg:P.globalNamed n=some g)(htt:(P.globals[g]?).map (·.type)=some t)
 (hk:okE P t=true) (hd:dw d=some x):(∃us,W1 (K0 W) g 0 us∧D1 (K0 W) [x] us)∧∃c e z,W.heap[g]? =some (.cells c e z)∧c.size=([x]:List Dat).length:=by
 obtain⟨ps,h,_⟩:=hl
 obtain⟨g',t',cs,fuel,p,h1,h2,h3,h4⟩:=Ac9 h hm
 obtain rfl:=Option.some.inj (hg.symm.trans h1)
 obtain rfl:=Option.some.inj (htt.symm.trans h2)
 obtain⟨v,e,r⟩:=el1 (M:=K0 W) hk h4 hd
 obtain⟨e',z',hh⟩:=Bb9 hg h3
 exact⟨⟨_,Au2 hg h3,v,[],e,r,rfl⟩,_,_,_,hh,by rw[←Array.length_toList,e];rfl⟩
theorem Hl4(hs:W.ShapedOpen P){g:Nat}{zero:Array Value}{t:TypeId}{k:IntKind}(hlt:g<P.globals.size)(hz:((begin P (fun _ _=>0) default).world.heap[g]?).bind Obj.row? =some (zero,t))
 (h1:zero.size=1) (hb:P.buildable t=true) (hu:P.underlying t=some (.int k)) (ht:P.cellTypes P.depth t=some [t]):∃m,W1 (K0 W) g 0 [.int k m]:=by
 obtain⟨cs,e1,e2,e3⟩:=hs.1 g zero t hlt hz
 obtain⟨ts,e4,_,e5⟩:=e3 hb
 obtain rfl:=Option.some.inj (ht.symm.trans e4)
 have e6:cs[0]? =some cs[0]:=Array.getElem?_eq_getElem (by omega)
 obtain⟨u,e7,e8⟩:=e5 0 _ e6
 simp at e7
 subst e7
 unfold Cell.ok at e8
 rw[hu]at e8
 generalize hv:cs[0]'(by omega)=v at e8 e6
 cases v<;>simp only at e8
 obtain⟨rfl,_⟩:=e8
 rename_i m _
 refine⟨m,cs,by unfold K0;rw[e1],fun j hj=> ?_⟩
 obtain rfl:j=0:=by simp at hj;omega
 simpa using e6
def Gz8(Q:Nat→List Dat→Prop):List (Nat×List Dat)→Prop
 |[]=>True
 |x::l=>Q x.1 x.2∧Gz8 Q l
theorem Ct9{Q:Nat→List Dat→Prop}:∀{l:List (Nat×List Dat)} {n:Nat} {cs:List Dat},Gz8 Q l→Gl8 l n=some cs→Q n cs
 |[],_,_,_,h=>by cases h
 |(m,x)::l,n,cs,hq,h=>by
  unfold Gl8 at h
  cases hb:Nat.beq n m with
  |true=>
   rw[hb]at h
   cases h
   obtain rfl:=Nat.eq_of_beq_eq_true hb
   exact hq.1
  |false=>
   rw[hb]at h
   exact Ct9 hq.2 h
end
theorem Aa6{H:Type}{enc:TypeId×Value→H}{a:Assume}{C:Checked}{os:Os}{f:FuncId}{fn:Func}{s:ChangeSpec}{conds:List PathCond}{apart fresh handsOn again:Bool}{X:World→Array Value→Prop}
 (hX:∀(w w':World) (args:Array Value),w.heap=w'.heap→X w args→X w' args)
 (own:ownKnob C.prog.godebug=none) (started:os.Started) (noInit:C.prog.inits.idxOf? f=none) (hfn:C.prog.funcs[f]? =some fn)
 (witness:∃(w:World) (tape:Tape) (i:Input),w.os=os∧(w.forCall tape i).Shaped C.prog∧i.vars=[]∧Input.okWide C.prog (w.forCall tape i) .any w.heap.size f i∧
  ((s.pre enc C.prog fn conds apart (w.forCall tape i).memory i.args∧X (w.forCall tape i).memory i.args)∧sizedMet enc C.prog fn (OpenSpec.ofChange s) apart (w.forCall tape i).memory i.args)∧a.holds C.prog (lone (Frame.enter C.prog f i.args .normal) [] (w.forCall tape i)))
 (contract:∀(W:World) (base:Nat) (args:Array Value) (ds gs:List (DataW H)) (before:List MemPlace),
  (∀(j:Nat) t v,fn.params[j]? =some t→args[j]? =some v→Value.okWide C.prog W .any base t v)→
  DataW.Whole enc C.prog fn.params.toList s.vars apart W args.toList ds gs before→
  conds.all (PathCond.test C.prog ⟨fn.params.toList,ds,s.plain.varTypes C.prog,gs⟩)=true→
  X W args→W.ShapedOpen C.prog→
  Calls C.prog f args W fun e W'=>∃v,e= .returned v∧s.post enc C.prog fn apart fresh handsOn again W args v W'):
 ReturnsInHanded a C os f .any (fun w args=>(s.pre enc C.prog fn conds apart w args∧X w args)∧sizedMet enc C.prog fn (OpenSpec.ofChange s) apart w args) (s.post enc C.prog fn apart fresh handsOn again):=by
 refine returnsInHanded_of_calls own started noInit witness ?_
 intro w tape i _ hsh _ hok hpre hholds
 obtain⟨_,_,_,fn',hfn',_,_,_,_,hval⟩:=hok
 have e:fn'=fn:=Option.some.inj (hfn'.symm.trans hfn)
 subst e
 obtain⟨⟨⟨ds,gs,before,hw,hc⟩,hx⟩,hz⟩:=hpre
 have hw':=DataW.Whole.of_heap (w':=w.forCall tape i) (by rfl) hw
 refine(contract (w.forCall tape i) w.heap.size i.args ds gs before hval hw' hc (hX _ _ _ (by rfl) hx) hsh).mono fun e W' ⟨v,he,hp⟩=> ?_
 subst he
 exact ChangeSpec.post_blind hp
end
section
@[reducible] def V.i (x:Int):V:= .d (.int .i64 x)
@[reducible] def V.n (x:Int):V:= .d (.int .u64 x)
@[reducible] def V.w (x:Int):V:= .d (.int .u32 x)
@[reducible] def V.y (x:Int):V:= .d (.int .u8 x)
@[reducible] def V.b (x:Bool):V:= .d (.bool x)
@[reducible] def V.s (x:List UInt8):V:= .d (.str x)
@[reducible] def V.l {α:Type} (n:Nat) (l:List α) (f:α→List Dat):V:= .d (.sl n (l.map f))
@[reducible] def kC (b:Code) (p:List Nat):It:= .code (cAt b p)
@[reducible] def kL (b:Code) (p:List Nat):It:= .inLoop (cAt b p)
@[reducible] def kO (b:Code) (p:List Nat):It:= .ops (Gw3 (cAt b p)) []
theorem oi{α:Type}{a b:α}(h:some a=some b):a=b:=Option.some.inj h
section
variable {r:Option Nat} {P:Program} {N:Nat} {ds:List Deferred} {fin:Fin} {c:Cfg} {q:U3}
theorem jc(n:Nat){g:FuncId}{ys:List V}{v:V}(he:B1 P g)(hcall:C3 P g ys v)(hk:J r P N ds fin (Gm4 P N (Av2 P N n c) v))(hc:Cq9 P N (Av2 P N n c)=some (g,ys):=by kernel_rfl):J r P N ds fin c:=
 C2 n (Fc2 ys v hc he (Q6.refl _) hcall hk)
theorem dc(n:Nat){g:FuncId}{ys:List V}{v:V}(he:B1 P g)(hcall:C3 P g ys v)(hk:JD r P N ds fin (Eh3 P N (N2 P N n q) v))(hc:Eg7 P N (N2 P N n q)=some (g,ys):=by kernel_rfl)(hb:Gk3 P N (N2 P N n q) v=true:=by kernel_rfl):JD r P N ds fin q:=
 P5 n (Ef0 ys v hc hb he (Q6.refl _) hcall hk)
theorem jcr(n:Nat){g:FuncId}{os:List (Nat×C0)}{ys:List V}{H:List (Nat×C0)}{v:V}(p:List (Nat×Nat))(he:B1 P g)(hcall:K5 P g os ys H v)(hk:J r P N ds fin (Gx2 P N (Av2 P N n c) p H v))(hc:Cg0 P N (Av2 P N n c) p=some (g,os,ys):=by kernel_rfl)(hb:okR P N (Av2 P N n c) p H=true:=by kernel_rfl):J r P N ds fin c:=
 C2 n (Fc3 p ys H v hc hb he (Q6.refl _) hcall hk)
theorem dcr(n:Nat){g:FuncId}{os:List (Nat×C0)}{ys:List V}{H:List (Nat×C0)}{v:V}(p:List (Nat×Nat))(he:B1 P g)(hcall:K5 P g os ys H v)(hk:JD r P N ds fin (Ff7 P N (N2 P N n q) p H v))(hc:Do4 P N (N2 P N n q) p=some (g,os,ys):=by kernel_rfl)(hb:Gq3 P N (N2 P N n q) p H v=true:=by kernel_rfl):JD r P N ds fin q:=
 P5 n (Ef1 p ys H v hc hb he (Q6.refl _) hcall hk)
theorem ji{α:Type}(n t:Nat){b:Bool}{x y z:α}(hF:(bif b then x else y)=z)(ht:b=true→x=z→J r P N ds fin (El3 (Av2 P N n c) t (.d (.bool true))))(hf:b=false→y=z→J r P N ds fin (El3 (Av2 P N n c) t (.d (.bool false))))(hb:G0 N (Av2 P N n c).sl (.tmp t)= .d (.bool b):=by kernel_rfl):J r P N ds fin c:=
 C2 n (Fv5 t hb (fun h=>ht h (by subst h;exact hF)) (fun h=>hf h (by subst h;exact hF)))
theorem di{α:Type}(n t:Nat){b:Bool}{x y z:α}(hF:(bif b then x else y)=z)(ht:b=true→x=z→JD r P N ds fin (Ec7 (N2 P N n q) t (.d (.bool true))))(hf:b=false→y=z→JD r P N ds fin (Ec7 (N2 P N n q) t (.d (.bool false))))(hb:G0 N (N2 P N n q).sl (.tmp t)= .d (.bool b):=by kernel_rfl):JD r P N ds fin q:=
 P5 n (Fc1 t hb (fun h=>ht h (by subst h;exact hF)) (fun h=>hf h (by subst h;exact hF)))
theorem Hc0{α β:Type}{o:Option α}{f:α→Option β}{z:β}(h:Option.bind o f=some z):∃y,o=some y∧f y=some z:=by
 cases o with
 |none=>cases h
 |some y=>exact⟨y,rfl,h⟩
theorem jB(n:Nat){α β:Type}{o:Option α}{f:α→Option β}{z:β}{g:FuncId}{ys:List V}{v:α→V}(hF:Option.bind o f=some z)(he:B1 P g)(hcall:∀{y},o=some y→C3 P g ys (v y))(hk:∀y,f y=some z→J r P N ds fin (Gm4 P N (Av2 P N n c) (v y)))(hc:Cq9 P N (Av2 P N n c)=some (g,ys):=by kernel_rfl):J r P N ds fin c:=by
 obtain⟨y,e,h⟩:=Hc0 hF
 exact jc n he (hcall e) (hk y h) hc
theorem dB(n:Nat){α β:Type}{o:Option α}{f:α→Option β}{z:β}{g:FuncId}{ys:List V}{v:α→V}(hF:Option.bind o f=some z)(he:B1 P g)(hcall:∀{y},o=some y→C3 P g ys (v y))(hk:∀y,f y=some z→JD r P N ds fin (Eh3 P N (N2 P N n q) (v y)))(hc:Eg7 P N (N2 P N n q)=some (g,ys):=by kernel_rfl)(hb:∀y,Gk3 P N (N2 P N n q) (v y)=true:=by intro _;kernel_rfl):JD r P N ds fin q:=by
 obtain⟨y,e,h⟩:=Hc0 hF
 exact dc n he (hcall e) (hk y h) hc (hb y)
theorem jI{α:Type}(n t:Nat){b:Bool}{x y z:α}(hF:(bif b then x else y)=z)(ht:x=z→J r P N ds fin (El3 (Av2 P N n c) t (.d (.bool true))))(hf:y=z→J r P N ds fin (El3 (Av2 P N n c) t (.d (.bool false))))(hb:G0 N (Av2 P N n c).sl (.tmp t)= .d (.bool b):=by kernel_rfl):J r P N ds fin c:=ji n t hF (fun _=>ht) (fun _=>hf) hb
theorem dI{α:Type}(n t:Nat){b:Bool}{x y z:α}(hF:(bif b then x else y)=z)(ht:x=z→JD r P N ds fin (Ec7 (N2 P N n q) t (.d (.bool true))))(hf:y=z→JD r P N ds fin (Ec7 (N2 P N n q) t (.d (.bool false))))(hb:G0 N (N2 P N n q).sl (.tmp t)= .d (.bool b):=by kernel_rfl):JD r P N ds fin q:=di n t hF (fun _=>ht) (fun _=>hf) hb
theorem jo1(n:Nat){o:Option (List Dat)}{x:List Dat}(hx:o=some x)(hk:J r P N ds fin (Gx0 P N (Av2 P N n c) x))(ho:Dw0 P N (Av2 P N n c)=some o:=by kernel_rfl):J r P N ds fin c:=C2 n (E8 x ho hx hk)
theorem jo2(n:Nat){o:Option (List (List Dat))}{x:List (List Dat)}(hx:o=some x)(hk:J r P N ds fin (Gx1 P N (Av2 P N n c) x))(ho:Dw1 P N (Av2 P N n c)=some o:=by kernel_rfl):J r P N ds fin c:=C2 n (E9 x ho hx hk)
theorem do1(n:Nat){o:Option (List Dat)}{x:List Dat}(hx:o=some x)(hk:JD r P N ds fin (Ff5 P N (N2 P N n q) x))(ho:Ff3 P N (N2 P N n q)=some o:=by kernel_rfl)(hb:Gq1 P N (N2 P N n q) x=true:=by kernel_rfl):JD r P N ds fin q:=P5 n (Aq6 x ho hb hx hk)
theorem do2(n:Nat){o:Option (List (List Dat))}{x:List (List Dat)}(hx:o=some x)(hk:JD r P N ds fin (Ff6 P N (N2 P N n q) x))(ho:Ff4 P N (N2 P N n q)=some o:=by kernel_rfl)(hb:Gq2 P N (N2 P N n q) x=true:=by kernel_rfl):JD r P N ds fin q:=P5 n (Aq7 x ho hb hx hk)
theorem jd(n:Nat)(hk:JD r P N ds fin (Dt2 (Av2 P N n c)))(hm:P.follows .mixedOrders=true:=by kernel_rfl)(hd:Dt5 (Av2 P N n c)=true:=by kernel_rfl):J r P N ds fin c:=C2 n (Fv6 hm hd hk)
theorem je(n:Nat)(hk:J r P N ds fin ⟨(N2 P N n q).sl,(N2 P N n q).ob,(N2 P N n q).td⟩)(hr:(N2 P N n q).rest=[]:=by kernel_rfl):JD r P N ds fin q:=P5 n (Fv3 hr hk)
theorem ja(n:Nat){S0:List (Nat×V)}{O0:List (Nat×C0)}{T0:List It}(hk:J r P N ds fin ⟨mkT S0,O0,T0⟩)(hp:prune N (S0.map Prod.fst) (O0.map Prod.fst) (Av2 P N n c)=some (S0,O0,T0):=by kernel_rfl)(hl:Bt7 N (S0.map Prod.fst)=true:=by kernel_rfl):J r P N ds fin c:=C2 n (Dl1 _ _ hp hl hk)
def He7(P:Program)(N:Nat)(c:Cfg)(fn:Func):Option V:=match Dx8 P N c fn.results.toList with|some xs=>some (Df5 xs)|none=>none
theorem jr(n:Nat){fn:Func}{v:V}(hv:He7 P N (Av2 P N n c) fn=some v:=by kernel_rfl)(hN:Nat.ble N 1024=true:=by kernel_rfl):J r P N [] (H3 P fn v) c:=by
 unfold He7 at hv
 split at hv
 ·rename_i xs hx
  exact C2 n (Ce6 (rs:=fn.results.toList) xs (by simp) hN hx (Q6.refl _) (Option.some.inj hv))
 ·cases hv
def Gf2(P:Program)(N:Nat)(c:Cfg)(fn:Func):Option (V×List (Nat×C0)):=match Bz8 P N c fn.results.toList with|some (xs,H)=>some (Df5 xs,H)|none=>none
theorem jrr(n:Nat){fn:Func}{v:V}{H:List (Nat×C0)}(hv:Gf2 P N (Av2 P N n c) fn=some (v,H):=by kernel_rfl)(hN:Nat.ble N 1024=true:=by kernel_rfl):J r P N [] (Dc2 P fn H v) c:=by
 unfold Gf2 at hv
 split at hv
 ·rename_i xs H' hx
  have h1:=Option.some.inj hv
  injection h1 with h2 h3
  subst h3
  exact C2 n (Fv9 (rs:=fn.results.toList) xs (by simp) hN hx (Q6.refl _) h2)
 ·cases hv
theorem cf(N:Nat){g:FuncId}{fn:Func}{args:List V}{v:V}(hf:P.funcs[g]? =some fn)(h:J none P N [] (H3 P fn v) ⟨mkT (Dm5 0 args),[],[.code (C1 fn)]⟩)(hb:fn.body=some (C1 fn):=by kernel_rfl)(hN:fn.ntmps=N:=by rfl)(hv:Nat.ble args.length N=true:=by rfl):C3 P g args v:=Eg1 hf hb hN hv h
theorem cr(N:Nat){g:FuncId}{fn:Func}{os H:List (Nat×C0)}{args:List V}{v:V}(hf:P.funcs[g]? =some fn)(h:J none P N [] (Dc2 P fn H v) ⟨mkT (Dm5 0 args),os,[.code (C1 fn)]⟩)(hb:fn.body=some (C1 fn):=by kernel_rfl)(hN:fn.ntmps=N:=by rfl)(hv:Nat.ble args.length N=true:=by rfl):K5 P g os args H v:=Eg2 hf hb hN hv h
end
end
end Go.Proofs.YtfgbhfphjmmiaaaGreatDoor.Kx
end
