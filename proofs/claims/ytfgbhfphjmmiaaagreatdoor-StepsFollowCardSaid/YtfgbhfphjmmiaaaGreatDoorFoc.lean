/- One part of the texts that lead to the theorem; it claims nothing by itself. -/
import GoSem.ClaimChange
import GoSem.ClaimWide
import Derived.Lay
import Derived.LaidMore
import Derived.ProofKit
import Derived.OpenShut
import Derived.Handed
import Derived.Stop.Joined
import Derived.SevenTiedAt
import Derived.KernelRfl
import Derived.Test.YtfgbhfphjmmiaaaGreatDoorFob
section
namespace Go.Proofs.YtfgbhfphjmmiaaaGreatDoor.Kx
open Go Go.RowKit
def HeapM(W:World):Mem:=fun b=>match W.heap[b]? with|some (.cells c _ _)=>some c|_=>none
theorem HeapM_sits(W:World):Sits (HeapM W) W:=fun b c h=>by
 unfold HeapM at h
 split at h
 ·rename_i c' e z hh;cases h;exact⟨_,e,z,hh,Pre.refl _⟩
 ·cases h
theorem cell_at{W:World}{a:Addr}{v:Value}(h:W.cell? a=some v):∃c,HeapM W a.block=some c∧a.spot=none∧c[a.off]? =some v:=by
 unfold World.cell? at h
 split at h
 ·rename_i c e z hh
  split at h
  ·cases h
  ·rename_i hs
   exact⟨c,by unfold HeapM;rw[hh],by simpa using hs,h⟩
 ·cases h
theorem mapM_get{α β:Type}{f:α→Option β}:∀{l:List α} {us:List β},l.mapM f=some us→us.length=l.length∧∀(i:Nat) (x:α),l[i]? =some x→∃y,us[i]? =some y∧f x=some y
 |[],us,h=>by simp at h;subst h;exact⟨rfl,fun i x h=>by simp at h⟩
 |a::l,us,h=>by
  rw[List.mapM_cons]at h
  simp only[Option.bind_eq_bind,Option.bind_eq_some_iff,Option.pure_def,Option.some.injEq]at h
  obtain⟨y,hy,ys,hys,rfl⟩:=h
  obtain⟨h1,h2⟩:=mapM_get hys
  refine⟨by simp[h1],fun i x hi=> ?_⟩
  cases i with
  |zero=>simp at hi;subst hi;exact⟨y,by simp,hy⟩
  |succ i=>simpa using h2 i x (by simpa using hi)
theorem cells_at{W:World}{a:Addr}{n:Nat}{us:List Value}(h:W.cells? 0 a n=some us):us.length=n∧∀i,i<n→W.cell? (a.add i)=us[i]? :=by
 unfold World.cells? at h
 rw[if_pos (Nat.zero_le _)]at h
 obtain⟨h1,h2⟩:=mapM_get h
 refine⟨by simpa using h1,fun i hi=> ?_⟩
 obtain⟨y,hy,hf⟩:=h2 i i (by simp[hi])
 rw[hf,hy]
theorem add_off{a:Addr}(hs:a.spot=none)(n:Nat):a.add n=⟨a.block,a.off+n,none⟩:=by
 unfold Addr.add
 split
 ·rename_i h;subst h;cases a;simp at hs⊢;exact hs
 ·rfl
theorem add_zero'(a:Addr):a.add 0=a:=by simp[Addr.add]
def FitS(F:TypeId→List Dat→Prop):List Field→List Dat→Prop
 |[],ds=>ds=[]
 |f::fs,ds=>∃x y,ds=x++y∧F f.type x∧FitS F fs y
def FitA(F:List Dat→Prop):Nat→List Dat→Prop
 |0,ds=>ds=[]
 |n+1,ds=>∃x y,ds=x++y∧F x∧FitA F n y
def Fit(P:Program):Nat→TypeId→List Dat→Prop
 |0,_,_=>False
 |n+1,t,ds=>match P.underlying t with
  |some .bool=>∃b,ds=[.bool b]
  |some (.int k)=>∃m,ds=[.int k m]∧(Lit.int k m).wf=true
  |some .string=>∃s,ds=[.str s]∧s.length≤maxLen
  |some (.slice e)=>∃es,ds=[.sl (P.cellsOf e) es]∧es.length≤maxLen∧∀x∈es,Fit P n e x
  |some (.struct fs)=>FitS (Fit P n) fs.toList ds
  |some (.array k e)=>FitA (Fit P n e) k ds
  |_=>False
def contig(P:Program)(okT:TypeId→Bool):List Field→Nat→Nat→Bool
 |[],o,tot=>Nat.beq o tot
 |f::fs,o,tot=>match Nat.beq f.offset o,okT f.type with|true,true=>contig P okT fs (o+P.cellsOf f.type) tot|_,_=>false
def okT(P:Program):Nat→TypeId→Bool
 |0,_=>false
 |n+1,t=>match P.underlying t with
  |some .bool=>true
  |some (.int _)=>true
  |some .string=>true
  |some (.slice e)=>match Nat.ble 1 (P.cellsOf e) with|true=>okT P n e|false=>false
  |some (.struct fs)=>contig P (okT P n) fs.toList 0 (P.cellsOf t)
  |some (.array k e)=>match Nat.beq (k*P.cellsOf e) (P.cellsOf t) with|true=>okT P n e|false=>false
  |_=>false
section
variable {H:Type} {enc:TypeId×Value→H} {P:Program} {W:World}
theorem trod_struct{G:TypeId→List Value→Option (DataW H×List MemPlace)}{F:TypeId→List Dat→Prop}{okt:TypeId→Bool}(hG:∀t cs x,okt t=true→G t cs=some x→∃ds,RelDs (HeapM W) ds cs∧F t ds):
 ∀(fs:List Field) (o:Nat) (cs:List Value) (xs:List (DataW H×List MemPlace)),contig P okt fs o cs.length=true→fs.mapM (fun f=>G f.type ((cs.drop f.offset).take (P.cellsOf f.type)))=some xs→o≤cs.length→∃ds,RelDs (HeapM W) ds (cs.drop o)∧FitS F fs ds
 |[],o,cs,xs,hc,_,_=>by
  have:o=cs.length:=Nat.eq_of_beq_eq_true hc
  rw[List.drop_eq_nil_of_le (by omega)]
  exact⟨[],by simp[RelDs],rfl⟩
 |f::fs,o,cs,xs,hc,hm,ho=>by
  unfold contig at hc
  split at hc
  ·rename_i hb hok
   have hb:=Nat.eq_of_beq_eq_true hb
   rw[List.mapM_cons]at hm
   simp only[Option.bind_eq_bind,Option.bind_eq_some_iff,Option.pure_def,Option.some.injEq]at hm
   obtain⟨y,hy,ys,hys,_⟩:=hm
   rw[hb]at hy
   obtain⟨d1,r1,f1⟩:=hG _ _ _ hok hy
   have hle:o+P.cellsOf f.type≤cs.length:=by
    have key:∀(fs:List Field) (o tot:Nat),contig P okt fs o tot=true→o≤tot:=fun fs=>by
     induction fs with
     |nil=>intro o tot h;have:=Nat.eq_of_beq_eq_true h;omega
     |cons g gs ih=>
      intro o tot h
      unfold contig at h
      split at h
      ·have:=ih _ _ h;omega
      ·cases h
    exact key fs _ _ hc
   obtain⟨d2,r2,f2⟩:=trod_struct hG fs (o+P.cellsOf f.type) cs ys hc hys hle
   refine⟨d1++d2,?_,d1,d2,rfl,f1,f2⟩
   have e:cs.drop o=(cs.drop o).take (P.cellsOf f.type)++cs.drop (o+P.cellsOf f.type):=by
    rw[←List.drop_drop,List.take_append_drop]
   rw[e]
   exact r1.append r2
  ·cases hc
theorem trod_array{G:List Value→Option (DataW H×List MemPlace)}{F:List Dat→Prop}{sz:Nat}(hG:∀cs x,G cs=some x→∃ds,RelDs (HeapM W) ds cs∧F ds):
 ∀(n j:Nat) (cs:List Value),cs.length=(j+n)*sz→(∀i,i<n→∃x,G ((cs.drop ((j+i)*sz)).take sz)=some x)→∃ds,RelDs (HeapM W) ds (cs.drop (j*sz))∧FitA F n ds
 |0,j,cs,hl,_=>⟨[],by rw[List.drop_eq_nil_of_le (by rw[hl];simp)];simp[RelDs],rfl⟩
 |n+1,j,cs,hl,h=>by
  obtain⟨x,hx⟩:=h 0 (by omega)
  obtain⟨d1,r1,f1⟩:=hG _ _ hx
  obtain⟨d2,r2,f2⟩:=trod_array hG n (j+1) cs (by rw[hl];congr 1;omega) (fun i hi=>by obtain⟨y,hy⟩:=h (i+1) (by omega);exact⟨y,by rw[show j+1+i=j+(i+1) by omega];exact hy⟩)
  refine⟨d1++d2,?_,d1,d2,rfl,f1,f2⟩
  have e:cs.drop (j*sz)=(cs.drop ((j+0)*sz)).take sz++cs.drop ((j+1)*sz):=by
   rw[Nat.add_zero,Nat.add_mul,Nat.one_mul,←List.drop_drop,List.take_append_drop]
  rw[e]
  exact r1.append r2
theorem trod_rel:∀(m:Nat) (t:TypeId) (n:Nat) (cs:List Value) (x:DataW H×List MemPlace),okT P m t=true→DataW.trod enc P W 0 (fun _=>true) true n t cs=some x→∃ds,RelDs (HeapM W) ds cs∧Fit P m t ds
 |0,_,_,_,_,h,_=>by cases h
 |m+1,t,0,cs,x,_,h=>by cases h
 |m+1,t,n+1,cs,x,hk,h=>by
  unfold okT at hk
  split at hk
  ·rename_i hu
   unfold DataW.trod at h
   rw[hu]at h
   split at h<;>first|(exfalso;simp_all;done)|skip
   rename_i b he
   exact⟨[.bool b],⟨_,[],rfl,.bool b,rfl⟩,by unfold Fit;rw[hu];exact⟨b,rfl⟩⟩
  ·rename_i k hu
   unfold DataW.trod at h
   rw[hu]at h
   split at h<;>first|(exfalso;simp_all;done)|skip
   rename_i k1 k2 q he
   cases he
   split at h
   ·rename_i hkk
    obtain⟨rfl,hwf⟩:=hkk
    exact⟨[.int _ q],⟨_,[],rfl,.int _ q,rfl⟩,by unfold Fit;rw[hu];exact⟨q,rfl,hwf⟩⟩
   ·cases h
  ·rename_i hu
   unfold DataW.trod at h
   rw[hu]at h
   split at h<;>first|(exfalso;simp_all;done)|skip
   rename_i s he
   split at h
   ·rename_i hs
    refine⟨[.str s.data.toList],⟨_,[],rfl,?_,rfl⟩,by unfold Fit;rw[hu];exact⟨_,rfl,by simpa using hs⟩⟩
    have:strv s.data.toList= .string s:=by simp[strv]
    rw[←this]
    exact .str _
   ·cases h
  ·rename_i e hu
   split at hk
   ·rename_i hsz
    have hsz:=Nat.le_of_ble_eq_true hsz
    unfold DataW.trod at h
    rw[hu]at h
    split at h<;>first|(exfalso;simp_all;done)|skip
    ·exact⟨[.sl (P.cellsOf e) []],⟨_,[],rfl,.sl _ [] none 0 0 0 (fun _=>[]) (Nat.le_refl _) (fun h=>absurd rfl h) (fun i hi=>by simp at hi) (fun i cs hi=>by simp at hi) (fun i j cs c u hi=>by simp at hi),rfl⟩,by unfold Fit;rw[hu];exact⟨[],rfl,Nat.zero_le _,fun x hx=>by cases hx⟩⟩
    ·rename_i e' a len cap he
     cases he
     split at h
     ·rename_i hle
      obtain⟨_,hlc,hcap⟩:=hle
      simp only[Option.bind_eq_some_iff]at h
      obtain⟨elems,hel,_⟩:=h
      obtain⟨hlen,hget⟩:=mapM_get hel
      rw[List.length_range]at hlen
      have hone:∀i,i<len→∃us ds,W.cells? 0 (a.add (i*P.cellsOf e)) (P.cellsOf e)=some us∧RelDs (HeapM W) ds us∧Fit P m e ds:=fun i hi=>by
       obtain⟨y,_,hy⟩:=hget i i (by simp[hi])
       simp only[Option.bind_eq_some_iff]at hy
       obtain⟨us,h1,h2⟩:=hy
       obtain⟨ds,h3,h4⟩:=trod_rel m e n us y hk h2
       exact⟨us,ds,h1,h3,h4⟩
      have hch:∃es:List (List Dat),es.length=len∧∀i d,es[i]? =some d→∃us,W.cells? 0 (a.add (i*P.cellsOf e)) (P.cellsOf e)=some us∧RelDs (HeapM W) d us∧Fit P m e d:=by
       have build:∀k,k≤len→∃es:List (List Dat),es.length=k∧∀i d,es[i]? =some d→∃us,W.cells? 0 (a.add (i*P.cellsOf e)) (P.cellsOf e)=some us∧RelDs (HeapM W) d us∧Fit P m e d:=fun k=>by
        induction k with
        |zero=>exact fun _=>⟨[],rfl,fun i d h=>by simp at h⟩
        |succ k ih=>
         intro hk'
         obtain⟨es,h1,h2⟩:=ih (by omega)
         obtain⟨us,ds,h3,h4,h5⟩:=hone k (by omega)
         refine⟨es++[ds],by simp[h1],fun i d hi=> ?_⟩
         by_cases hik:i<es.length
         ·rw[List.getElem?_append_left hik]at hi;exact h2 i d hi
         ·rw[List.getElem?_append_right (by omega)]at hi
          have:i-es.length=0:=by
           cases hz:i-es.length with
           |zero=>rfl
           |succ z=>rw[hz]at hi;simp at hi
          rw[this]at hi
          simp at hi
          subst hi
          have:i=k:=by omega
          subst this
          exact⟨us,h3,h4,h5⟩
       exact build len (Nat.le_refl _)
      obtain⟨es,hes,hall⟩:=hch
      have hspot:0<len→a.spot=none:=fun h0=>by
       obtain⟨us,ds,h1,_⟩:=hone 0 h0
       obtain⟨h2,h3⟩:=cells_at h1
       have h4:=h3 0 (by omega)
       rw[Nat.zero_mul,add_zero',add_zero']at h4
       rw[List.getElem?_eq_getElem (by omega)]at h4
       obtain⟨c,_,h5,_⟩:=cell_at h4
       exact h5
      refine⟨[.sl (P.cellsOf e) es],⟨_,[],rfl,?_,rfl⟩,by unfold Fit;rw[hu];exact⟨es,rfl,by omega,fun x hx=>by obtain⟨i,hi⟩:=List.mem_iff_getElem?.1 hx;obtain⟨us,_,_,h⟩:=hall i x hi;exact h⟩⟩
      have hus:∃us:Nat→List Value,∀i d,es[i]? =some d→W.cells? 0 (a.add (i*P.cellsOf e)) (P.cellsOf e)=some (us i)∧RelDs (HeapM W) d (us i):=by
       refine⟨fun i=>(W.cells? 0 (a.add (i*P.cellsOf e)) (P.cellsOf e)).getD [],fun i d hi=> ?_⟩
       obtain⟨us,h1,h2,_⟩:=hall i d hi
       dsimp only
       rw[h1]
       exact⟨rfl,h2⟩
      obtain⟨us,hus⟩:=hus
      rw[←hes]
      refine .sl _ es (some a) cap a.block a.off us (by omega) (fun hne=> ?_) (fun i hi=> ?_) (fun i d hi=> ?_) (fun i j d c u hi hj hu=> ?_)
      ·have:0<es.length:=List.length_pos_iff.2 hne
       have:=hspot (by omega)
       cases a;simp at this⊢;exact this
      ·obtain⟨h1,h2⟩:=hus i es[i] (List.getElem?_eq_getElem hi)
       obtain⟨h3,h4⟩:=cells_at h1
       have hs:=hspot (by omega)
       have h40:=h4 0 (by omega)
       rw[List.getElem?_eq_getElem (show 0<(us i).length by omega)]at h40
       obtain⟨c,h5,_,_⟩:=cell_at h40
       rw[add_off hs,add_off rfl]at h5
       refine⟨c,h5,fun j hj=> ?_⟩
       have h4j:=h4 j (by omega)
       rw[List.getElem?_eq_getElem hj]at h4j
       obtain⟨c',h6,_,h7⟩:=cell_at h4j
       rw[add_off hs,add_off rfl]at h6 h7
       rw[h5]at h6
       cases h6
       rw[List.getElem?_eq_getElem hj]
       exact h7
      ·obtain⟨h1,h2⟩:=hus i d hi
       have:=(cells_at h1).1
       have:=h2.len
       omega
      ·exact(hus i d hi).2.get hj hu
     ·cases h
   ·cases hk
  ·rename_i fs hu
   unfold DataW.trod at h
   rw[hu]at h
   split at h<;>first|(exfalso;simp_all;done)|skip
   rename_i fs' cs' he
   cases he
   split at h
   ·rename_i hlen
    simp only[Option.map_eq_some_iff]at h
    obtain⟨xs,hxs,_⟩:=h
    obtain⟨ds,h1,h2⟩:=trod_struct (P:=P) (W:=W) (G:=fun t cs=>DataW.trod enc P W 0 (fun _=>true) true n t cs) (F:=Fit P m) (okt:=okT P m) (fun t cs x h1 h2=>trod_rel m t n cs x h1 h2) fs.toList 0 _ xs (by rw[hlen];exact hk) hxs (Nat.zero_le _)
    exact⟨ds,by simpa using h1,by unfold Fit;rw[hu];exact h2⟩
   ·cases h
  ·rename_i k e hu
   split at hk
   ·rename_i hsz
    have hsz:=Nat.eq_of_beq_eq_true hsz
    unfold DataW.trod at h
    rw[hu]at h
    split at h<;>first|(exfalso;simp_all;done)|skip
    rename_i k' e' cs' he
    cases he
    split at h
    ·rename_i hlen
     simp only[Option.map_eq_some_iff]at h
     obtain⟨xs,hxs,_⟩:=h
     obtain⟨_,hget⟩:=mapM_get hxs
     obtain⟨ds,h1,h2⟩:=trod_array (W:=W) (G:=fun cs=>DataW.trod enc P W 0 (fun _=>true) true n e cs) (F:=Fit P m e) (sz:=P.cellsOf e) (fun cs x h=>trod_rel m e n cs x hk h) k 0 _ (by rw[hlen,←hsz,Nat.zero_add]) (fun i hi=>by
      obtain⟨y,_,hy⟩:=hget i i (by simp[hi])
      exact⟨y,by rw[Nat.zero_add];exact hy⟩)
     exact⟨ds,by simpa using h1,by unfold Fit;rw[hu];exact h2⟩
    ·cases h
   ·cases hk
  ·cases hk
section
variable {P:Program} {n:Nat} {t:TypeId} {ds:List Dat}
theorem Fit_int{k:IntKind}(hu:P.underlying t=some (.int k))(h:Fit P (n+1) t ds):∃m,ds=[.int k m]∧(Lit.int k m).wf=true:=by unfold Fit at h;rw[hu]at h;exact h
theorem Fit_slice{e:TypeId}(hu:P.underlying t=some (.slice e)){sz:Nat}(hs:P.cellsOf e=sz)(h:Fit P (n+1) t ds):∃es,ds=[.sl sz es]∧es.length≤maxLen∧∀x∈es,Fit P n e x:=by unfold Fit at h;rw[hu]at h;subst hs;exact h
theorem Fit_struct{fs:Array Field}(hu:P.underlying t=some (.struct fs))(h:Fit P (n+1) t ds):FitS (Fit P n) fs.toList ds:=by unfold Fit at h;rw[hu]at h;exact h
theorem Fit_array{k:Nat}{e:TypeId}(hu:P.underlying t=some (.array k e))(h:Fit P (n+1) t ds):FitA (Fit P n e) k ds:=by unfold Fit at h;rw[hu]at h;exact h
theorem Fit_list{α:Type}{en:α→List Dat}{Q:α→Prop}{F:List Dat→Prop}(h:∀x,F x→∃y,x=en y∧Q y):∀(es:List (List Dat)),(∀x∈es,F x)→∃l:List α,es=l.map en∧∀y∈l,Q y
 |[],_=>⟨[],rfl,fun y h=>by cases h⟩
 |x::es,hx=>by
  obtain⟨y,rfl,hy⟩:=h x (hx x List.mem_cons_self)
  obtain⟨l,rfl,hl⟩:=Fit_list h es (fun x h=>hx x (List.mem_cons_of_mem _ h))
  exact⟨y::l,rfl,fun z hz=>by rcases List.mem_cons.1 hz with rfl|hz;exact hy;exact hl z hz⟩
theorem okAggS{W:World}{r:Reach}{base:Nat}{v:Value}{fs:Array Field}(hu:P.underlying t=some (.struct fs))(h:Value.okWide P W r base t v):∃cs,v= .agg cs:=by
 unfold Value.okWide at h;rw[hu]at h;obtain⟨cs,e,_⟩:=h;exact⟨cs,e⟩
theorem relV_agg'{M:Mem}{cs:Array Value}(h:RelDs M ds cs.toList):RelV M noR (.agg (dV ds)) (.agg cs):=by
 simp only[RelV]
 exact⟨cs.toList,by simp,RelVs.dV h⟩
theorem relV_one{M:Mem}{d:Dat}{v:Value}(h:RelDs M [d] [v]):RelV M noR (.d d) v:=by
 obtain⟨u,us,e,h1,_⟩:=h
 cases e
 simp only[RelV]
 exact h1
end
end
end Go.Proofs.YtfgbhfphjmmiaaaGreatDoor.Kx
end
section
namespace Go.Proofs.YtfgbhfphjmmiaaaGreatDoor.Kx
open Go Go.RowKit
section
variable {H:Type} {enc:TypeId×Value→H} {P:Program} {W:World} {M:Mem} {b:Nat} {sp:Nat→Bool} {held:Bool}
theorem cells_of_heap{g:Nat}{cs:Array Value}{t:TypeId}{tag:Nat×Nat}(h:W.heap[g]? =some (.cells cs t tag)):Cells (HeapM W) g 0 cs.toList:=
 ⟨cs,by unfold HeapM;rw[h],fun j hj=>by simp⟩
theorem heap_of_var{n:String}{g:Nat}{cs:Array Value}(hg:P.globalNamed n=some g)(h:W.var? P n=some cs):∃e z,W.heap[g]? =some (.cells cs e z):=by
 simp only[World.var?,hg,Option.bind_some]at h
 split at h
 ·rename_i e
  cases h
  exact⟨_,_,e⟩
 ·cases h
theorem cells_of_var{n:String}{g:Nat}{cs:Array Value}(hg:P.globalNamed n=some g)(h:W.var? P n=some cs):Cells (HeapM W) g 0 cs.toList:=by
 simp only[World.var?,hg,Option.bind_some]at h
 split at h
 ·rename_i e
  cases h
  exact cells_of_heap e
 ·cases h
def dw:DataW H→Option Dat
 | .lit (.int k z)=>some (.int k z)
 | .lit (.string s)=>some (.str s)
 | .lit (.bool x)=>some (.bool x)
 | .iface _ _=>some (.ife true)
 |_=>none
def okE(P:Program)(t:TypeId):Bool:=
 match P.underlying t with
 |some .bool=>true
 |some (.int _)=>true
 |some .string=>true
 |some (.interface _)=>true
 |_=>false
theorem el1{t:TypeId}{fuel:Nat}{cs:List Value}{d:DataW H}{q:List MemPlace}{x:Dat}(hk:okE P t=true)(h:DataW.trod enc P W b sp held fuel t cs=some (d,q))(hd:dw d=some x):∃v,cs=[v]∧RelD M x v:=by
 cases fuel with
 |zero=>simp[DataW.trod]at h
 |succ n=>
  unfold okE at hk
  split at hk
  ·rename_i hu
   unfold DataW.trod at h
   rw[hu]at h
   split at h<;>first|(simp_all;done)|skip
   rename_i c _ _
   simp only[Option.some.injEq,Prod.mk.injEq]at h
   obtain⟨rfl,_⟩:=h
   cases hd
   exact⟨_,rfl,.bool _⟩
  ·rename_i hu
   obtain⟨z,rfl,hx,_⟩:=DataW.trod_int hu h
   cases hx
   cases hd
   exact⟨_,rfl,.int _ _⟩
  ·rename_i hu
   obtain⟨s,rfl,hx,_⟩:=DataW.trod_string hu h
   cases hx
   cases hd
   refine⟨_,rfl,?_⟩
   have:=RelD.str (M:=M) s.data.toList
   simpa[strv] using this
  ·rename_i hu
   unfold DataW.trod at h
   rw[hu]at h
   split at h<;>first|(simp_all;done)|skip
   ·cases h;cases hd
   ·split at h
    ·cases h;cases hd
    ·rename_i nm _
     simp only[Option.map_eq_some_iff,Prod.mk.injEq]at h
     obtain⟨_,_,rfl,_⟩:=h
     cases hd
     exact⟨_,rfl,.ifc _ _⟩
    ·cases h
  ·cases hk
theorem arr1{t e:TypeId}{k fuel:Nat}{cs:List Value}{ds:List (DataW H)}{q:List MemPlace}{xs:List Dat}(ht:P.underlying t=some (.array k e))(hk:okE P e=true)(hc:P.cellsOf e=1)(hct:P.cellsOf t=k)
 (h:DataW.trod enc P W b sp held fuel t cs=some (.agg ds,q)) (hd:ds.mapM dw=some xs):RelDs M xs cs:=by
 obtain⟨ys,m,_,ex,hl,hn,hel⟩:=DataW.trod_array ht h
 have ed:ds=ys.map (·.1):=DataW.agg.inj (Prod.mk.inj ex).1
 have hm:=mapM_get hd
 refine RelDs.of_get (by rw[hl,hct,hm.1,ed,List.length_map,hn]) (fun j c u h1 h2=> ?_)
 have hj:j<k:=by
  have:=(List.getElem?_eq_some_iff.mp h2).1
  omega
 have hy:ys[j]? =some ys[j]:=List.getElem?_eq_getElem (by omega)
 have h3:=hel j hj
 rw[hy,hc,Nat.mul_one]at h3
 have hdj:ds[j]? =some (ys[j]).1:=by rw[ed,List.getElem?_map,hy];rfl
 obtain⟨y,e1,e2⟩:=hm.2 j _ hdj
 obtain rfl:y=c:=Option.some.inj (e1.symm.trans h1)
 obtain⟨v,e3,e4⟩:=el1 (M:=M) hk (show DataW.trod enc P W b sp held m e _=some ((ys[j]).1,(ys[j]).2) from h3) e2
 have e5:cs[j]? =some v:=by
  have:((cs.drop j).take 1)[0]? =some v:=by rw[e3];rfl
  simpa using this
 obtain rfl:v=u:=Option.some.inj (e5.symm.trans h2)
 exact e4
end
section
variable {P:Program} {W:World} {laid:List (String×DataW Unit)}
theorem laidVars_get:∀{laid:List (String×DataW Unit)} {ps:List MemPlace} {i:Nat} {n:String} {d:DataW Unit},DataW.LaidVars P W laid ps→laid[i]? =some (n,d)→
 ∃g t cs fuel p,P.globalNamed n=some g∧(P.globals[g]?).map (·.type)=some t∧W.var? P n=some cs∧DataW.trod (fun _=>()) P W 0 (fun _=>true) false fuel t cs.toList=some (d,p)
 |[],_,_,_,_,_,h=>by simp at h
 |(m,e)::l,ps,0,n,d,h,hi=>by
  obtain⟨g,t,cs,fuel,p,q,h1,h2,h3,h4,_⟩:=h
  simp only[List.getElem?_cons_zero,Option.some.injEq,Prod.mk.injEq]at hi
  obtain⟨rfl,rfl⟩:=hi
  exact⟨g,t,cs,fuel,p,h1,h2,h3,h4⟩
 |(m,e)::l,ps,i+1,n,d,h,hi=>by
  obtain⟨_,_,_,_,_,q,_,_,_,_,h5,_⟩:=h
  exact laidVars_get h5 (by simpa using hi)
theorem gl_arr(hl:laidMet P laid W)(i:Nat){n:String}{ds:List (DataW Unit)}{g:Nat}{t e:TypeId}{k:Nat}{xs:List Dat}(hm:laid[i]? =some (n,.agg ds))(hg:P.globalNamed n=some g)(htt:(P.globals[g]?).map (·.type)=some t)
 (ht:P.underlying t=some (.array k e)) (hk:okE P e=true) (hc:P.cellsOf e=1) (hct:P.cellsOf t=k) (hd:ds.mapM dw=some xs):(∃us,Cells (HeapM W) g 0 us∧RelDs (HeapM W) xs us)∧∃c e z,W.heap[g]? =some (.cells c e z)∧c.size=(xs:List Dat).length:=by
 obtain⟨ps,h,_⟩:=hl
 obtain⟨g',t',cs,fuel,p,h1,h2,h3,h4⟩:=laidVars_get h hm
 obtain rfl:=Option.some.inj (hg.symm.trans h1)
 obtain rfl:=Option.some.inj (htt.symm.trans h2)
 have hr:=arr1 (M:=HeapM W) ht hk hc hct h4 hd
 obtain⟨e',z',hh⟩:=heap_of_var hg h3
 exact⟨⟨_,cells_of_var hg h3,hr⟩,_,_,_,hh,by rw[←hr.len,Array.length_toList]⟩
theorem gl_one(hl:laidMet P laid W)(i:Nat){n:String}{d:DataW Unit}{g:Nat}{t:TypeId}{x:Dat}(hm:laid[i]? =some (n,d))(hg:P.globalNamed n=some g)(htt:(P.globals[g]?).map (·.type)=some t)
 (hk:okE P t=true) (hd:dw d=some x):(∃us,Cells (HeapM W) g 0 us∧RelDs (HeapM W) [x] us)∧∃c e z,W.heap[g]? =some (.cells c e z)∧c.size=([x]:List Dat).length:=by
 obtain⟨ps,h,_⟩:=hl
 obtain⟨g',t',cs,fuel,p,h1,h2,h3,h4⟩:=laidVars_get h hm
 obtain rfl:=Option.some.inj (hg.symm.trans h1)
 obtain rfl:=Option.some.inj (htt.symm.trans h2)
 obtain⟨v,e,r⟩:=el1 (M:=HeapM W) hk h4 hd
 obtain⟨e',z',hh⟩:=heap_of_var hg h3
 exact⟨⟨_,cells_of_var hg h3,v,[],e,r,rfl⟩,_,_,_,hh,by rw[←Array.length_toList,e];rfl⟩
theorem gl_x(hs:W.ShapedOpen P){g:Nat}{zero:Array Value}{t:TypeId}{k:IntKind}(hlt:g<P.globals.size)(hz:((begin P (fun _ _=>0) default).world.heap[g]?).bind Obj.row? =some (zero,t))
 (h1:zero.size=1) (hb:P.buildable t=true) (hu:P.underlying t=some (.int k)) (ht:P.cellTypes P.depth t=some [t]):∃m,Cells (HeapM W) g 0 [.int k m]:=by
 obtain⟨cs,e1,e2,e3⟩:=hs.1 g zero t hlt hz
 obtain⟨ts,e4,_,e5⟩:=e3 hb
 obtain rfl:=Option.some.inj (ht.symm.trans e4)
 have e6:cs[0]? =some cs[0]:=Array.getElem?_eq_getElem (by omega)
 obtain⟨u,e7,e8⟩:=e5 0 _ e6
 simp at e7
 subst e7
 unfold Cell.ok at e8
 rw[hu]at e8
 generalize hv:cs[0]'(by omega)=v at e8 e6
 cases v<;>simp only at e8
 obtain⟨rfl,_⟩:=e8
 rename_i m _
 refine⟨m,cs,by unfold HeapM;rw[e1],fun j hj=> ?_⟩
 obtain rfl:j=0:=by simp at hj;omega
 simpa using e6
def allG(Q:Nat→List Dat→Prop):List (Nat×List Dat)→Prop
 |[]=>True
 |x::l=>Q x.1 x.2∧allG Q l
theorem glIn_all{Q:Nat→List Dat→Prop}:∀{l:List (Nat×List Dat)} {n:Nat} {cs:List Dat},allG Q l→glIn l n=some cs→Q n cs
 |[],_,_,_,h=>by cases h
 |(m,x)::l,n,cs,hq,h=>by
  unfold glIn at h
  cases hb:Nat.beq n m with
  |true=>
   rw[hb]at h
   cases h
   obtain rfl:=Nat.eq_of_beq_eq_true hb
   exact hq.1
  |false=>
   rw[hb]at h
   exact glIn_all hq.2 h
end
theorem returns_of_change_open{H:Type}{enc:TypeId×Value→H}{a:Assume}{C:Checked}{os:Os}{f:FuncId}{fn:Func}{s:ChangeSpec}{conds:List PathCond}{apart fresh handsOn again:Bool}{X:World→Array Value→Prop}
 (hX:∀(w w':World) (args:Array Value),w.heap=w'.heap→X w args→X w' args)
 (own:ownKnob C.prog.godebug=none) (started:os.Started) (noInit:C.prog.inits.idxOf? f=none) (hfn:C.prog.funcs[f]? =some fn)
 (witness:∃(w:World) (tape:Tape) (i:Input),w.os=os∧(w.forCall tape i).Shaped C.prog∧i.vars=[]∧Input.okWide C.prog (w.forCall tape i) .any w.heap.size f i∧
  ((s.pre enc C.prog fn conds apart (w.forCall tape i).memory i.args∧X (w.forCall tape i).memory i.args)∧sizedMet enc C.prog fn (OpenSpec.ofChange s) apart (w.forCall tape i).memory i.args)∧a.holds C.prog (lone (Frame.enter C.prog f i.args .normal) [] (w.forCall tape i)))
 (contract:∀(W:World) (base:Nat) (args:Array Value) (ds gs:List (DataW H)) (before:List MemPlace),
  (∀(j:Nat) t v,fn.params[j]? =some t→args[j]? =some v→Value.okWide C.prog W .any base t v)→
  DataW.Whole enc C.prog fn.params.toList s.vars apart W args.toList ds gs before→
  conds.all (PathCond.test C.prog ⟨fn.params.toList,ds,s.plain.varTypes C.prog,gs⟩)=true→
  X W args→W.ShapedOpen C.prog→
  Calls C.prog f args W fun e W'=>∃v,e= .returned v∧s.post enc C.prog fn apart fresh handsOn again W args v W'):
 ReturnsInHanded a C os f .any (fun w args=>(s.pre enc C.prog fn conds apart w args∧X w args)∧sizedMet enc C.prog fn (OpenSpec.ofChange s) apart w args) (s.post enc C.prog fn apart fresh handsOn again):=by
 refine returnsInHanded_of_calls own started noInit witness ?_
 intro w tape i _ hsh _ hok hpre hholds
 obtain⟨_,_,_,fn',hfn',_,_,_,_,hval⟩:=hok
 have e:fn'=fn:=Option.some.inj (hfn'.symm.trans hfn)
 subst e
 obtain⟨⟨⟨ds,gs,before,hw,hc⟩,hx⟩,hz⟩:=hpre
 have hw':=DataW.Whole.of_heap (w':=w.forCall tape i) (by rfl) hw
 refine(contract (w.forCall tape i) w.heap.size i.args ds gs before hval hw' hc (hX _ _ _ (by rfl) hx) hsh).mono fun e W' ⟨v,he,hp⟩=> ?_
 subst he
 exact ChangeSpec.post_blind hp
end Go.Proofs.YtfgbhfphjmmiaaaGreatDoor.Kx
end
section
namespace Go.Proofs.YtfgbhfphjmmiaaaGreatDoor.Kx
open Go Go.RowKit
@[reducible] def V.i (x:Int):V:= .d (.int .i64 x)
@[reducible] def V.n (x:Int):V:= .d (.int .u64 x)
@[reducible] def V.w (x:Int):V:= .d (.int .u32 x)
@[reducible] def V.y (x:Int):V:= .d (.int .u8 x)
@[reducible] def V.b (x:Bool):V:= .d (.bool x)
@[reducible] def V.s (x:List UInt8):V:= .d (.str x)
@[reducible] def V.l {α:Type} (n:Nat) (l:List α) (f:α→List Dat):V:= .d (.sl n (l.map f))
@[reducible] def kC (b:Code) (p:List Nat):It:= .code (cAt b p)
@[reducible] def kL (b:Code) (p:List Nat):It:= .inLoop (cAt b p)
@[reducible] def kO (b:Code) (p:List Nat):It:= .ops (opsOf (cAt b p)) []
theorem oi{α:Type}{a b:α}(h:some a=some b):a=b:=Option.some.inj h
section
variable {r:Option Nat} {P:Program} {N:Nat} {ds:List Deferred} {fin:Fin} {c:Cfg} {q:CfgD}
theorem jc(n:Nat){g:FuncId}{ys:List V}{v:V}(he:entersT P g)(hcall:CallF P g ys v)(hk:J r P N ds fin (resC P N (advN P N n c) v))(hc:callOf P N (advN P N n c)=some (g,ys):=by kernel_rfl):J r P N ds fin c:=
 J_adv n (J_callF ys v hc he (Res'.refl _) hcall hk)
theorem dc(n:Nat){g:FuncId}{ys:List V}{v:V}(he:entersT P g)(hcall:CallF P g ys v)(hk:JD r P N ds fin (dresC P N (advdN P N n q) v))(hc:dcall P N (advdN P N n q)=some (g,ys):=by kernel_rfl)(hb:dokC P N (advdN P N n q) v=true:=by kernel_rfl):JD r P N ds fin q:=
 JD_adv n (JD_callF ys v hc hb he (Res'.refl _) hcall hk)
theorem jcr(n:Nat){g:FuncId}{os:List (Nat×IObj)}{ys:List V}{H:List (Nat×IObj)}{v:V}(p:List (Nat×Nat))(he:entersT P g)(hcall:CallR P g os ys H v)(hk:J r P N ds fin (resR P N (advN P N n c) p H v))(hc:callROf P N (advN P N n c) p=some (g,os,ys):=by kernel_rfl)(hb:okR P N (advN P N n c) p H=true:=by kernel_rfl):J r P N ds fin c:=
 J_adv n (J_callR p ys H v hc hb he (Res'.refl _) hcall hk)
theorem dcr(n:Nat){g:FuncId}{os:List (Nat×IObj)}{ys:List V}{H:List (Nat×IObj)}{v:V}(p:List (Nat×Nat))(he:entersT P g)(hcall:CallR P g os ys H v)(hk:JD r P N ds fin (dresR P N (advdN P N n q) p H v))(hc:dcallR P N (advdN P N n q) p=some (g,os,ys):=by kernel_rfl)(hb:dokR P N (advdN P N n q) p H v=true:=by kernel_rfl):JD r P N ds fin q:=
 JD_adv n (JD_callR p ys H v hc hb he (Res'.refl _) hcall hk)
theorem ji{α:Type}(n t:Nat){b:Bool}{x y z:α}(hF:(bif b then x else y)=z)(ht:b=true→x=z→J r P N ds fin (putV (advN P N n c) t (.d (.bool true))))(hf:b=false→y=z→J r P N ds fin (putV (advN P N n c) t (.d (.bool false))))(hb:evalV N (advN P N n c).sl (.tmp t)= .d (.bool b):=by kernel_rfl):J r P N ds fin c:=
 J_adv n (J_bool t hb (fun h=>ht h (by subst h;exact hF)) (fun h=>hf h (by subst h;exact hF)))
theorem di{α:Type}(n t:Nat){b:Bool}{x y z:α}(hF:(bif b then x else y)=z)(ht:b=true→x=z→JD r P N ds fin (putD (advdN P N n q) t (.d (.bool true))))(hf:b=false→y=z→JD r P N ds fin (putD (advdN P N n q) t (.d (.bool false))))(hb:evalV N (advdN P N n q).sl (.tmp t)= .d (.bool b):=by kernel_rfl):JD r P N ds fin q:=
 JD_adv n (JD_bool t hb (fun h=>ht h (by subst h;exact hF)) (fun h=>hf h (by subst h;exact hF)))
theorem jo1(n:Nat){o:Option (List Dat)}{x:List Dat}(hx:o=some x)(hk:J r P N ds fin (res1 P N (advN P N n c) x))(ho:opt1Of P N (advN P N n c)=some o:=by kernel_rfl):J r P N ds fin c:=J_adv n (J_opt1 x ho hx hk)
theorem jo2(n:Nat){o:Option (List (List Dat))}{x:List (List Dat)}(hx:o=some x)(hk:J r P N ds fin (res2 P N (advN P N n c) x))(ho:opt2Of P N (advN P N n c)=some o:=by kernel_rfl):J r P N ds fin c:=J_adv n (J_opt2 x ho hx hk)
theorem do1(n:Nat){o:Option (List Dat)}{x:List Dat}(hx:o=some x)(hk:JD r P N ds fin (dres1 P N (advdN P N n q) x))(ho:dopt1 P N (advdN P N n q)=some o:=by kernel_rfl)(hb:dok1 P N (advdN P N n q) x=true:=by kernel_rfl):JD r P N ds fin q:=JD_adv n (JD_opt1 x ho hb hx hk)
theorem do2(n:Nat){o:Option (List (List Dat))}{x:List (List Dat)}(hx:o=some x)(hk:JD r P N ds fin (dres2 P N (advdN P N n q) x))(ho:dopt2 P N (advdN P N n q)=some o:=by kernel_rfl)(hb:dok2 P N (advdN P N n q) x=true:=by kernel_rfl):JD r P N ds fin q:=JD_adv n (JD_opt2 x ho hb hx hk)
theorem jd(n:Nat)(hk:JD r P N ds fin (inDraw (advN P N n c)))(hm:P.follows .mixedOrders=true:=by kernel_rfl)(hd:isDraw (advN P N n c)=true:=by kernel_rfl):J r P N ds fin c:=J_adv n (J_draw hm hd hk)
theorem je(n:Nat)(hk:J r P N ds fin ⟨(advdN P N n q).sl,(advdN P N n q).ob,(advdN P N n q).td⟩)(hr:(advdN P N n q).rest=[]:=by kernel_rfl):JD r P N ds fin q:=JD_adv n (JD_end hr hk)
theorem ja(n:Nat){S0:List (Nat×V)}{O0:List (Nat×IObj)}{T0:List It}(hk:J r P N ds fin ⟨mkT S0,O0,T0⟩)(hp:prune N (S0.map Prod.fst) (O0.map Prod.fst) (advN P N n c)=some (S0,O0,T0):=by kernel_rfl)(hl:allLt N (S0.map Prod.fst)=true:=by kernel_rfl):J r P N ds fin c:=J_adv n (J_at _ _ hp hl hk)
def retS(P:Program)(N:Nat)(c:Cfg)(fn:Func):Option V:=match retOf P N c fn.results.toList with|some xs=>some (tupV xs)|none=>none
theorem jr(n:Nat){fn:Func}{v:V}(hv:retS P N (advN P N n c) fn=some v:=by kernel_rfl)(hN:Nat.ble N 1024=true:=by kernel_rfl):J r P N [] (finF P fn v) c:=by
 unfold retS at hv
 split at hv
 ·rename_i xs hx
  exact J_adv n (J_ret (rs:=fn.results.toList) xs (by simp) hN hx (Res'.refl _) (Option.some.inj hv))
 ·cases hv
def retRS(P:Program)(N:Nat)(c:Cfg)(fn:Func):Option (V×List (Nat×IObj)):=match retROf P N c fn.results.toList with|some (xs,H)=>some (tupV xs,H)|none=>none
theorem jrr(n:Nat){fn:Func}{v:V}{H:List (Nat×IObj)}(hv:retRS P N (advN P N n c) fn=some (v,H):=by kernel_rfl)(hN:Nat.ble N 1024=true:=by kernel_rfl):J r P N [] (finR P fn H v) c:=by
 unfold retRS at hv
 split at hv
 ·rename_i xs H' hx
  have h1:=Option.some.inj hv
  injection h1 with h2 h3
  subst h3
  exact J_adv n (J_retR (rs:=fn.results.toList) xs (by simp) hN hx (Res'.refl _) h2)
 ·cases hv
theorem cf(N:Nat){g:FuncId}{fn:Func}{args:List V}{v:V}(hf:P.funcs[g]? =some fn)(h:J none P N [] (finF P fn v) ⟨mkT (argT 0 args),[],[.code (bodyOf fn)]⟩)(hb:fn.body=some (bodyOf fn):=by kernel_rfl)(hN:fn.ntmps=N:=by rfl)(hv:Nat.ble args.length N=true:=by rfl):CallF P g args v:=callF_of hf hb hN hv h
theorem cr(N:Nat){g:FuncId}{fn:Func}{os H:List (Nat×IObj)}{args:List V}{v:V}(hf:P.funcs[g]? =some fn)(h:J none P N [] (finR P fn H v) ⟨mkT (argT 0 args),os,[.code (bodyOf fn)]⟩)(hb:fn.body=some (bodyOf fn):=by kernel_rfl)(hN:fn.ntmps=N:=by rfl)(hv:Nat.ble args.length N=true:=by rfl):CallR P g os args H v:=callR_of hf hb hN hv h
end
end Go.Proofs.YtfgbhfphjmmiaaaGreatDoor.Kx
end
