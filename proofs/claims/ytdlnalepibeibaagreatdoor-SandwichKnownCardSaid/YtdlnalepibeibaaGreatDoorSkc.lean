/- One part of the texts that lead to the theorem; it claims nothing by itself. -/
import Derived.RecoverIn
import Derived.Laws.Externs
import GoSem.ClaimChange
import GoSem.ClaimWide
import Derived.Lay
import Derived.LaidMore
import Derived.ProofKit
import Derived.OpenShut
import Derived.Handed
import Derived.Stop.Joined
import Derived.SevenTiedAt
import Derived.KernelRfl
import Derived.Test.YtdlnalepibeibaaGreatDoorSkb
section
namespace Go.Proofs.YtdlnalepibeibaaGreatDoor.Kx
open Go Go.RowKit
section
theorem B2.split{M:Mem}{ρ:Rho}:∀{us vs:List Value} {xs:List V},B2 M ρ xs (us++vs)→B2 M ρ (xs.take us.length) us∧B2 M ρ (xs.drop us.length) vs
 |us,vs,xs,h=>by
  have h1:=B2.take us.length h
  have h2:=B2.drop us.length h
  simp at h1 h2
  exact⟨h1,h2⟩
def Ds1(c:Cfg)(vs:List V):Option (List V):=match I2 (A9 c.ob) vs with|some (xs,_)=>some xs|none=>none
def obR(c:Cfg)(vs:List V):List (Nat×B7):=match I2 (A9 c.ob) vs with|some (_,wr)=>K5 c.ob wr|none=>c.ob
theorem Dw6{r:Option Nat}{P:Program}{N:Nat}{ds:List Deferred}{fin:Fin}{c:Cfg}(q:Nat){te:TypeId}(cs:List V)(hq:A9 c.ob q=some (.box te cs))(hx:(Ds1 c [.ptr q 0]).isSome=true)(hk:J r P N ds fin ⟨c.sl,obR c [.ptr q 0],c.td⟩):J r P N ds fin c:=by
 refine⟨hk.1,fun S wl M0 hH M ρ f w ha=> ?_⟩
 obtain⟨i,hi,hf,_⟩:=ha.ow.own q _ hq
 have hu:B2 M ρ [.ptr q 0] [.pointer (some ⟨i.b,0,none⟩)]:=by
  simp only[B2,B8]
  exact⟨_,_,rfl,⟨i,hi,hf,rfl⟩,rfl⟩
 cases hx':I2 (A9 c.ob) [.ptr q 0] with
 |none=>simp[Ds1,hx']at hx
 |some p=>
  obtain⟨xs,wr⟩:=p
  obtain⟨M',r0,o0,_⟩:=E1 ha.ow hu hx'
  rw[Br6]at o0
  have e:obR c [.ptr q 0]=K5 c.ob wr:=by unfold obR;rw[hx']
  rw[e]at hk
  exact hk.2 S wl M0 hH M' ρ f w ⟨o0,ha.ok,fun t ht=>B8.mono r0 _ (ha.sl t ht)⟩
theorem Bf7{r:Option Nat}{P:Program}{g:Operand}{ps:Array Tmp}{assign body:Code}{Q:Exit→Act→World→Prop}{a:Act}{w:World}
 (h:∀fn,(∃x,P.funcs[fn]? =some x)→∃(l:Nat) (mark:List Deferred) (w₁:World) (d:Deferred) (w₁':World) (f:FuncId) (args:Array Value) (w₂:World),
  (Instr.enterLoop fn a.tmps ps assign body r).run P w= .ok (l,mark) w₁∧
  (resolve a.eval (rangeCall g l) 0).run P w₁= .ok d w₁'∧
  (invoke d.target d.args).run P w₁'= .ok (.enter f args) w₂∧
  CallsIn (WF r) 0 P f args w₂ (fun e w₃=>match e with
   | .returned _=>∃jump w₄,(Instr.endLoop l).run P w₃= .ok jump w₄∧(match jump with|none=>Q .normal {a with defers:=mark++a.defers} w₄|some c=>W r P c Q {a with defers:=mark++a.defers} w₄)
   | .panicked chain=>Q (.panic chain) {a with defers:=mark++a.defers} w₃
   | .outgrown=>False)):
 W r P (.rangeFunc g ps assign body) Q a w:=by
 unfold W
 intro b k cs hro hb
 obtain⟨l,mark,w₁,d,w₁',f,args,w₂,he,hres,hinv,hF,hcall⟩:=h b.fn hb
 rw[←hro]at he
 have h0:(lone (b.atR a (.code (.rangeFunc g ps assign body)::k)) cs w).fenced P (WF r):=
  fenced_lone (.inl trivial) (fun f' _=>trivial) (Q3 _ _)
 have henter:=stepR_rangeFunc (P:=P) (b:=b) (a:=a) (k:=k) (cs:=cs) (w:=w) he hres hinv
 obtain⟨e,w₃,fr,hR,hsteps,hfn,hleave⟩:=hcall (b.atR {a with defers:=mark++a.defers} (.inRangeFunc l::k)::cs) (Q3 _ _)
 cases e with
 |outgrown=>exact hR.elim
 |returned v=>
  have hl:(lone fr (b.atR {a with defers:=mark++a.defers} (.inRangeFunc l::k)::cs) w₃).fenced P (WF r):=fenced_leaving (n:=0) trivial (Q3 _ _) hleave
  obtain⟨jump,w₄,hend,hj⟩:=hR
  have sback:StepsIn (Machine.fenced P (WF r)) P (lone (b.atR a (.code (.rangeFunc g ps assign body)::k)) cs w) (lone (b.atR {a with defers:=mark++a.defers} ((jump.map Item.code).toList++k)) cs w₄):=by
   refine .head h0 henter (StepsIn.trans hsteps (.head hl ?_ (.one (H4 (fr:=b.atR {a with defers:=mark++a.defers} (.endRangeFunc l::k)) rfl) (stepR_endRangeFunc hend))))
   rw[←finish_atR_inRangeFunc l v];exact step_leave_returned hleave
  cases jump with
  |none=>exact⟨.normal,_,w₄,hj,sback⟩
  |some c=>
   obtain⟨e',a'',w₅,hq,harr⟩:=Bs3 hj b k cs hro hb
   exact⟨e',a'',w₅,hq,.of_steps sback harr⟩
 |panicked chain=>
  have hl:(lone fr (b.atR {a with defers:=mark++a.defers} (.inRangeFunc l::k)::cs) w₃).fenced P (WF r):=fenced_leaving (n:=0) trivial (Q3 _ _) hleave
  refine⟨.panic chain,_,w₃,hR,.inRangeFunc l::k,.head h0 henter (StepsIn.trans hsteps (.one hl ?_))⟩
  rw[←Frame.raise_atR];exact step_leave_panicked hleave
def Cf9(N:Nat)(c:Cfg)(p:List (Nat×Nat))(vs:List V)(keep ids:List Nat):Option (List (Nat×B7)×List V×List (Nat×V)×List (Nat×B7)):=match W2 (A9 c.ob) p vs with
 |some (os,xs,wr)=>match pos ids (A9 (K5 c.ob wr)) ids,Av8 ids (K5 c.ob wr),N3 (K5 c.ob wr),Am9 ids (F5 p),N3 os,A9 os 2000 with
  |some obs,true,true,true,true,none=>some (os,xs,Bb0 N ids (A9 (K5 c.ob wr)) c.sl keep,obs)
  |_,_,_,_,_,_=>none
 |none=>none
def Bc0(K:List Nat)(v:V):V:=match K7 K v with|true=>v|false=> .undef
theorem Bi6(K:List Nat):Bc0 K .undef= .undef:=by unfold Bc0;split<;>rfl
theorem Bg6{ob3:List (Nat×B7)}{ob':Nat→Option B7}(hids:∀r,C9 r (E4 ob3)=true→ob' r=A9 ob3 r):L9 (E4 ob3) (E4 ob3) ob'=A9 ob3:=funext fun r=>by
 cases hm:C9 r (E4 ob3) with
 |true=>rw[J3 hm hm,hids r hm]
 |false=>
  have:A9 ob3 r=none:=by
   cases ho:A9 ob3 r with
   |none=>rfl
   |some o=>rw[G1.2 ⟨o,ho⟩]at hm;cases hm
  simp only[L9,hm,this]
theorem Bm6{P:Program}{N:Nat}{fn0:Func}{R0:Ending→World→Prop}{w00:Bas}{M00:Mem}{hr:Rho}{base:List Deferred}{Ds:List Nat}{c:Cfg}{g:Operand}{ps:Array Tmp}{asg bo:Code}{k:List It}{gf:FuncId}{first cap xs:List V}{os:List (Nat×B7)}{S1:List (Nat×V)}{ob0:List (Nat×B7)}(p:List (Nat×Nat))(keep ids:List Nat)(yl:List V){ysAll:List (List V)}{fl:Bool}(K KP:List Nat)(Good:List (List V)→List (Nat×B7)→Prop)(GoodX:Code→List (Nat×B7)→Prop)(GoodP:List (Nat×B7)→Prop)
 (hN:Nat.ble N 1024=true) (ht:c.td= .code (.rangeFunc g ps asg bo)::k) (hk:Al8 k=true) (hv:Ad0 N c=some (gf,first,cap)) (hl:An1 N keep=true) (hx:Cf9 N c p (first++cap) keep ids=some (os,xs,S1,ob0)) (hre:H9 xs yl) (he:A8 P gf)
 (hit:Bs0 P gf ((2000,.frn 2000)::os) (yl.take first.length++ .yl 2000::yl.drop first.length) ysAll fl∨(Ck1 P gf ((2000,.frn 2000)::os) (yl.take first.length++ .yl 2000::yl.drop first.length) ysAll fl∧∀ob,¬Good [] ob)) (hK:X4 K=true) (hkept:Av8 K ob0=true) (hslots:U6 K (mkT S1)=true) (hKP:Ci3 KP K=true) (hg0:Good ysAll ob0) (hnf:∀ys ob,Good ys ob→okB K ob=true) (hnfX:∀j ob,GoodX j ob→okB K ob=true) (hnfP:∀ob,GoodP ob→okB KP ob=true) (hnfP0:fl=true→∀ob,Good [] ob→okB KP ob=true)
 (hfree:A9 ob0 3000=none∧A9 ob0 3001=none)
 (hJ:∀x:Lp,x.as=asg→x.bo=bo→x.ps=ps→∀y ys ob,Good (y::ys) ob→∃sl',Ad5 N (mkT S1) ps.toList y=some sl'∧J (some x.L) P N [] (Ch9 x Good GoodX GoodP ys) ⟨sl',rob x .ready none ob,[.code asg,.begR x.L,.code bo]⟩)
 (hdone:fl=false→∀D ob,Good [] ob→J none P N (Ag4 base (D::Ds)) (An0 P fn0 R0 w00 M00 hr (D::Ds)) ⟨mkT S1,ob,k⟩)
 (hstop:∀D ob j,GoodX j ob→J none P N (Ag4 base (D::Ds)) (An0 P fn0 R0 w00 M00 hr (D::Ds)) ⟨mkT S1,ob,.code j::k⟩)
 (hdie:fl=true→∀D ob,Good [] ob→JP N (Ag4 base (D::Ds)) (An0 P fn0 R0 w00 M00 hr (D::Ds)) (J9 (Bc0 KP) (mkT S1)) ob)
 (hpan:∀D ob,GoodP ob→JP N (Ag4 base (D::Ds)) (An0 P fn0 R0 w00 M00 hr (D::Ds)) (J9 (Bc0 KP) (mkT S1)) ob):J none P N (Ag4 base Ds) (An0 P fn0 R0 w00 M00 hr Ds) c:=by
 have hN:=F2 hN
 unfold Cf9 at hx
 split at hx
 case h_2=>cases hx
 rename_i os' xs' wr hh
 split at hx
 case h_2=>cases hx
 rename_i obs hpos hkeptI hnfw hdj hnfos h2000
 cases hx
 refine⟨hN,fun S wl M0 hH Mo ρo f w hao=> ?_⟩
 obtain⟨g',ps',as',bo',k',ht',hf⟩:=Bc5 hv
 rw[ht]at ht'
 cases ht'
 obtain⟨fs,cs,hge,hfs,hcs⟩:=hf (ds:=Ag4 base Ds) hao
 rw[ht]
 simp only[Wk,Exit.then]
 refine Bf7 (fun fn hfn=> ?_)
 --what is handed out
 unfold W2 at hh
 split at hh
 case h_2=>cases hh
 rename_i xs0 wr0 hargs0 hbij hbig
 split at hh
 case h_2=>cases hh
 rename_i hcl
 cases hh
 obtain⟨M,r0,o1,d1⟩:=Q5 hao.ow (hfs.append hcs) hargs0
 have hp:=o1.part (F5 p) (F5 p) (fun x o hm hx=>D5 hcl x o hm hx)
 have eR:Ad1 p (I8 (F5 p) ρo)=Ad1 p ρo:=by
  funext t
  unfold Ad1
  split
  ·rename_i q hq
   exact E3 (D8.2 ⟨t,W1 hbij hq⟩)
  ·rfl
 have eO:O4 p (L9 (F5 p) (F5 p) (wrO (A9 c.ob) wr))=O4 p (wrO (A9 c.ob) wr):=by
  funext t
  unfold O4
  split
  ·rename_i q hq
   rw[J3 (D8.2 ⟨t,W1 hbij hq⟩) (D8.2 ⟨t,W1 hbij hq⟩)]
  ·rfl
 have hq:=hp.ren (r1:=Ad1 p ρo) hbij (fun q o t hq ho=>by
  have hm:=D8.2 ⟨t,hq⟩
  rw[J3 hm hm]at ho
  have:=D5 hcl q o hm ho
  cases o<;>first|rfl|cases this) (fun t i _ hi=>⟨i,by rw[eR];exact hi,Ile.refl i⟩)
 rw[eR,eO,←Bi8 hbij]at hq
 have hargs:=hre.rel (J6 hbij _ d1)
 have hlen:fs.length=first.length:=hfs.len
 rw[Br6]at o1 hq h2000 hnfos hit
 have hosE:A9 (Bc2 p (A9 (K5 c.ob wr)) p)=O4 p (A9 (K5 c.ob wr)):=Bi8 hbij _
 --what is kept
 have o0:=o1.prune (ids:=ids) (fun q o hb hq=>V5 hkeptI hq hb) hpos
 have hsl:∀t,t<N→B8 M (Bq2 ids ρo) ((mkT (Bb0 N ids (A9 (K5 c.ob wr)) c.sl keep)).get 10 t) (f t):=fun t ht=>R2 hN _ (fun t v hm=>by
  obtain⟨rfl,h7⟩:=Al5 hm
  have hlt:=U9 hl t h7
  refine⟨hlt,Cf0 o1 _ ?_⟩
  have:=B8.mono r0 _ (hao.sl t hlt)
  simp only[E7,show Nat.blt t N=true by simpa[Nat.blt_eq] using hlt]
  exact this) t ht
 have hTA0:∀b,TA (Ad1 p ρo) (O4 p (A9 (K5 c.ob wr))) b→¬TA (Bq2 ids ρo) (A9 ob0) b∧(S b∨wl.heap.size≤b)∧b<w.heap.size:=fun b hb=>by
  obtain⟨q,i,o,hi,ho,hlv⟩:=hb
  obtain⟨r',o',h1,h2,rfl⟩:=V6 ho
  unfold Ad1 at hi
  rw[h1]at hi
  dsimp only at hi
  have hlv:=Aw8 hlv
  have hta:TA ρo (A9 (K5 c.ob wr)) b:=⟨r',i,o',hi,h2,hlv⟩
  refine⟨fun hta'=> ?_,I1 o1 hta⟩
  obtain⟨q',i',o2,hi',ho',hl'⟩:=hta'
  obtain⟨hm',x,hx,hlx⟩:=Bu9 hpos ho'
  unfold Bq2 at hi'
  rw[hm']at hi'
  dsimp only at hi'
  cases hρ:ρo q' with
  |none=>rw[hρ]at hi';cases hi'
  |some j=>
   rw[hρ]at hi'
   cases hi'
   have:=o1.inj q' r' x o' j i _ hx h2 hρ hi (hlx j _ hl') hlv
   subst this
   have:=O9 hdj _ (P4 hm')
   rw[D8.2 ⟨q,W1 hbij h1⟩]at this
   cases this
 have ha:Abs S wl M0 M (Bq2 ids ρo) N ⟨mkT (Bb0 N ids (A9 (K5 c.ob wr)) c.sl keep),ob0,[]⟩ f w:=⟨o0,W4 _,hsl⟩
 generalize Bb0 N ids (A9 (K5 c.ob wr)) c.sl keep=S1 at*
 generalize Bq2 ids ρo=ρ at*
 have hargs':=hargs.split
 rw[hlen]at hargs'
 --the record and the deferred block
 let x:Lp:=⟨w.heap.size,w.heap.size+1,fn,(fr N f []).tmps,ps,asg,bo⟩
 have hdisj:∀r,A9 (rob x .ready none ob0) r=L0 (L0 (A9 ob0) 3000 (.raw x.D (.deferred (some [])))) 3001 (.raw x.L (.loop (E0 x .ready none))) r:=fun r=>by
  simp only[rob,A9,L0]
  by_cases e:r=3001
  ·subst e;rfl
  ·rw[G0 e]<;>dsimp only<;>cases Nat.beq r 3000<;>rfl
 have hM:∀b,w.heap.size≤b→M b=none:=fun b hb=>by
  cases hm:M b with
  |none=>rfl
  |some c=>exact absurd (ha.ow.sits.lt hm) (by omega)
 let w1:=(w.alloc (.deferred (some []))).alloc (.loop {state:= .ready,pending:=none,fn,tmps:=(fr N f (Ag4 base Ds)).tmps,params:=ps,assign:=asg,body:=bo,defers:=w.heap.size})
 have hs1:(w.alloc (.deferred (some []))).heap.size=w.heap.size+1:=by simp
 obtain⟨r1,o1'⟩:=ha.ow.alloc (d:=3000) hfree.1 (.deferred (some [])) ⟨w.heap.size,0,0,0,0,0,true,[]⟩ (.raw x.D (.deferred (some []))) rfl (fun ρ' _ hm=>⟨rfl,rfl,⟨.inr ha.ow.size,hm⟩,World.alloc_heap_new _ _⟩)
 obtain⟨r2,o2⟩:=o1'.alloc (d:=3001) (by rw[C6 _ _ (by omega)];exact hfree.2) (.loop (E0 x .ready none)) ⟨w.heap.size+1,0,0,0,0,0,true,[]⟩ (.raw x.L (.loop (E0 x .ready none))) hs1.symm (fun ρ' _ hm=>⟨rfl,rfl,⟨.inr (Nat.le_succ_of_le ha.ow.size),by rw[hs1]at hm;exact hm⟩,by show((w.alloc (.deferred (some []))).alloc (.loop (E0 x .ready none))).heap[w.heap.size+1]? =some (.loop (E0 x .ready none));rw[←hs1];exact World.alloc_heap_new _ _⟩)
 have hob:L0 (L0 (A9 ob0) 3000 (.raw x.D (.deferred (some [])))) 3001 (.raw x.L (.loop (E0 x .ready none)))=A9 (rob x .ready none ob0):=funext fun r=>(hdisj r).symm
 rw[hob]at o2
 have r12:=r1.trans r2
 generalize hρ2:L0 (L0 ρ 3000 (⟨w.heap.size,0,0,0,0,0,true,[]⟩:Inf)) 3001 (⟨w.heap.size+1,0,0,0,0,0,true,[]⟩:Inf)=ρ2 at o2 r12 r2
 have o2:Ow S wl M0 M ρ2 (A9 (rob x .ready none ob0)) w1:=o2
 have hw1:∀b,b<w.heap.size→w1.heap[b]? =w.heap[b]? :=fun b hb=>by
  show((w.alloc (.deferred (some []))).alloc (.loop (E0 x .ready none))).heap[b]? =w.heap[b]?
  rw[Below.heap_alloc _ _ _ (by rw[hs1];omega),Below.heap_alloc _ _ _ hb]
 --what is kept of the numbers
 have hbig':∀r i,I8 K ρ r=some i→Nat.ble 2000 r=true:=fun r i h=>Ae0 hK (D7 h).1
 have hhr:∀r i,hr r=some i→Nat.ble 2000 r=true→∃j,I8 K ρ r=some j∧Ile i j:=fun r i hi hb=>by
  obtain⟨j,h1,h2⟩:=ha.ow.held r i hb (by rw[show S.r0=hr from hH.1];exact hi)
  obtain⟨o,ho⟩:=ha.ow.dom r j h1
  exact⟨j,by rw[E3 (V5 hkept ho hb)];exact h1,h2⟩
 have hnfr:∀(st:LoopState) (pe:Option Code) (ob:List (Nat×B7)),(∀q z,A9 ob q≠some (.frn z))→∀q z,A9 (rob x st pe ob) q≠some (.frn z):=fun st pe ob h q z=>by
  simp only[rob,A9]
  split
  ·intro e;cases e
  ·split
   ·intro e;cases e
   ·exact h q z
 --another table of what was handed in
 have hS:∀{r0 r0':Rho} {M:Mem} {ρ:Rho} {ob:Nat→Option B7} {w:World},Ow ⟨S.s,r0⟩ wl M0 M ρ ob w→(∀q z,ob q≠some (.frn z))→(∀r i,Nat.ble 2000 r=true→r0' r=some i→∃j,ρ r=some j∧Ile i j)→Ow ⟨S.s,r0'⟩ wl M0 M ρ ob w:=fun{r0 r0' M ρ ob w} h hn hh=>by
  refine⟨h.size,h.os,h.tape,h.output,h.old,h.sits,h.le,h.gl,h.new,fun q o hq=> ?_,h.dom,h.inj,hh⟩
  obtain⟨i,hi,hok⟩:=h.own q o hq
  refine⟨i,hi,?_⟩
  cases o with
  |frn z=>exact absurd hq (hn q z)
  |tree g e sz shs es hh=>exact hok
  |box te cs=>exact hok
  |buf g e sz es=>exact hok
  |fzs g sz es=>exact hok
  |fzb cs=>exact hok
  |mapo kk ag sz es=>exact hok
  |raw b x=>exact hok
 have o3:Ow ⟨S.s,I8 K ρ⟩ wl M0 M ρ2 (A9 (rob x .ready none ob0)) w1:=hS (r0:=S.r0) o2 (hnfr _ _ _ (D9 (Ah0 (hnf _ _ hg0)).1)) (fun r i hb hi=>r12.ext r i (D7 hi).2)
 have hR:Q2 P (w.heap.size+1) (Cs1 x S wl M0 (I8 K ρ) M Good) (Br8 x S wl M0 (I8 K ρ) M GoodX) (Ed9 x S wl M0 (I8 K ρ) M GoodP):=
  ⟨Cs1.it,Br8.it,fun y ys T M w vals h1 h2 h3 h4=>Co3 (f:=f) (sl:=mkT S1) hfn hN rfl ha.ok (fun t ht=>Aa7 _ (N9 10 (mkT S1) t hslots) (ha.sl t ht)) hbig' (fun ys ob h=>D9 (Ah0 (hnf ys ob h)).1) (hJ x rfl rfl rfl) y ys T M w vals h1 h2 h3 h4⟩
 --the iterator's own
 let ρq:=Ad1 p ρo
 let ρI:Rho:=fun r=>match Nat.beq r 2000 with|true=>some ⟨w.heap.size+1,0,0,0,0,0,true,[]⟩|false=>ρq r
 have hρI:∀r,r≠2000→ρI r=ρq r:=fun r e=>by simp only[ρI,G0 e]
 have hq2000:ρq 2000=none:=by
  cases h:ρq 2000 with
  |none=>rfl
  |some i=>
   obtain⟨o,ho⟩:=hq.dom 2000 i h
   rw[h2000]at ho;cases ho
 have hnfos':=Cr4 hnfos
 have rI:Rle M M ρq ρI:=⟨M.le_refl,fun r i hi=>⟨i,by rw[hρI r (fun e=>by rw[e,hq2000]at hi;cases hi)];exact hi,Ile.refl i⟩⟩
 have hqb:=hq.base (w':=w1) (r0:=noR) M.le_refl o2.sits (by show w.heap.size≤((w.alloc (.deferred (some []))).alloc (.loop (E0 x .ready none))).heap.size;rw[World.size_alloc,World.size_alloc];omega) (fun b hb=>⟨hw1 b (I1 hq hb).2,rfl⟩) (fun q i hq' _=>absurd hq' (hnfos' q q)) (fun q z hq'=>absurd hq' (hnfos' q z)) (fun _ _ _ h=>by cases h) (hq.szw.frame fun k hk _=>hw1 k hk)
 have hI:Ow ⟨TA ρq (A9 (Bc2 p (A9 (K5 c.ob wr)) p)),ρI⟩ w1 M M ρI (A9 ((2000,.frn 2000)::Bc2 p (A9 (K5 c.ob wr)) p)) w1:=by
  refine⟨Nat.le_refl _,rfl,rfl,rfl,fun _ _ _=>rfl,o2.sits,M.le_refl,hqb.gl,fun _ _ hb _=> .inl hb,fun r o h=> ?_,fun r i h=> ?_,fun r r' o o' i i' b h1 h2 h3 h4 l1 l2=> ?_,fun r i _ hi=>⟨i,hi,Ile.refl i⟩⟩
  ·simp only[A9]at h
   split at h
   ·rename_i e
    cases h
    obtain rfl:=Nat.eq_of_beq_eq_true e
    exact⟨_,rfl,rfl⟩
   ·rename_i e
    have hne:r≠2000:=fun e'=>by subst e';simp at e
    obtain⟨i,hi,hok⟩:=hqb.own r o h
    refine⟨i,by rw[hρI r hne];exact hi,?_⟩
    have hok:=hok.mono rI (fun _ _=>rfl) (fun _ _=>rfl)
    cases o with
    |frn z=>exact absurd h (hnfos' r z)
    |tree g e sz shs es hh=>exact hok
    |box te cs=>exact hok
    |buf g e sz es=>exact hok
    |fzs g sz es=>exact hok
    |fzb cs=>exact hok
    |mapo kk ag sz es=>exact hok
    |raw b x=>exact hok
  ·by_cases e:r=2000
   ·subst e;exact⟨_,rfl⟩
   ·rw[hρI r e]at h
    obtain⟨o,ho⟩:=hqb.dom r i h
    exact⟨o,by simp only[A9,G0 e];exact ho⟩
  ·have hne:∀{r o i b},A9 ((2000,B7.frn 2000)::Bc2 p (A9 (K5 c.ob wr)) p) r=some o→blk i o b→r≠2000:=fun{r o i b} h hl e=>by
    subst e
    simp only[A9]at h
    cases h
    exact Z5 rfl rfl hl
   have e1:=hne h1 l1
   have e2:=hne h2 l2
   simp only[A9,G0 e1]at h1
   simp only[A9,G0 e2]at h2
   rw[hρI r e1]at h3
   rw[hρI r' e2]at h4
   exact hqb.inj r r' o o' i i' b h1 h2 h3 h4 l1 l2
 have hT0:∀b,TA ρq (A9 (Bc2 p (A9 (K5 c.ob wr)) p)) b→¬TA ρ2 (A9 (rob x .ready none ob0)) b∧(S b∨wl.heap.size≤b):=fun b hb=>by
  rw[hosE]at hb
  obtain⟨h1,h2,h3⟩:=hTA0 b hb
  refine⟨fun hta=> ?_,h2⟩
  obtain⟨q,i,o,hi,ho,hlv⟩:=hta
  rw[←hρ2]at hi
  simp only[rob,A9]at ho
  by_cases e1:q=3001
  ·subst e1;rw[B9]at hi;cases hi;have hbb:=(Z4 hlv (by rw[←Option.some.inj ho];rfl)).2;dsimp only at hbb;omega
  ·rw[C6 _ _ e1]at hi
   by_cases e0:q=3000
   ·subst e0;rw[B9]at hi;cases hi;have hbb:=(Z4 hlv (by rw[←Option.some.inj ho];rfl)).2;dsimp only at hbb;omega
   ·rw[C6 _ _ e0]at hi
    simp only[G0 e0,G0 e1]at ho
    exact h1 ⟨q,i,o,hi,ho,hlv⟩
 have hcall:=(hit.elim (fun h=>h (w.heap.size+1) _ _ _ hR) (fun h=>h.1 (w.heap.size+1) _ _ _ hR (fun T M w ⟨_,_,ob,hg,_⟩=>h.2 ob hg))) _ M ρI w1 (fs++ .func (.yield (w.heap.size+1)) #[] #[]::cs) ⟨w.heap.size+1,0,0,0,0,0,true,[]⟩ hI
  ⟨M.le_refl,ρ2,ob0,hg0,o3,hT0⟩ rfl rfl
  ((B2.mono rI _ hargs'.1).append (by
   simp only[B2]
   exact⟨_,_,rfl,⟨⟨w.heap.size+1,0,0,0,0,0,true,[]⟩,rfl,rfl,rfl⟩,B2.mono rI _ hargs'.2⟩))
 refine⟨w.heap.size+1,[{target:= .collected w.heap.size,args:= #[]}],w1,{target:= .fn (.func gf) cs.toArray,args:=fs.toArray++ #[.func (.yield (w.heap.size+1)) #[] #[]]},w1,gf,(fs++ .func (.yield (w.heap.size+1)) #[] #[]::cs).toArray,w1,run_enterLoop_outer _ _ _ _ _,?_,?_,CallsIn.mono (Bn7 (r:=none) hcall) ?_⟩
 ·have:(fr N f (Ag4 base Ds)).eval g= .func (.func gf) fs.toArray cs.toArray:=hge
  have h2:(fr N f (Ag4 base Ds)).eval (.const (.func (.yield (w.heap.size+1)) #[] #[]))= .func (.yield (w.heap.size+1)) #[] #[]:=rfl
  simp[resolve,Deferred.ofValue,this,h2]
 ·have:=he (fs++ .func (.yield (w.heap.size+1)) #[] #[]::cs).toArray w1
  simpa[invoke] using this
 ·rintro e w3 ⟨T',M',hend⟩
  have hup:∀(st st':LoopState) (pe:Option Code) (ob:List (Nat×B7)),L0 (A9 (rob x st pe ob)) 3001 (.raw x.L (.loop (E0 x st' pe)))=A9 (rob x st' pe ob):=fun st st' pe ob=>by
   funext q
   by_cases e:q=3001
   ·subst e;rw[B9];rfl
   ·rw[C6 _ _ e]
    simp only[rob,A9]
    split
    ·rfl
    ·have:Nat.beq q 3001=false:=G0 e
     simp only[this]
  --the record and the block are let go;the base is laid anew
  have key:∀(st:LoopState) (pe:Option Code) (M':Mem) (rr ρ3:Rho) (ob3:List (Nat×B7)) (w4:World) (KK:List Nat),M.le M'→okB KK ob3=true→(∀r,C9 r KK=true→C9 r K=true)→(∀q i,I8 K ρ q=some i→(∃o,A9 ob3 q=some o)→rr q=some i)→Ow ⟨S.s,rr⟩ wl M0 M' ρ3 (A9 (rob x st pe ob3)) w4→
   ∃S' ρ4,HM w00 M00 (w.heap.size::Ds) ⟨S',hr⟩ w4 M'∧Ow ⟨S',An7 (E4 ob3) hr⟩ w4 M' M' ρ4 (A9 ob3) w4∧∀q i,C9 q KK=true→ρ q=some i→∃j,ρ4 q=some j∧Ile i j:=fun st pe M' rr ρ3 ob3 w4 KK hle hok hKK hrr h3=>by
   obtain⟨k1,k2,k3,k4,k5⟩:=Ah0 hok
   have hids:∀r,C9 r (E4 ob3)=true→A9 (rob x st pe ob3) r=A9 ob3 r:=fun r hr=>by
    have e1:Nat.beq r 3000=false:=G0 (fun e=>by subst e;rw[hr]at k4;cases k4)
    have e2:Nat.beq r 3001=false:=G0 (fun e=>by subst e;rw[hr]at k5;cases k5)
    simp only[rob,A9,e1,e2]
   have hpart:=h3.part (E4 ob3) (E4 ob3) (fun r o hr ho=>D5 k2 r o hr (by rw[←hids r hr];exact ho))
   rw[Bg6 hids]at hpart
   have hheld:∀q i,Nat.ble 2000 q=true→C9 q (E4 ob3)=true→I8 K ρ q=some i→∃j,ρ3 q=some j∧Ile i j:=fun q i hb hm hi=>h3.held q i hb (hrr q i hi (G1.1 hm))
   have hpart':Ow ⟨SK (E4 ob3) ρ3 (A9 (rob x st pe ob3)),An7 (E4 ob3) hr⟩ w4 M' M' (I8 (E4 ob3) ρ3) (A9 ob3) w4:=⟨hpart.size,hpart.os,hpart.tape,hpart.output,hpart.old,hpart.sits,hpart.le,hpart.gl,hpart.new,fun q o hq=>by
    obtain⟨i,hi,hok⟩:=hpart.own q o hq
    refine⟨i,hi,?_⟩
    cases o with
    |frn z=>exact absurd hq (D9 k1 q z)
    |tree g e sz shs es hh=>exact hok
    |box te cs=>exact hok
    |buf g e sz es=>exact hok
    |fzs g sz es=>exact hok
    |fzb cs=>exact hok
    |mapo kk ag sz es=>exact hok
    |raw b x=>exact hok,hpart.dom,hpart.inj,fun r i hb hi=>by
    obtain⟨hm,hi⟩:=Ap8 hi
    obtain⟨j,h1,h2⟩:=hhr r i hi hb
    obtain⟨l,h4,h5⟩:=hheld r j hb hm h1
    exact⟨l,by rw[E3 hm];exact h4,h2.trans h5⟩⟩
   have h3':=hS (r0':=noR) h3 (hnfr _ _ _ (D9 k1)) (fun r i hb hi=>by cases hi)
   obtain⟨⟨h1,h2,h5,h6⟩,_⟩:=Bf4 (S:=⟨S.s,noR⟩) (b0:=w00) (M00:=M00) (Ds:=Ds) hH.2 h3' (hnfr _ _ _ (D9 k1))
   have hSK:∀b,SK (E4 ob3) ρ3 (A9 (rob x st pe ob3)) b→TA ρ3 (A9 (rob x st pe ob3)) b:=fun b ⟨r,i,o,_,a1,a2,a3⟩=>⟨r,i,o,a1,a2,a3⟩
   obtain⟨iD,hiD,_,hDb,hDm,hDw⟩:=h3.own 3000 (.raw x.D (.deferred (some []))) rfl
   refine⟨SK (E4 ob3) ρ3 (A9 (rob x st pe ob3)),I8 (E4 ob3) ρ3,⟨h1,fun b hb=>h2 b (hSK b hb),fun D hD=> ?_,?_⟩,hpart',fun q i hm hi=> ?_⟩
   ·rcases List.mem_cons.1 hD with rfl|hD
    ·refine⟨Nat.le_trans hH.2.1.size ha.ow.size,?_,?_,?_,hDw⟩
     ·exact(Array.getElem?_eq_some_iff.1 hDw).1
     ·rintro ⟨r,i,o,b1,b2,b3,b4⟩
      have:r=3000:=h3.inj r 3000 o _ i iD _ b3 rfl b2 hiD b4 (.inl ⟨trivial,hDb⟩)
      subst this
      rw[b1]at k4;cases k4
     ·have:=hDm.2;rw[hDb]at this;exact this
    ·obtain⟨a1,a2,a3,a4,a5⟩:=h5 D hD
     exact⟨a1,a2,fun h=>a3 (hSK D h),a4,a5⟩
   ·refine List.nodup_cons.2 ⟨fun hm=> ?_,h6⟩
    have:=(hH.2.2.2.1 _ hm).2.1
    have:=ha.ow.size
    omega
   ·have hmi:=U5 k3 _ hm
    obtain⟨j,b1,b2⟩:=hheld q i (hbig' q i (by rw[E3 (hKK q hm)];exact hi)) hmi (by rw[E3 (hKK q hm)];exact hi)
    exact⟨j,by rw[E3 hmi];exact b1,b2⟩
  --a panic:slots that hang on KP
  have pan:∀(st:LoopState) (pe:Option Code) (M':Mem) (rr ρ3:Rho) (ob3:List (Nat×B7)) (w4:World) (t:TypeId) (u:Value),M.le M'→okB KP ob3=true→(∀q i,I8 K ρ q=some i→(∃o,A9 ob3 q=some o)→rr q=some i)→Ow ⟨S.s,rr⟩ wl M0 M' ρ3 (A9 (rob x st pe ob3)) w4→
   JP N (Ag4 base (w.heap.size::Ds)) (An0 P fn0 R0 w00 M00 hr (w.heap.size::Ds)) (J9 (Bc0 KP) (mkT S1)) ob3→(An0 P fn0 R0 w00 M00 hr Ds).post S wl M0 (.panic [{v:= .iface t u,recovered:=false}]) (fr N f (Ag4 base (w.heap.size::Ds))) w4:=fun st pe M' rr ρ3 ob3 w4 t u hle hok hrr h3 hjp=>by
   obtain⟨S',ρ4,h5,h6,h7⟩:=key st pe M' rr ρ3 ob3 w4 KP hle hok (fun r h=>U5 hKP r h) hrr h3
   refine hjp ⟨S',hr⟩ w4 M' ⟨rfl,h5⟩ (An7 (E4 ob3) hr) M' ρ4 w4 f t u (fun q i hi ho=> ?_) h6 (fun t ht=> ?_)
   ·unfold An7
    rw[G1.2 ho]
    exact hi
   ·rw[P3 (Bi6 KP)]
    unfold Bc0
    split
    ·rename_i hrf
     exact B8.mono ⟨hle,fun r i hi=>h7 r i (D7 hi).1 (D7 hi).2⟩ _ (Aa7 _ hrf (ha.sl t ht))
    ·exact C0 _
  have norm:∀(st:LoopState) (pe:Option Code) (M':Mem) (ρ3:Rho) (ob3:List (Nat×B7)) (w4:World),M.le M'→okB K ob3=true→Ow ⟨S.s,I8 K ρ⟩ wl M0 M' ρ3 (A9 (rob x st pe ob3)) w4→
   ∃S' wl' M0' ρ4,(An0 P fn0 R0 w00 M00 hr (w.heap.size::Ds)).H S' wl' M0'∧Abs S' wl' M0' M' ρ4 N ⟨mkT S1,ob3,[]⟩ f w4:=fun st pe M' ρ3 ob3 w4 hle hok h3=>by
   obtain⟨S',ρ4,h5,h6,h7⟩:=key st pe M' (I8 K ρ) ρ3 ob3 w4 K hle hok (fun _ h=>h) (fun _ _ h _=>h) h3
   obtain⟨k1,k2,k3,k4,k5⟩:=Ah0 hok
   refine⟨⟨S',hr⟩,w4,M',ρ4,⟨rfl,h5⟩,⟨h6.size,h6.os,h6.tape,h6.output,h6.old,h6.sits,h6.le,h6.gl,h6.new,fun q o hq=> ?_,h6.dom,h6.inj,fun r i hb hi=> ?_⟩,ha.ok,fun t ht=> ?_⟩
   ·obtain⟨i,hi,hok⟩:=h6.own q o hq
    refine⟨i,hi,?_⟩
    cases o with
    |frn z=>exact absurd hq (D9 k1 q z)
    |tree g e sz shs es hh=>exact hok
    |box te cs=>exact hok
    |buf g e sz es=>exact hok
    |fzs g sz es=>exact hok
    |fzb cs=>exact hok
    |mapo kk ag sz es=>exact hok
    |raw b x=>exact hok
   ·obtain⟨j,h1,_⟩:=hhr r i hi hb
    exact h6.held r i hb (by show An7 (E4 ob3) hr r=some i;unfold An7;rw[U5 k3 _ (D7 h1).1];exact hi)
   ·exact B8.mono ⟨hle,fun r i hi=>h7 r i (D7 hi).1 (D7 hi).2⟩ _ (Aa7 _ (N9 10 (mkT S1) t hslots) (ha.sl t ht))
  rcases hend with⟨v,rfl,⟨hfl,hle,ρ3,ob3,hg3,ho3,_⟩|⟨hle,ρ3,ob3,j,hg3,ho3,_⟩⟩|⟨⟨t,u,rfl⟩,⟨hfl,hle,ρ3,ob3,hg3,ho3,_⟩|⟨hle,rr,ρ3,ob3,hg3,hrr,ho3,_⟩⟩
  ·obtain⟨hh,o4⟩:=ho3.raw (q:=3001) rfl (.loop (E0 x .exhausted none))
   rw[hup]at o4
   refine⟨none,_,run_endLoop hh (by simp[E0]),?_⟩
   obtain⟨S',wl',M0',ρ4,h5,h6⟩:=norm _ _ _ _ _ _ hle (hnf _ _ hg3) o4
   exact(hdone hfl w.heap.size ob3 hg3).2 S' wl' M0' h5 M' ρ4 f _ ⟨h6.ow,h6.ok,h6.sl⟩
  ·obtain⟨hh,o4⟩:=ho3.raw (q:=3001) rfl (.loop (E0 x .exhausted (some j)))
   rw[hup]at o4
   refine⟨some j,_,run_endLoop hh (by simp[E0]),?_⟩
   obtain⟨S',wl',M0',ρ4,h5,h6⟩:=norm _ _ _ _ _ _ hle (hnfX _ _ hg3) o4
   have:=(hstop w.heap.size ob3 j hg3).2 S' wl' M0' h5 M' ρ4 f _ ⟨h6.ow,h6.ok,h6.sl⟩
   simp only[Wk,Exit.then]at this
   exact this
  ·exact Ad9 k hk (pan _ _ _ _ _ _ _ t u hle (hnfP0 hfl ob3 hg3) (fun _ _ h _=>h) ho3 (hdie hfl w.heap.size ob3 hg3))
  ·exact Ad9 k hk (pan _ _ _ _ _ _ _ t u hle (hnfP _ hg3) hrr ho3 (hpan w.heap.size ob3 hg3))
theorem Ck5{P:Program}{N:Nat}{fn0:Func}{R0:Ending→World→Prop}{w00:Bas}{M00:Mem}{hr:Rho}{base:List Deferred}{Ds:List Nat}{c:Cfg}{g:Operand}{ps:Array Tmp}{asg bo:Code}{k:List It}{gf:FuncId}{first cap xs:List V}{os:List (Nat×B7)}{S1:List (Nat×V)}{ob0:List (Nat×B7)}(p:List (Nat×Nat))(keep ids:List Nat)(yl:List V){ysAll:List (List V)}{fl:Bool}(K KP:List Nat)(Good:List (List V)→List (Nat×B7)→Prop)(GoodX:Code→List (Nat×B7)→Prop)(GoodP:List (Nat×B7)→Prop)
 (hN:Nat.ble N 1024=true) (ht:c.td= .code (.rangeFunc g ps asg bo)::k) (hk:Al8 k=true) (hv:Ad0 N c=some (gf,first,cap)) (hl:An1 N keep=true) (hx:Cf9 N c p (first++cap) keep ids=some (os,xs,S1,ob0)) (hre:H9 xs yl) (he:A8 P gf)
 (hit:Bs0 P gf ((2000,.frn 2000)::os) (yl.take first.length++ .yl 2000::yl.drop first.length) ysAll fl) (hK:X4 K=true) (hkept:Av8 K ob0=true) (hslots:U6 K (mkT S1)=true) (hKP:Ci3 KP K=true) (hg0:Good ysAll ob0) (hnf:∀ys ob,Good ys ob→okB K ob=true) (hnfX:∀j ob,GoodX j ob→okB K ob=true) (hnfP:∀ob,GoodP ob→okB KP ob=true) (hnfP0:fl=true→∀ob,Good [] ob→okB KP ob=true)
 (hfree:A9 ob0 3000=none∧A9 ob0 3001=none)
 (hJ:∀x:Lp,x.as=asg→x.bo=bo→x.ps=ps→∀y ys ob,Good (y::ys) ob→∃sl',Ad5 N (mkT S1) ps.toList y=some sl'∧J (some x.L) P N [] (Ch9 x Good GoodX GoodP ys) ⟨sl',rob x .ready none ob,[.code asg,.begR x.L,.code bo]⟩)
 (hdone:fl=false→∀D ob,Good [] ob→J none P N (Ag4 base (D::Ds)) (An0 P fn0 R0 w00 M00 hr (D::Ds)) ⟨mkT S1,ob,k⟩)
 (hstop:∀D ob j,GoodX j ob→J none P N (Ag4 base (D::Ds)) (An0 P fn0 R0 w00 M00 hr (D::Ds)) ⟨mkT S1,ob,.code j::k⟩)
 (hdie:fl=true→∀D ob,Good [] ob→JP N (Ag4 base (D::Ds)) (An0 P fn0 R0 w00 M00 hr (D::Ds)) (J9 (Bc0 KP) (mkT S1)) ob)
 (hpan:∀D ob,GoodP ob→JP N (Ag4 base (D::Ds)) (An0 P fn0 R0 w00 M00 hr (D::Ds)) (J9 (Bc0 KP) (mkT S1)) ob):J none P N (Ag4 base Ds) (An0 P fn0 R0 w00 M00 hr Ds) c:=
 Bm6 p keep ids yl K KP Good GoodX GoodP hN ht hk hv hl hx hre he (.inl hit) hK hkept hslots hKP hg0 hnf hnfX hnfP hnfP0 hfree hJ hdone hstop hdie hpan
theorem Aj5{P:Program}{N:Nat}{fn0:Func}{R0:Ending→World→Prop}{w00:Bas}{M00:Mem}{hr:Rho}{base:List Deferred}{Ds:List Nat}{c:Cfg}{g:Operand}{ps:Array Tmp}{asg bo:Code}{k:List It}{gf:FuncId}{first cap xs:List V}{os:List (Nat×B7)}{S1:List (Nat×V)}{ob0:List (Nat×B7)}(p:List (Nat×Nat))(keep ids:List Nat)(yl:List V){ysAll:List (List V)}(K:List Nat)(Good:List (List V)→List (Nat×B7)→Prop)(GoodX:Code→List (Nat×B7)→Prop)
 (hN:Nat.ble N 1024=true) (ht:c.td= .code (.rangeFunc g ps asg bo)::k) (hk:Al8 k=true) (hv:Ad0 N c=some (gf,first,cap)) (hl:An1 N keep=true) (hx:Cf9 N c p (first++cap) keep ids=some (os,xs,S1,ob0)) (hre:H9 xs yl) (he:A8 P gf)
 (hit:Bs0 P gf ((2000,.frn 2000)::os) (yl.take first.length++ .yl 2000::yl.drop first.length) ysAll false) (hK:X4 K=true) (hkept:Av8 K ob0=true) (hslots:U6 K (mkT S1)=true) (hg0:Good ysAll ob0) (hnf:∀ys ob,Good ys ob→okB K ob=true) (hnfX:∀j ob,GoodX j ob→okB K ob=true)
 (hfree:A9 ob0 3000=none∧A9 ob0 3001=none)
 (hJ:∀x:Lp,x.as=asg→x.bo=bo→x.ps=ps→∀y ys ob,Good (y::ys) ob→∃sl',Ad5 N (mkT S1) ps.toList y=some sl'∧J (some x.L) P N [] (Ch9 x Good GoodX (fun _=>False) ys) ⟨sl',rob x .ready none ob,[.code asg,.begR x.L,.code bo]⟩)
 (hdone:∀D ob,Good [] ob→J none P N (Ag4 base (D::Ds)) (An0 P fn0 R0 w00 M00 hr (D::Ds)) ⟨mkT S1,ob,k⟩)
 (hstop:∀D ob j,GoodX j ob→J none P N (Ag4 base (D::Ds)) (An0 P fn0 R0 w00 M00 hr (D::Ds)) ⟨mkT S1,ob,.code j::k⟩):J none P N (Ag4 base Ds) (An0 P fn0 R0 w00 M00 hr Ds) c:=
 Ck5 p keep ids yl K [] Good GoodX (fun _=>False) hN ht hk hv hl hx hre he hit hK hkept hslots rfl hg0 hnf hnfX (fun _ h=>h.elim) (fun h=>by cases h) hfree hJ (fun _=>hdone) hstop (fun h=>by cases h) (fun _ _ h=>h.elim)
theorem Bm7{P:Program}{N:Nat}{fn0:Func}{R0:Ending→World→Prop}{w00:Bas}{M00:Mem}{hr:Rho}{base:List Deferred}{Ds:List Nat}{c:Cfg}{g:Operand}{ps:Array Tmp}{asg bo:Code}{k:List It}{gf:FuncId}{first cap xs:List V}{os:List (Nat×B7)}{S1:List (Nat×V)}{ob0:List (Nat×B7)}(p:List (Nat×Nat))(keep ids:List Nat)(yl:List V){ysAll:List (List V)}(K:List Nat)(Good:List (List V)→List (Nat×B7)→Prop)(GoodX:Code→List (Nat×B7)→Prop)
 (hN:Nat.ble N 1024=true) (ht:c.td= .code (.rangeFunc g ps asg bo)::k) (hk:Al8 k=true) (hv:Ad0 N c=some (gf,first,cap)) (hl:An1 N keep=true) (hx:Cf9 N c p (first++cap) keep ids=some (os,xs,S1,ob0)) (hre:H9 xs yl) (he:A8 P gf)
 (hit:Ck1 P gf ((2000,.frn 2000)::os) (yl.take first.length++ .yl 2000::yl.drop first.length) ysAll false) (hK:X4 K=true) (hkept:Av8 K ob0=true) (hslots:U6 K (mkT S1)=true) (hg0:Good ysAll ob0) (hnf:∀ys ob,Good ys ob→okB K ob=true) (hnfX:∀j ob,GoodX j ob→okB K ob=true)
 (hfree:A9 ob0 3000=none∧A9 ob0 3001=none)
 (hJ:∀x:Lp,x.as=asg→x.bo=bo→x.ps=ps→∀y ys ob,Good (y::ys) ob→∃sl',Ad5 N (mkT S1) ps.toList y=some sl'∧J (some x.L) P N [] (Ch9 x Good GoodX (fun _=>False) ys) ⟨sl',rob x .ready none ob,[.code asg,.begR x.L,.code bo]⟩)
 (hdone:∀ob,¬Good [] ob)
 (hstop:∀D ob j,GoodX j ob→J none P N (Ag4 base (D::Ds)) (An0 P fn0 R0 w00 M00 hr (D::Ds)) ⟨mkT S1,ob,.code j::k⟩):J none P N (Ag4 base Ds) (An0 P fn0 R0 w00 M00 hr Ds) c:=
 Bm6 p keep ids yl K [] Good GoodX (fun _=>False) hN ht hk hv hl hx hre he (.inr ⟨hit,hdone⟩) hK hkept hslots rfl hg0 hnf hnfX (fun _ h=>h.elim) (fun h=>by cases h) hfree hJ (fun _ _ ob h=>absurd h (hdone ob)) hstop (fun h=>by cases h) (fun _ _ h=>h.elim)
end
section
section
variable {P:Program} {N:Nat}
end
section
variable {P:Program} {N:Nat} {fn:Func} {g:FuncId} {id:Nat} {o0:Oper} {rest:List Oper} {y:Code} {cap:List V}
def Ec7:List Nat→List (Nat×B7)
 |[]=>[]
 |q::l=>(q,.frn q)::Ec7 l
theorem Cm9:∀(K:List Nat) (q:Nat),A9 (Ec7 K) q=match C9 q K with|true=>some (.frn q)|false=>none
 |[],q=>rfl
 |k::K,q=>by
  have ih:=Cm9 K q
  simp only[Ec7,A9,C9]
  cases h:Nat.beq q k with
  |true=>obtain rfl:=Nat.eq_of_beq_eq_true h;rfl
  |false=>exact ih
end
section
variable {P:Program} {N:Nat} {fn:Func} {v:Option V} {w0:World} {M00:Mem} {Ds:List Nat} {c:Cfg} {hr:Rho} {base:List Deferred} {g:FuncId} {cap:List V}
def Bp3(p:List (Nat×Nat)):List Nat→Bool
 |[]=>true
 |q::l=>match lk (inv p) q with|some t=>(match Nat.beq t q with|true=>Bp3 p l|false=>false)|none=>false
theorem Al6{p:List (Nat×Nat)}:∀{l:List Nat} {q:Nat},Bp3 p l=true→C9 q l=true→lk (inv p) q=some q
 |[],_,_,h=>by cases h
 |k::l,q,hb,h=>by
  unfold Bp3 at hb
  split at hb
  ·rename_i t ht
   split at hb
   ·rename_i he
    unfold C9 at h
    split at h
    ·rename_i h1
     obtain rfl:=Nat.eq_of_beq_eq_true h1
     rw[ht,Nat.eq_of_beq_eq_true he]
    ·exact Al6 hb h
   ·cases hb
  ·cases hb
end
end
section
section
variable (q g:Nat)
end
section
variable {M:Mem} {ρ:Rho} {q g:Nat} {i:Inf}
end
section
variable {S:I0} {wl w:World} {M0 M:Mem} {ρ:Rho} {ob:Nat→Option B7} {q g sz:Nat} {e:TypeId} {es:List (List Dat)}
end
section
variable {r:Option Nat} {P:Program} {N:Nat} {ds:List Deferred} {fin:Fin} {c:Cfg}
theorem Bz6(t:Nat)(ht:Nat.blt t N=true)(hx:(Ds1 c [c.sl.get 10 t]).isSome=true)(hk:J r P N ds fin ⟨c.sl,obR c [c.sl.get 10 t],c.td⟩):J r P N ds fin c:=by
 refine⟨hk.1,fun S wl M0 hH M ρ f w ha=> ?_⟩
 have hu:B2 M ρ [c.sl.get 10 t] [f t]:=by
  simp only[B2]
  exact⟨_,_,rfl,ha.sl t (T8 ht),rfl⟩
 cases hx':I2 (A9 c.ob) [c.sl.get 10 t] with
 |none=>simp[Ds1,hx']at hx
 |some p=>
  obtain⟨xs,wr⟩:=p
  obtain⟨M',r0,o0,_⟩:=E1 ha.ow hu hx'
  rw[Br6]at o0
  have e:obR c [c.sl.get 10 t]=K5 c.ob wr:=by unfold obR;rw[hx']
  rw[e]at hk
  exact hk.2 S wl M0 hH M' ρ f w ⟨o0,ha.ok,fun t ht=>B8.mono r0 _ (ha.sl t ht)⟩
end
def toI(b:UInt8):Int:=(b.toNat:Int)
theorem Bb7{f:Int→List Dat}(hf:∀x,f x=[.int .u8 x])(s:List UInt8):(s.map toI).map f=s.map Z6:=by
 rw[List.map_map]
 refine List.map_congr_left fun b _=> ?_
 simp only[Function.comp,hf]
 rfl
theorem ams{f:Int→List Dat}(hf:∀x,f x=[.int .u8 x]){l k:List Int}{s:List UInt8}(h:app l (s.map toI)=some k):app (l.map f) (s.map Z6)=some (k.map f):=by
 rw[←Bb7 hf];exact am h
theorem bym{s:List UInt8}{f:Int→List Dat}(hf:∀x,f x=[.int .u8 x]):some (s.map Z6)=some ((s.map toI).map f):=by
 rw[←Bb7 hf]
def Ed8(l:List Int)(j:Nat)(m:Int):Option (List UInt8):=bif decide (0<m)&&decide (j+m.toNat≤l.length)&&decide (m≤2147483648) then some (((l.drop j).take m.toNat).map fun x=>x.toNat.toUInt8) else none
theorem Bq7{f:Int→List Dat}(hf:∀x,f x=[.int .u8 x]):∀(l:List Int),Cr7 (l.map f)=some (l.map fun x=>x.toNat.toUInt8)
 |[]=>rfl
 |x::l=>by rw[List.map_cons,hf,Cr7,Bq7 hf l];rfl
theorem usm{f:Int→List Dat}(hf:∀x,f x=[.int .u8 x]){l:List Int}{j:Nat}{m:Int}{s:List UInt8}(h:Ed8 l j m=some s):usd (l.map f) j m=some [.str s]:=by
 unfold Ed8 at h
 unfold usd
 rw[List.length_map]
 cases hb:(decide (0<m)&&decide (j+m.toNat≤l.length)&&decide (m≤2147483648)) with
 |false=>rw[hb]at h;cases h
 |true=>
  rw[hb,cond_true]at h
  cases h
  rw[cond_true,←List.map_drop,←List.map_take,Bq7 hf]
theorem An3{P:Program}{g:FuncId}{fn:Func}(hf:P.funcs[g]? =some fn)(hn:(fn.name== "runtime.NumGoroutine")=false)(hb:fn.body.isNone=true)(hx:(Extern.findNext fn).isNone=true)(he:Extern.find fn=some Extern.AbiNoEscape.same)(v:V):Dg5 P g [v] v:=by
 intro M ρ vals hr
 simp only[B2]at hr
 obtain⟨u,us,rfl,h1,rfl⟩:=hr
 have hx':Extern.findNext fn=none:=by simpa using hx
 refine⟨u,h1,fun w=> ?_⟩
 rw[run_callFunc_extern hf hn hb hx' he]
 rfl
end
section
section
variable {s0 s1:Nat→Prop} {r0 r1:Rho} {w0 w1 w:World} {M00 M1 M:Mem} {ρ:Rho} {ob:Nat→Option B7}
theorem Ow.under(h:Ow ⟨s1,r1⟩ w1 M1 M ρ ob w)(hx:Ds4 s0 M00 M1 w0 w1)(h2:∀b,s1 b→s0 b∨w0.heap.size≤b)(hq:Sz w0∧∀n cs,Kx.gl n=some cs→¬s0 n)(hn:∀q z,ob q≠some (.frn z))(hh:∀t i,Nat.ble 2000 t=true→r0 t=some i→∃i',ρ t=some i'∧Ile i i'):Ow ⟨s0,r0⟩ w0 M00 M ρ ob w:=by
 have mine:∀b,(s1 b∨w1.heap.size≤b)→(s0 b∨w0.heap.size≤b):=fun b hb=>hb.elim (h2 b) (fun h=> .inr (Nat.le_trans hx.size h))
 refine⟨Nat.le_trans hx.size h.size,h.os.trans hx.os,h.tape.trans hx.tape,h.output.trans hx.output,fun k hk hs=> ?_,h.sits,Mem.le_trans hx.le h.le,⟨h.gl.ok,hq.2,hq.1⟩,fun b c hb hlt=> ?_,fun r o ho=> ?_,h.dom,h.inj,hh⟩
 ·rw[h.old k (Nat.lt_of_lt_of_le hk hx.size) (fun hs'=>by rcases h2 k hs' with h5|h5;exact hs h5;exact absurd hk (Nat.not_lt.2 h5))];exact hx.block k hk hs
 ·rcases h.new b c hb (Nat.lt_of_lt_of_le hlt hx.size) with h5|h5
  ·exact hx.new b c h5 hlt
  ·rcases h2 b h5 with h6|h6
   ·exact .inr h6
   ·exact absurd hlt (Nat.not_lt.2 h6)
 ·obtain⟨i,hi,hok⟩:=h.own r o ho
  refine⟨i,hi,?_⟩
  cases o with
  |tree g e sz shs es hh=>exact I9.tree hok (fun b hb=>mine _ (D3 hok hb).1) (fun _ _ _ _ h=>h)
  |box te cs=>
   obtain⟨h0,h1,rest⟩:=hok
   exact⟨h0,⟨mine _ h1.1,h1.2⟩,rest⟩
  |buf g e sz es=>
   obtain⟨h0,hg,hss,hn,ht,hx,h1⟩:=hok
   refine⟨h0,hg,hss,hn,ht,hx,fun hp=> ?_⟩
   obtain⟨h1,rest⟩:=h1 hp
   exact⟨⟨mine _ h1.1,h1.2⟩,rest⟩
  |fzs g sz es=>exact hok
  |fzb cs=>exact hok
  |mapo kk ag sz es=>
   obtain⟨h0,h1,rest⟩:=hok
   exact⟨h0,⟨mine _ h1.1,h1.2⟩,rest⟩
  |raw b x=>
   obtain⟨h0,e,h1,rest⟩:=hok
   exact⟨h0,e,⟨mine _ h1.1,h1.2⟩,rest⟩
  |frn q=>exact absurd ho (hn r q)
end
def Dw9(s:Nat→Prop)(r0:Rho)(w0:World)(M00:Mem)(H:List (Nat×B7))(v:V):Ending→World→Prop:=fun e w'=>
 ∃u M' ρ',e= .returned u∧Ow ⟨s,r0⟩ w0 M00 M' ρ' (A9 H) w'∧B8 M' ρ' v u
def Ck0(K:List Nat)(s:Nat→Prop)(r0:Rho)(w0:World):Prop:=(Sz w0∧∀n cs,Kx.gl n=some cs→¬s n)∧∀r i,r0 r=some i→C9 r K=true
abbrev Dr4(P:Program)(fn:Func)(H:List (Nat×B7))(v:V)(s:Nat→Prop)(r0:Rho)(w0:World)(M00:Mem)(Ds:List Nat):Fin:=An0 P fn (Dw9 s r0 w0 M00 H v) ⟨w0,s⟩ M00 r0 Ds
section
variable {P:Program} {N:Nat} {fn:Func} {v:V} {s:Nat→Prop} {r0:Rho} {w0:World} {M00:Mem} {Ds:List Nat} {c:Cfg} {K:List Nat}
theorem Az2{l:List (Nat×B7)}(hc:H1 (A9 l) (E4 (H7 l)) (E4 (H7 l))=true):∀q z,A9 (H7 l) q≠some (.frn z):=fun q z hq=>by
 have hm:C9 q (E4 (H7 l))=true:=G1.2 ⟨_,hq⟩
 rw[T5]at hq
 split at hq
 ·have:=D5 hc q _ hm hq
  cases this
 ·cases hq
theorem Ao5{rs:List ResultVar}{xs:List V}{H:List (Nat×B7)}(hst:Ck0 K s r0 w0)(ys:List V)(hfn:fn.results=rs.toArray)(hN:Nat.ble N 1024=true)(hv:Bc6 P N c rs=some (xs,H))(hre:H9 xs ys)(he:Bw5 ys=v)(hn:N3 c.ob=true):J none P N (dfs Ds) (Dr4 P fn H v s r0 w0 M00 Ds) c:=by
 refine⟨F2 hN,fun S wl M0 hH M ρ f w h=> ?_⟩
 unfold Bc6 at hv
 split at hv
 case h_2=>cases hv
 rename_i hat
 split at hv
 case h_2=>cases hv
 rename_i vs hvs
 split at hv
 case h_2=>cases hv
 rename_i xs' wr hx
 split at hv
 case h_2=>cases hv
 rename_i hcl
 cases hv
 have hheld:∀t i,Nat.ble 2000 t=true→r0 t=some i→∃i',ρ t=some i'∧Ile i i':=fun t i hb hi=>h.ow.held t i hb (by rw[show S.r0=r0 from hH.1];exact hi)
 have hbase:∀S2 w2,HM ⟨w0,s⟩ M00 [] S2 w2 M→Ow S2 w2 M M ρ (A9 c.ob) w2→LeavesInM (WF none) 0 P fn (fr N f []).tmps (Dw9 s r0 w0 M00 (H7 (K5 c.ob wr)) v) [] .returning w2:=fun S2 w2 h1 h2=>by
  have ha:Abs S2 w2 M M ρ N c f w2:=⟨h2,h.ok,h.sl⟩
  obtain⟨us,h3,h4⟩:=Y1 ha hvs
  obtain⟨M',r1,o1,d1⟩:=E1 h2 h4 hx
  rw[←N7]at o1
  have o2:=o1.onlyH hcl
  refine⟨Br0 us,J0 (ds:=[]) hfn h3,Br0 us,M',_,rfl,o2.under h1.1 h1.2.1 hst.1 (Az2 hcl) (fun t i hb hi=> ?_),by rw[←he];exact Ab2 (hre.rel (d1 _))⟩
  obtain⟨i',h5,h6⟩:=hheld t i hb hi
  obtain⟨o,ho⟩:=o1.dom t i' h5
  have hm:C9 t (E4 (H7 (K5 c.ob wr)))=true:=G1.2 ⟨o,by rw[T5,hb];exact ho⟩
  exact⟨i',by rw[E3 hm];exact h5,h6⟩
 have key:bodyPostM (WF none) 0 P fn (Dw9 s r0 w0 M00 (H7 (K5 c.ob wr)) v) .ret (fr N f (dfs Ds)) w:=Am1 (tmps:=(fr N f []).tmps) (by intro e;cases e) (D9 hn) hbase Ds S wl w M0 hH.2 h.ow
 unfold An2 at hat
 split at hat
 ·rename_i ht
  rw[ht]
  exact Bf8 (R8 _ hat key)
 ·rename_i ht
  rw[ht]
  exact key
 ·cases hat
theorem Ao4{r:Option Nat}{ds:List Deferred}{H:List (Nat×B7)}(hst:Ck0 K s r0 w0)(p:List (Nat×Nat))(hkk:Bp3 p K=true)(hb:bij p=true)(ha:Bf9 p (A9 c.ob) p=true)(hn:N3 c.ob=true)(hk:J r P N ds (Dr4 P fn H v s r0 w0 M00 Ds) ⟨J9 (Ae6 p) c.sl,Ci2 p (A9 c.ob) p,c.td⟩):J r P N ds (Dr4 P fn H v s r0 w0 M00 Ds) c:=
 Cp8 p (fun t i hi=>Al6 hkk (hst.2 t i hi)) hb ha hn hk
theorem At9{g:FuncId}{b:Code}{os H:List (Nat×B7)}{args:List V}(hf:P.funcs[g]? =some fn)(hb:fn.body=some b)(hN:fn.ntmps=N)(hv:Nat.ble args.length N=true)(hno:N3 os=true)(h:∀s r0 w0 M00,Ck0 (E4 os) s r0 w0→J none P N (dfs []) (Dr4 P fn H v s r0 w0 M00 []) ⟨mkT (Bw0 0 args),os,[.code b]⟩):F4 P g os args H v:=by
 intro s wl M0 M ρ w vals ho hr
 have hl:=F2 hv
 refine Cq7 hf hb hN (by rw[hr.len];exact hl) ?_
 have hst:Ck0 (E4 os) s ρ wl:=⟨⟨ho.gl.sz,ho.gl.off⟩,fun r i hi=>G1.2 (ho.dom r i hi)⟩
 have h:=h s ρ wl M0 hst
 have hbs:=ho.base (r0:=ρ) M.le_refl ho.sits (Nat.le_refl _) (fun k hk=>⟨rfl,rfl⟩) (fun q i hq _=>absurd hq (D9 hno q q)) (fun q z hq=>absurd hq (D9 hno q z)) (fun _ _ _ h=>h) ho.szw
 have:=h.2 ⟨TA ρ (A9 os),ρ⟩ w M ⟨rfl,⟨ho.os,ho.tape,ho.output,ho.size,ho.old,ho.le,ho.sits,ho.new⟩,fun b hb=>(I1 ho hb).1,fun _ h=>(by cases h),List.nodup_nil⟩ M ρ (Ax3 vals) w ⟨hbs,W4 _,R2 h.1 _ (fun t v hm=>by
  obtain⟨_,h2⟩:=Q4 hm
  rw[Nat.sub_zero]at h2
  obtain⟨u,h3,h4⟩:=hr.get h2
  exact⟨Nat.lt_of_lt_of_le (List.getElem?_eq_some_iff.1 h2).1 hl,by unfold Ax3;rw[h3];exact h4⟩)⟩
 simp only[Wk,Exit.then]at this
 exact this
end
end
section
section
variable {S:I0} {wl w:World} {M0 M:Mem} {ρ:Rho} {ob:Nat→Option B7}
end
section
variable {rr:Option Nat} {P:Program} {N:Nat} {dfr:List Deferred} {fin:Fin} {c:Cfg}
end
theorem Re.pt(cs:List Dat):Re (.rp cs 0) (.d (.pt cs)):=fun M ρ u h=>by
 obtain⟨b,o,us,rfl,hc,hr⟩:=U2 h
 exact U1 (.pt cs b o us hc hr.len (fun j c u h1 h2=>hr.get h1 h2))
end
section
def O6(W:World):Mem:=fun b=>match W.heap[b]? with|some (.cells c _ _)=>some c|_=>none
theorem Br9(W:World):X3 (O6 W) W:=fun b c h=>by
 unfold O6 at h
 split at h
 ·rename_i c' e z hh;cases h;exact⟨_,e,z,hh,Pre.refl _⟩
 ·cases h
theorem Bp5{α β:Type}{f:α→Option β}:∀{l:List α} {us:List β},l.mapM f=some us→us.length=l.length∧∀(i:Nat) (x:α),l[i]? =some x→∃y,us[i]? =some y∧f x=some y
 |[],us,h=>by simp at h;subst h;exact⟨rfl,fun i x h=>by simp at h⟩
 |a::l,us,h=>by
  rw[List.mapM_cons]at h
  simp only[Option.bind_eq_bind,Option.bind_eq_some_iff,Option.pure_def,Option.some.injEq]at h
  obtain⟨y,hy,ys,hys,rfl⟩:=h
  obtain⟨h1,h2⟩:=Bp5 hys
  refine⟨by simp[h1],fun i x hi=> ?_⟩
  cases i with
  |zero=>simp at hi;subst hi;exact⟨y,by simp,hy⟩
  |succ i=>simpa using h2 i x (by simpa using hi)
section
variable {H:Type} {enc:TypeId×Value→H} {P:Program} {W:World}
section
variable {P:Program} {n:Nat} {t:TypeId} {ds:List Dat}
end
end
end
section
section
variable {H:Type} {enc:TypeId×Value→H} {P:Program} {W:World} {M:Mem} {b:Nat} {sp:Nat→Bool} {held:Bool}
theorem Au1{g:Nat}{cs:Array Value}{t:TypeId}{tag:Nat×Nat}(h:W.heap[g]? =some (.cells cs t tag)):O5 (O6 W) g 0 cs.toList:=
 ⟨cs,by unfold O6;rw[h],fun j hj=>by simp⟩
theorem Al0{n:String}{g:Nat}{cs:Array Value}(hg:P.globalNamed n=some g)(h:W.var? P n=some cs):∃e z,W.heap[g]? =some (.cells cs e z):=by
 simp only[World.var?,hg,Option.bind_some]at h
 split at h
 ·rename_i e
  cases h
  exact⟨_,_,e⟩
 ·cases h
theorem Ae2{n:String}{g:Nat}{cs:Array Value}(hg:P.globalNamed n=some g)(h:W.var? P n=some cs):O5 (O6 W) g 0 cs.toList:=by
 simp only[World.var?,hg,Option.bind_some]at h
 split at h
 ·rename_i e
  cases h
  exact Au1 e
 ·cases h
def dw:DataW H→Option Dat
 | .lit (.int k z)=>some (.int k z)
 | .lit (.string s)=>some (.str s)
 | .lit (.bool x)=>some (.bool x)
 | .iface _ _=>some (.ife true)
 |_=>none
def okE(P:Program)(t:TypeId):Bool:=
 match P.underlying t with
 |some .bool=>true
 |some (.int _)=>true
 |some .string=>true
 |some (.interface _)=>true
 |_=>false
theorem el1{t:TypeId}{fuel:Nat}{cs:List Value}{d:DataW H}{q:List MemPlace}{x:Dat}(hk:okE P t=true)(h:DataW.trod enc P W b sp held fuel t cs=some (d,q))(hd:dw d=some x):∃v,cs=[v]∧K4 M x v:=by
 cases fuel with
 |zero=>simp[DataW.trod]at h
 |succ n=>
  unfold okE at hk
  split at hk
  ·rename_i hu
   unfold DataW.trod at h
   rw[hu]at h
   split at h<;>first|(simp_all;done)|skip
   rename_i c _ _
   simp only[Option.some.injEq,Prod.mk.injEq]at h
   obtain⟨rfl,_⟩:=h
   cases hd
   exact⟨_,rfl,.bool _⟩
  ·rename_i hu
   obtain⟨z,rfl,hx,_⟩:=DataW.trod_int hu h
   cases hx
   cases hd
   exact⟨_,rfl,.int _ _⟩
  ·rename_i hu
   obtain⟨s,rfl,hx,_⟩:=DataW.trod_string hu h
   cases hx
   cases hd
   refine⟨_,rfl,?_⟩
   have:=K4.str (M:=M) s.data.toList
   simpa[V7] using this
  ·rename_i hu
   unfold DataW.trod at h
   rw[hu]at h
   split at h<;>first|(simp_all;done)|skip
   ·cases h;cases hd
   ·split at h
    ·cases h;cases hd
    ·rename_i nm _
     simp only[Option.map_eq_some_iff,Prod.mk.injEq]at h
     obtain⟨_,_,rfl,_⟩:=h
     cases hd
     exact⟨_,rfl,.ifc _ _⟩
    ·cases h
  ·cases hk
theorem Ek4{t e:TypeId}{k fuel:Nat}{cs:List Value}{ds:List (DataW H)}{q:List MemPlace}{xs:List Dat}(ht:P.underlying t=some (.array k e))(hk:okE P e=true)(hc:P.cellsOf e=1)(hct:P.cellsOf t=k)
 (h:DataW.trod enc P W b sp held fuel t cs=some (.agg ds,q)) (hd:ds.mapM dw=some xs):D1 M xs cs:=by
 obtain⟨ys,m,_,ex,hl,hn,hel⟩:=DataW.trod_array ht h
 have ed:ds=ys.map (·.1):=DataW.agg.inj (Prod.mk.inj ex).1
 have hm:=Bp5 hd
 refine D1.of_get (by rw[hl,hct,hm.1,ed,List.length_map,hn]) (fun j c u h1 h2=> ?_)
 have hj:j<k:=by
  have:=(List.getElem?_eq_some_iff.mp h2).1
  omega
 have hy:ys[j]? =some ys[j]:=List.getElem?_eq_getElem (by omega)
 have h3:=hel j hj
 rw[hy,hc,Nat.mul_one]at h3
 have hdj:ds[j]? =some (ys[j]).1:=by rw[ed,List.getElem?_map,hy];rfl
 obtain⟨y,e1,e2⟩:=hm.2 j _ hdj
 obtain rfl:y=c:=Option.some.inj (e1.symm.trans h1)
 obtain⟨v,e3,e4⟩:=el1 (M:=M) hk (show DataW.trod enc P W b sp held m e _=some ((ys[j]).1,(ys[j]).2) from h3) e2
 have e5:cs[j]? =some v:=by
  have:((cs.drop j).take 1)[0]? =some v:=by rw[e3];rfl
  simpa using this
 obtain rfl:v=u:=Option.some.inj (e5.symm.trans h2)
 exact e4
end
section
variable {P:Program} {W:World} {laid:List (String×DataW Unit)}
theorem T6:∀{laid:List (String×DataW Unit)} {ps:List MemPlace} {i:Nat} {n:String} {d:DataW Unit},DataW.LaidVars P W laid ps→laid[i]? =some (n,d)→
 ∃g t cs fuel p,P.globalNamed n=some g∧(P.globals[g]?).map (·.type)=some t∧W.var? P n=some cs∧DataW.trod (fun _=>()) P W 0 (fun _=>true) false fuel t cs.toList=some (d,p)
 |[],_,_,_,_,_,h=>by simp at h
 |(m,e)::l,ps,0,n,d,h,hi=>by
  obtain⟨g,t,cs,fuel,p,q,h1,h2,h3,h4,_⟩:=h
  simp only[List.getElem?_cons_zero,Option.some.injEq,Prod.mk.injEq]at hi
  obtain⟨rfl,rfl⟩:=hi
  exact⟨g,t,cs,fuel,p,h1,h2,h3,h4⟩
 |(m,e)::l,ps,i+1,n,d,h,hi=>by
  obtain⟨_,_,_,_,_,q,_,_,_,_,h5,_⟩:=h
  exact T6 h5 (by simpa using hi)
theorem Cd2(hl:laidMet P laid W)(i:Nat){n:String}{ds:List (DataW Unit)}{g:Nat}{t e:TypeId}{k:Nat}{xs:List Dat}(hm:laid[i]? =some (n,.agg ds))(hg:P.globalNamed n=some g)(htt:(P.globals[g]?).map (·.type)=some t)
 (ht:P.underlying t=some (.array k e)) (hk:okE P e=true) (hc:P.cellsOf e=1) (hct:P.cellsOf t=k) (hd:ds.mapM dw=some xs):(∃us,O5 (O6 W) g 0 us∧D1 (O6 W) xs us)∧∃c e z,W.heap[g]? =some (.cells c e z)∧c.size=(xs:List Dat).length:=by
 obtain⟨ps,h,_⟩:=hl
 obtain⟨g',t',cs,fuel,p,h1,h2,h3,h4⟩:=T6 h hm
 obtain rfl:=Option.some.inj (hg.symm.trans h1)
 obtain rfl:=Option.some.inj (htt.symm.trans h2)
 have hr:=Ek4 (M:=O6 W) ht hk hc hct h4 hd
 obtain⟨e',z',hh⟩:=Al0 hg h3
 exact⟨⟨_,Ae2 hg h3,hr⟩,_,_,_,hh,by rw[←hr.len,Array.length_toList]⟩
theorem Cr0(hl:laidMet P laid W)(i:Nat){n:String}{d:DataW Unit}{g:Nat}{t:TypeId}{x:Dat}(hm:laid[i]? =some (n,d))(hg:P.globalNamed n=some g)(htt:(P.globals[g]?).map (·.type)=some t)
 (hk:okE P t=true) (hd:dw d=some x):(∃us,O5 (O6 W) g 0 us∧D1 (O6 W) [x] us)∧∃c e z,W.heap[g]? =some (.cells c e z)∧c.size=([x]:List Dat).length:=by
 obtain⟨ps,h,_⟩:=hl
 obtain⟨g',t',cs,fuel,p,h1,h2,h3,h4⟩:=T6 h hm
 obtain rfl:=Option.some.inj (hg.symm.trans h1)
 obtain rfl:=Option.some.inj (htt.symm.trans h2)
 obtain⟨v,e,r⟩:=el1 (M:=O6 W) hk h4 hd
 obtain⟨e',z',hh⟩:=Al0 hg h3
 exact⟨⟨_,Ae2 hg h3,v,[],e,r,rfl⟩,_,_,_,hh,by rw[←Array.length_toList,e];rfl⟩
theorem Em2(hs:W.ShapedOpen P){g:Nat}{zero:Array Value}{t:TypeId}{k:IntKind}(hlt:g<P.globals.size)(hz:((begin P (fun _ _=>0) default).world.heap[g]?).bind Obj.row? =some (zero,t))
 (h1:zero.size=1) (hb:P.buildable t=true) (hu:P.underlying t=some (.int k)) (ht:P.cellTypes P.depth t=some [t]):∃m,O5 (O6 W) g 0 [.int k m]:=by
 obtain⟨cs,e1,e2,e3⟩:=hs.1 g zero t hlt hz
 obtain⟨ts,e4,_,e5⟩:=e3 hb
 obtain rfl:=Option.some.inj (ht.symm.trans e4)
 have e6:cs[0]? =some cs[0]:=Array.getElem?_eq_getElem (by omega)
 obtain⟨u,e7,e8⟩:=e5 0 _ e6
 simp at e7
 subst e7
 unfold Cell.ok at e8
 rw[hu]at e8
 generalize hv:cs[0]'(by omega)=v at e8 e6
 cases v<;>simp only at e8
 obtain⟨rfl,_⟩:=e8
 rename_i m _
 refine⟨m,cs,by unfold O6;rw[e1],fun j hj=> ?_⟩
 obtain rfl:j=0:=by simp at hj;omega
 simpa using e6
def Ee9(Q:Nat→List Dat→Prop):List (Nat×List Dat)→Prop
 |[]=>True
 |x::l=>Q x.1 x.2∧Ee9 Q l
theorem Bo9{Q:Nat→List Dat→Prop}:∀{l:List (Nat×List Dat)} {n:Nat} {cs:List Dat},Ee9 Q l→Dr6 l n=some cs→Q n cs
 |[],_,_,_,h=>by cases h
 |(m,x)::l,n,cs,hq,h=>by
  unfold Dr6 at h
  cases hb:Nat.beq n m with
  |true=>
   rw[hb]at h
   cases h
   obtain rfl:=Nat.eq_of_beq_eq_true hb
   exact hq.1
  |false=>
   rw[hb]at h
   exact Bo9 hq.2 h
end
theorem S5{H:Type}{enc:TypeId×Value→H}{a:Assume}{C:Checked}{os:Os}{f:FuncId}{fn:Func}{s:ChangeSpec}{conds:List PathCond}{apart fresh handsOn again:Bool}{X:World→Array Value→Prop}
 (hX:∀(w w':World) (args:Array Value),w.heap=w'.heap→X w args→X w' args)
 (own:ownKnob C.prog.godebug=none) (started:os.Started) (noInit:C.prog.inits.idxOf? f=none) (hfn:C.prog.funcs[f]? =some fn)
 (witness:∃(w:World) (tape:Tape) (i:Input),w.os=os∧(w.forCall tape i).Shaped C.prog∧i.vars=[]∧Input.okWide C.prog (w.forCall tape i) .any w.heap.size f i∧
  ((s.pre enc C.prog fn conds apart (w.forCall tape i).memory i.args∧X (w.forCall tape i).memory i.args)∧sizedMet enc C.prog fn (OpenSpec.ofChange s) apart (w.forCall tape i).memory i.args)∧a.holds C.prog (lone (Frame.enter C.prog f i.args .normal) [] (w.forCall tape i)))
 (contract:∀(W:World) (base:Nat) (args:Array Value) (ds gs:List (DataW H)) (before:List MemPlace),
  (∀(j:Nat) t v,fn.params[j]? =some t→args[j]? =some v→Value.okWide C.prog W .any base t v)→
  DataW.Whole enc C.prog fn.params.toList s.vars apart W args.toList ds gs before→
  conds.all (PathCond.test C.prog ⟨fn.params.toList,ds,s.plain.varTypes C.prog,gs⟩)=true→
  X W args→W.ShapedOpen C.prog→
  Calls C.prog f args W fun e W'=>∃v,e= .returned v∧s.post enc C.prog fn apart fresh handsOn again W args v W'):
 ReturnsInHanded a C os f .any (fun w args=>(s.pre enc C.prog fn conds apart w args∧X w args)∧sizedMet enc C.prog fn (OpenSpec.ofChange s) apart w args) (s.post enc C.prog fn apart fresh handsOn again):=by
 refine returnsInHanded_of_calls own started noInit witness ?_
 intro w tape i _ hsh _ hok hpre hholds
 obtain⟨_,_,_,fn',hfn',_,_,_,_,hval⟩:=hok
 have e:fn'=fn:=Option.some.inj (hfn'.symm.trans hfn)
 subst e
 obtain⟨⟨⟨ds,gs,before,hw,hc⟩,hx⟩,hz⟩:=hpre
 have hw':=DataW.Whole.of_heap (w':=w.forCall tape i) (by rfl) hw
 refine(contract (w.forCall tape i) w.heap.size i.args ds gs before hval hw' hc (hX _ _ _ (by rfl) hx) hsh).mono fun e W' ⟨v,he,hp⟩=> ?_
 subst he
 exact ChangeSpec.post_blind hp
end
section
@[reducible] def V.i (x:Int):V:= .d (.int .i64 x)
@[reducible] def V.n (x:Int):V:= .d (.int .u64 x)
@[reducible] def V.w (x:Int):V:= .d (.int .u32 x)
@[reducible] def V.y (x:Int):V:= .d (.int .u8 x)
@[reducible] def V.b (x:Bool):V:= .d (.bool x)
@[reducible] def V.s (x:List UInt8):V:= .d (.str x)
@[reducible] def V.l {α:Type} (n:Nat) (l:List α) (f:α→List Dat):V:= .d (.sl n (l.map f))
@[reducible] def kC (b:Code) (p:List Nat):It:= .code (cAt b p)
@[reducible] def kL (b:Code) (p:List Nat):It:= .inLoop (cAt b p)
@[reducible] def kO (b:Code) (p:List Nat):It:= .ops (Ec9 (cAt b p)) []
theorem oi{α:Type}{a b:α}(h:some a=some b):a=b:=Option.some.inj h
section
variable {r:Option Nat} {P:Program} {N:Nat} {ds:List Deferred} {fin:Fin} {c:Cfg} {q:K6}
theorem jc(n:Nat){g:FuncId}{ys:List V}{v:V}(he:A8 P g)(hcall:C3 P g ys v)(hk:J r P N ds fin (Dr9 P N (Ae9 P N n c) v))(hc:Bn6 P N (Ae9 P N n c)=some (g,ys):=by kernel_rfl):J r P N ds fin c:=
 C5 n (Cy2 ys v hc he (H9.refl _) hcall hk)
theorem dc(n:Nat){g:FuncId}{ys:List V}{v:V}(he:A8 P g)(hcall:C3 P g ys v)(hk:JD r P N ds fin (Cl3 P N (H5 P N n q) v))(hc:Cl1 P N (H5 P N n q)=some (g,ys):=by kernel_rfl)(hb:Dq4 P N (H5 P N n q) v=true:=by kernel_rfl):JD r P N ds fin q:=
 R7 n (Ck2 ys v hc hb he (H9.refl _) hcall hk)
theorem jcr(n:Nat){g:FuncId}{os:List (Nat×B7)}{ys:List V}{H:List (Nat×B7)}{v:V}(p:List (Nat×Nat))(he:A8 P g)(hcall:F4 P g os ys H v)(hk:J r P N ds fin (Ed3 P N (Ae9 P N n c) p H v))(hc:Bg4 P N (Ae9 P N n c) p=some (g,os,ys):=by kernel_rfl)(hb:okR P N (Ae9 P N n c) p H=true:=by kernel_rfl):J r P N ds fin c:=
 C5 n (Cy3 p ys H v hc hb he (H9.refl _) hcall hk)
theorem dcr(n:Nat){g:FuncId}{os:List (Nat×B7)}{ys:List V}{H:List (Nat×B7)}{v:V}(p:List (Nat×Nat))(he:A8 P g)(hcall:F4 P g os ys H v)(hk:JD r P N ds fin (Da4 P N (H5 P N n q) p H v))(hc:Ao9 P N (H5 P N n q) p=some (g,os,ys):=by kernel_rfl)(hb:Dy3 P N (H5 P N n q) p H v=true:=by kernel_rfl):JD r P N ds fin q:=
 R7 n (Ck3 p ys H v hc hb he (H9.refl _) hcall hk)
theorem dcs(n:Nat){g:FuncId}{os:List (Nat×B7)}{ys:List V}{H:List (Nat×B7)}{v:V}(p:List (Nat×Nat))(same:List Nat)(he:A8 P g)(hcall:F4 P g os ys H v)(hk:JD r P N ds fin (Da5 P N (H5 P N n q) p H v same))(hc:Ao9 P N (H5 P N n q) p=some (g,os,ys):=by kernel_rfl)(hb:Dy4 P N (H5 P N n q) p H v same=true:=by kernel_rfl)(hs:Ec8 P N (H5 P N n q) p H same=Ed5 P N (H5 P N n q) p H same:=by kernel_rfl):JD r P N ds fin q:=
 R7 n (Ck4 p same H v hc hb hs he hcall hk)
theorem ji{α:Type}(n t:Nat){b:Bool}{x y z:α}(hF:(bif b then x else y)=z)(ht:b=true→x=z→J r P N ds fin (Cn7 (Ae9 P N n c) t (.d (.bool true))))(hf:b=false→y=z→J r P N ds fin (Cn7 (Ae9 P N n c) t (.d (.bool false))))(hb:E7 N (Ae9 P N n c).sl (.tmp t)= .d (.bool b):=by kernel_rfl):J r P N ds fin c:=
 C5 n (Dj2 t hb (fun h=>ht h (by subst h;exact hF)) (fun h=>hf h (by subst h;exact hF)))
theorem di{α:Type}(n t:Nat){b:Bool}{x y z:α}(hF:(bif b then x else y)=z)(ht:b=true→x=z→JD r P N ds fin (Ci1 (H5 P N n q) t (.d (.bool true))))(hf:b=false→y=z→JD r P N ds fin (Ci1 (H5 P N n q) t (.d (.bool false))))(hb:E7 N (H5 P N n q).sl (.tmp t)= .d (.bool b):=by kernel_rfl):JD r P N ds fin q:=
 R7 n (Cy1 t hb (fun h=>ht h (by subst h;exact hF)) (fun h=>hf h (by subst h;exact hF)))
theorem Eg7{α β:Type}{o:Option α}{f:α→Option β}{z:β}(h:Option.bind o f=some z):∃y,o=some y∧f y=some z:=by
 cases o with
 |none=>cases h
 |some y=>exact⟨y,rfl,h⟩
theorem jB(n:Nat){α β:Type}{o:Option α}{f:α→Option β}{z:β}{g:FuncId}{ys:List V}{v:α→V}(hF:Option.bind o f=some z)(he:A8 P g)(hcall:∀{y},o=some y→C3 P g ys (v y))(hk:∀y,f y=some z→J r P N ds fin (Dr9 P N (Ae9 P N n c) (v y)))(hc:Bn6 P N (Ae9 P N n c)=some (g,ys):=by kernel_rfl):J r P N ds fin c:=by
 obtain⟨y,e,h⟩:=Eg7 hF
 exact jc n he (hcall e) (hk y h) hc
theorem dB(n:Nat){α β:Type}{o:Option α}{f:α→Option β}{z:β}{g:FuncId}{ys:List V}{v:α→V}(hF:Option.bind o f=some z)(he:A8 P g)(hcall:∀{y},o=some y→C3 P g ys (v y))(hk:∀y,f y=some z→JD r P N ds fin (Cl3 P N (H5 P N n q) (v y)))(hc:Cl1 P N (H5 P N n q)=some (g,ys):=by kernel_rfl)(hb:∀y,Dq4 P N (H5 P N n q) (v y)=true:=by intro _;kernel_rfl):JD r P N ds fin q:=by
 obtain⟨y,e,h⟩:=Eg7 hF
 exact dc n he (hcall e) (hk y h) hc (hb y)
theorem jI{α:Type}(n t:Nat){b:Bool}{x y z:α}(hF:(bif b then x else y)=z)(ht:x=z→J r P N ds fin (Cn7 (Ae9 P N n c) t (.d (.bool true))))(hf:y=z→J r P N ds fin (Cn7 (Ae9 P N n c) t (.d (.bool false))))(hb:E7 N (Ae9 P N n c).sl (.tmp t)= .d (.bool b):=by kernel_rfl):J r P N ds fin c:=ji n t hF (fun _=>ht) (fun _=>hf) hb
theorem dI{α:Type}(n t:Nat){b:Bool}{x y z:α}(hF:(bif b then x else y)=z)(ht:x=z→JD r P N ds fin (Ci1 (H5 P N n q) t (.d (.bool true))))(hf:y=z→JD r P N ds fin (Ci1 (H5 P N n q) t (.d (.bool false))))(hb:E7 N (H5 P N n q).sl (.tmp t)= .d (.bool b):=by kernel_rfl):JD r P N ds fin q:=di n t hF (fun _=>ht) (fun _=>hf) hb
theorem jo1(n:Nat){o:Option (List Dat)}{x:List Dat}(hx:o=some x)(hk:J r P N ds fin (Ed1 P N (Ae9 P N n c) x))(ho:Ce6 P N (Ae9 P N n c)=some o:=by kernel_rfl):J r P N ds fin c:=C5 n (Z1 x ho hx hk)
theorem jo2(n:Nat){o:Option (List (List Dat))}{x:List (List Dat)}(hx:o=some x)(hk:J r P N ds fin (Ed2 P N (Ae9 P N n c) x))(ho:Ce7 P N (Ae9 P N n c)=some o:=by kernel_rfl):J r P N ds fin c:=C5 n (H6 x ho hx hk)
theorem do1(n:Nat){o:Option (List Dat)}{x:List Dat}(hx:o=some x)(hk:JD r P N ds fin (Da2 P N (H5 P N n q) x))(ho:Da0 P N (H5 P N n q)=some o:=by kernel_rfl)(hb:Dy1 P N (H5 P N n q) x=true:=by kernel_rfl):JD r P N ds fin q:=R7 n (Bz3 x ho hb hx hk)
theorem do2(n:Nat){o:Option (List (List Dat))}{x:List (List Dat)}(hx:o=some x)(hk:JD r P N ds fin (Da3 P N (H5 P N n q) x))(ho:Da1 P N (H5 P N n q)=some o:=by kernel_rfl)(hb:Dy2 P N (H5 P N n q) x=true:=by kernel_rfl):JD r P N ds fin q:=R7 n (At4 x ho hb hx hk)
theorem jd(n:Nat)(hk:JD r P N ds fin (Cd7 (Ae9 P N n c)))(hm:P.follows .mixedOrders=true:=by kernel_rfl)(hd:Cd9 (Ae9 P N n c)=true:=by kernel_rfl):J r P N ds fin c:=C5 n (Dj3 hm hd hk)
theorem je(n:Nat)(hk:J r P N ds fin ⟨(H5 P N n q).sl,(H5 P N n q).ob,(H5 P N n q).td⟩)(hr:(H5 P N n q).rest=[]:=by kernel_rfl):JD r P N ds fin q:=R7 n (Dj0 hr hk)
theorem ja(n:Nat){S0:List (Nat×V)}{O0:List (Nat×B7)}{T0:List It}(hk:J r P N ds fin ⟨mkT S0,O0,T0⟩)(hp:prune N (S0.map Prod.fst) (O0.map Prod.fst) (Ae9 P N n c)=some (S0,O0,T0):=by kernel_rfl)(hl:An1 N (S0.map Prod.fst)=true:=by kernel_rfl):J r P N ds fin c:=C5 n (Bf5 _ _ hp hl hk)
def Eh7(P:Program)(N:Nat)(c:Cfg)(fn:Func):Option V:=match Cf6 P N c fn.results.toList with|some xs=>some (Bw5 xs)|none=>none
theorem jr(n:Nat){fn:Func}{v:V}(hv:Eh7 P N (Ae9 P N n c) fn=some v:=by kernel_rfl)(hN:Nat.ble N 1024=true:=by kernel_rfl):J r P N [] (L3 P fn v) c:=by
 unfold Eh7 at hv
 split at hv
 ·rename_i xs hx
  exact C5 n (At5 (rs:=fn.results.toList) xs (by simp) hN hx (H9.refl _) (Option.some.inj hv))
 ·cases hv
def Dn7(P:Program)(N:Nat)(c:Cfg)(fn:Func):Option (V×List (Nat×B7)):=match Bc6 P N c fn.results.toList with|some (xs,H)=>some (Bw5 xs,H)|none=>none
theorem jrr(n:Nat){fn:Func}{v:V}{H:List (Nat×B7)}(hv:Dn7 P N (Ae9 P N n c) fn=some (v,H):=by kernel_rfl)(hN:Nat.ble N 1024=true:=by kernel_rfl):J r P N [] (Bd8 P fn H v) c:=by
 unfold Dn7 at hv
 split at hv
 ·rename_i xs H' hx
  have h1:=Option.some.inj hv
  injection h1 with h2 h3
  subst h3
  exact C5 n (Dj6 (rs:=fn.results.toList) xs (by simp) hN hx (H9.refl _) h2)
 ·cases hv
theorem cf(N:Nat){g:FuncId}{fn:Func}{args:List V}{v:V}(hf:P.funcs[g]? =some fn)(h:J none P N [] (L3 P fn v) ⟨mkT (Bw0 0 args),[],[.code (C1 fn)]⟩)(hb:fn.body=some (C1 fn):=by kernel_rfl)(hN:fn.ntmps=N:=by rfl)(hv:Nat.ble args.length N=true:=by rfl):C3 P g args v:=Ck9 hf hb hN hv h
theorem cr(N:Nat){g:FuncId}{fn:Func}{os H:List (Nat×B7)}{args:List V}{v:V}(hf:P.funcs[g]? =some fn)(h:J none P N [] (Bd8 P fn H v) ⟨mkT (Bw0 0 args),os,[.code (C1 fn)]⟩)(hb:fn.body=some (C1 fn):=by kernel_rfl)(hN:fn.ntmps=N:=by rfl)(hv:Nat.ble args.length N=true:=by rfl):F4 P g os args H v:=Cl0 hf hb hN hv h
end
end
end Go.Proofs.YtdlnalepibeibaaGreatDoor.Kx
end
