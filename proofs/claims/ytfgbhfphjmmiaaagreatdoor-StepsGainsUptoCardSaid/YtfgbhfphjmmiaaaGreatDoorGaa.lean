/- One part of the texts that lead to the theorem; it claims nothing by itself. -/
import Derived.OrdersIn
import Derived.TacticsIn
import Derived.OrdersHeld
import Derived.Below
import Derived.RangeFuncOwn
import Derived.MapKept
import Derived.Laws.AppendOwn
import Derived.ChangeKeysEq
import Derived.Laws.MakeOwn
import Derived.Lib.ConvBytes
import Derived.Laws.BytesString
import Derived.Laws.Cells
import Derived.Lib.Builder
import Derived.Lib.UnsafeStr
import Derived.Laws.StructEq
open List
namespace Go.Proofs.YtfgbhfphjmmiaaaGreatDoor
abbrev aa_:=@List.getElem?_eq_getElem
abbrev ab_:=@List.mem_cons_self
abbrev ac_:=@List.getElem?_eq_some_iff
abbrev ad_:=@Nat.le_refl
abbrev ae_:=@Int.mul_le_mul_of_nonneg_right
abbrev af_:=@List.getElem_mem
abbrev ag_:=@List.drop_of_length_le
abbrev ah_:=@Nat.le_trans
abbrev ai_:=@List.drop_eq_getElem_cons
abbrev aj_:=@Int.le_of_lt
abbrev ak_:=@List.getD_eq_getElem?_getD
abbrev al_:=@List.mem_append_right
abbrev am_:=@List.mem_append_left
abbrev an_:=@List.getElem?_append_left
abbrev ao_:=@List.take_append_drop
abbrev ap_:=@List.take_of_length_le
abbrev aq_:=@Array.getElem?_eq_some_iff
abbrev ar_:=@Int.mul_le_mul_of_nonneg_left
abbrev as_:=@List.length_pos_iff
abbrev at_:=@Nat.zero_le
abbrev au_:=@List.getElem?_append_right
abbrev av_:=@List.mem_map
abbrev aw_:=@List.nodup_append
abbrev ax_:=@Option.some.inj
abbrev ay_:=@Nat.lt_irrefl
abbrev az_:=@List.drop_drop
abbrev a0_:=@Nat.lt_of_lt_of_le
abbrev a1_:=@List.eq_nil_of_length_eq_zero
abbrev a2_:=@Int.emod_lt_of_pos
abbrev a3_:=@Int.pow_succ
abbrev a4_:=@Int.emod_nonneg
abbrev a5_:=@Int.ediv_nonneg
abbrev a6_:=@Int.natAbs_natCast
abbrev a7_:=@Nat.mul_le_mul
abbrev a8_:=@Nat.sub_zero
abbrev a9_:=@Int.emod_add_mul_ediv
abbrev ba_:=@Int.ediv_lt_of_lt_mul
abbrev bb_:=@List.mem_map_of_mem
abbrev bc_:=@Nat.lt_or_ge
abbrev bd_:=@Int.emod_eq_of_lt
abbrev be_:=@Nat.mul_le_mul_right
abbrev bf_:=@Int.mul_comm
abbrev bg_:=@List.mem_flatten
abbrev bh_:=@Array.ext'
abbrev bi_:=@Array.length_toList
abbrev bj_:=@Nat.one_mul
abbrev bk_:=@Int.lt_trichotomy
abbrev bl_:=@Nat.mul_pos
abbrev bm_:=@Int.natAbs_mul
abbrev bn_:=@List.length_replicate
abbrev bo_:=@Int.mul_nonneg
abbrev bp_:=@Int.mul_ediv_cancel_left
abbrev bq_:=@List.take_left
abbrev br_:=@Nat.le_mul_of_pos_left
abbrev bs_:=@Nat.pow_add
abbrev bt_:=@List.mem_singleton
abbrev bu_:=@List.mem_of_getElem?
abbrev bv_:=@Nat.min_eq_left
abbrev bw_:=@Int.ediv_eq_zero_of_lt
abbrev bx_:=@List.map_id
abbrev bz_:=@Nat.pow_pos
abbrev b0_:=@List.take_succ_eq_append_getElem
abbrev b1_:=@List.drop_left
abbrev b2_:=@List.mem_or_eq_of_mem_set
abbrev b3_:=@List.replicate_append_replicate
abbrev b4_:=@Int.natCast_mul
abbrev b5_:=@Bool.eq_false_or_eq_true
abbrev b6_:=@List.ext_getElem?
abbrev b7_:=@List.length_eq_zero_iff
abbrev b8_:=@List.map_congr_left
abbrev b9_:=@Int.ediv_le_self
abbrev ca_:=@Int.sign_eq_one_of_pos
abbrev cb_:=@List.map_replicate
abbrev cc_:=@Nat.lt_of_le_of_lt
abbrev cd_:=@Int.mul_lt_mul_of_pos_right
abbrev ce_:=@Int.le_ediv_of_mul_le
abbrev cf_:=@Int.mul_pos_of_neg_of_neg
abbrev cg_:=@Nat.pow_le_pow_right
abbrev ch_:=@Nat.mul_one
abbrev ci_:=@Nat.pow_succ
abbrev cj_:=@Int.toNat_of_nonneg
abbrev ck_:=@Int.eq_ofNat_of_zero_le
abbrev cl_:=@List.cons.inj
abbrev cm_:=@Nat.le_of_dvd
abbrev cn_:=@Nat.add_sub_cancel
abbrev co_:=@Int.ediv_mul_le
abbrev cp_:=@Int.lt_or_eq_of_le
abbrev cq_:=@Int.gcd_zero_right
abbrev cr_:=@Nat.ne_of_beq_eq_false
abbrev cs_:=@Nat.add_comm
abbrev ct_:=@Int.gcd_pos_of_ne_zero_right
abbrev cu_:=@Rat.den_divInt
abbrev cv_:=@Array.toList_map
abbrev cw_:=@Int.gcd_dvd_left
abbrev cx_:=@Rat.divInt_mul_right
abbrev cy_:=@Int.pow_succ'
abbrev cz_:=@Int.mul_add_emod_self_left
abbrev c0_:=@Int.mul_lt_mul_of_pos_left
abbrev c1_:=@Int.mul_pos
abbrev c2_:=@List.flatten_append
abbrev c3_:=@Nat.pow_le_pow_left
abbrev c4_:=@Nat.div_le_self
abbrev c5_:=@Nat.eq_zero_or_pos
abbrev c6_:=@Int.zero_add
abbrev c7_:=@Int.add_zero
abbrev c8_:=@Int.gcd_comm
abbrev c9_:=@Int.lt_of_lt_of_le
abbrev da_:=@BitVec.toNat_ofNat
abbrev db_:=@Rat.num_divInt
abbrev dc_:=@Int.gcd_dvd_right
abbrev dd_:=@List.getElem?_set
end Go.Proofs.YtfgbhfphjmmiaaaGreatDoor
namespace Go.Proofs.YtfgbhfphjmmiaaaGreatDoor
theorem dT_{p:Prop}[Decidable p](h:p):decide p=true:=decide_eq_true h
theorem dF_{p:Prop}[Decidable p](h:¬p):decide p=false:=decide_eq_false h
theorem nB_{n m:Nat}(h:Nat.beq n m=true):n=m:=Nat.eq_of_beq_eq_true h
end Go.Proofs.YtfgbhfphjmmiaaaGreatDoor
section
namespace Go.Proofs.YtfgbhfphjmmiaaaGreatDoor.Kx
open Go Go.RowKit Go.IntKind
section
def WF(r:Option Nat):Fence:={fn:=fun _=>True,depth:=none,alive:=false,round:=r}
def upd(f:Nat->Value)(d:Nat)(v:Value):Nat->Value:=fun s=>match Nat.beq s d with|true=>v|false=>f s
theorem An2(f:Nat->Value)(d:Nat)(v:Value):upd f d v d=v:=by simp[upd]
theorem Cb6(f:Nat->Value){d s:Nat}(v:Value)(h:s≠d):upd f d v s=f s:=by
 have:Nat.beq s d=false:=by
  cases hb:Nat.beq s d with
  |false=>rfl
  |true=>exact absurd (nB_ hb) h
 simp[upd,this]
def fr(N:Nat)(f:Nat->Value)(ds:List Deferred):Act:={tmps:=Array.ofFn (n:=N) fun i=>f i.val,defers:=ds}
def Cc2(vs:List Value):Nat->Value:=fun i=>(vs[i]?).getD undef
theorem ev{N t:Nat}{f:Nat->Value}{ds:List Deferred}{v:Value}(h:Nat.blt t N=true)(hv:f t=v):(fr N f ds).eval (.tmp t)=v:=by
 have ht:t<N:=by simpa[Nat.blt_eq] using h
 subst hv;simp[fr,Act.eval,ht]
theorem Eo7{N d:Nat}{f:Nat->Value}{ds:List Deferred}{v:Value}:(fr N f ds).put (some d) v=fr N (upd f d v) ds:=by
 unfold fr Act.put;simp only[Act.mk.injEq,and_true];apply Array.ext
 .simp
 .intro i h1 h2;simp only[Array.size_ofFn]at h2;rw[Array.getElem_setIfInBounds (by simpa using h1)];by_cases hd:d=i
  .subst hd;simp[An2]
  .simp[hd,Cb6 f v (Ne.symm hd)]
theorem Cq3(N:Nat)(vs:List Value)(h:vs.length<=N):
 ({tmps:=vs.toArray++Array.replicate (N-vs.toArray.size) undef,defers:=[]}:Act)=fr N (Cc2 vs) []:=by
 unfold fr;simp only[Act.mk.injEq,and_true];apply Array.ext
 .simp;omega
 .intro i h1 h2;simp only[Array.size_ofFn]at h2;simp only[Array.getElem_ofFn,Cc2];rw[Array.getElem_append];split
  .rename_i hi;simp at hi;simp[hi]
  .rename_i hi;simp at hi;simp[hi]
section
variable {r:Option Nat} {P:Program} {Q:Exit->Act->World->Prop} {a:Act} {w:World} {N:Nat} {f:Nat->Value} {ds:List Deferred}
@[irreducible] def W (r:Option Nat) (P:Program) (c:Code) (Q:Exit->Act->World->Prop) (a:Act) (w:World):Prop:=
 ∀(b:Frame) (k:List Item) (cs:List Frame),b.roundOf=r->(∃fn,P.funcs[b.fn]? =some fn)->
  ∃e a' w',Q e a' w'/\ArrivesIn (Machine.fenced P (WF r)) P (lone (b.atR a (.code c::k)) cs w) b k cs e a' w'
theorem X9(r:Option Nat)(n:Nat):(WF r).room n:=fun d h=>by cases h
theorem L1{r:Option Nat}{P:Program}{fr:Frame}{cs:List Frame}{w:World}(ha:fr.about P w=none):(lone fr cs w).fenced P (WF r):=fenced_calm (n:=0) trivial (X9 r _) ha
theorem Ez4{c:Code}(h:c.wpIn (WF r) 0 P Q a w):W r P c Q a w:=by
 unfold W;exact fun b k cs hro _=>h b k cs hro trivial (X9 r _)
theorem Cx4{c:Code}(h:W r P c Q a w):∀(b:Frame) (k:List Item) (cs:List Frame),b.roundOf=r->(∃fn,P.funcs[b.fn]? =some fn)->
 ∃e a' w',Q e a' w'/\ArrivesIn (Machine.fenced P (WF r)) P (lone (b.atR a (.code c::k)) cs w) b k cs e a' w':=by unfold W at h;exact h
@[irreducible] def L (r:Option Nat) (P:Program) (ops:Array Oper) (Q:Exit->Act->World->Prop) (l:List Oper) (a:Act) (w:World):Prop:=wpListIn (WF r) 0 P ops Q l a w
theorem Fq9(r:Option Nat)(P:Program)(ops:Array Oper)(Q:Exit->Act->World->Prop)(l:List Oper)(a:Act)(w:World):L r P ops Q l a w=wpListIn (WF r) 0 P ops Q l a w:=by unfold L;rfl
theorem Co5{g:FuncId}{args:Array Value}{R:Ending->World->Prop}(h:Calls P g args w R):CallsIn (WF r) 0 P g args w R:=
 (callsIn_wide (n:=0)).2 h
theorem entry{g:FuncId}{fn:Func}{c:Code}{vs:List Value}{R:Ending->World->Prop}(hf:P.funcs[g]? =some fn)(hb:fn.body=some c)(hN:fn.ntmps=N)(hv:vs.length<=N)
 (h:W none P c (bodyPost P fn R) (fr N (Cc2 vs) []) w):Calls P g vs.toArray w R:=by
 refine CallsIn.calls (F:=WF none) (n:=0) ⟨trivial,fun cs hr=> ?_⟩ (X9 none)
 let b:Frame:={(default:Frame) with fn:=g,kind:= .normal,roundOf:=none}
 have henter:Frame.enter P g vs.toArray .normal=b.atR (fr N (Cc2 vs) []) [.code c]:=by
  rw[<-Cq3 N vs hv,<-hN];simp[Frame.enter,Frame.atR,hf,hb,b]
 obtain⟨e,a',w',hq,harr⟩:=Cx4 h b [] cs rfl ⟨fn,hf⟩;rw[<-henter]at harr;cases e with
 |normal=>
  obtain⟨hd,v,hr',hR⟩:=hq;exact⟨.returned v,w',_,hR,StepsIn.trans harr (.one (L1 (fr:=b.atR a' []) rfl) (stepR_end rfl)),rfl,rfl,hd,rfl,fn,hf,hr'⟩
 |ret=>
  obtain⟨hd,v,hr',hR⟩:=hq;obtain⟨todo,hs⟩:=harr.1 rfl;exact⟨.returned v,w',_,hR,hs,rfl,rfl,hd,rfl,fn,hf,hr'⟩
 |panic chain=>
  obtain⟨hd,hR⟩:=hq;obtain⟨todo,hs⟩:=harr;exact⟨.panicked chain,w',_,hR,hs,rfl,rfl,hd,fn,hf⟩
 |exit id=>exact hq.elim
 |goto l=>exact hq.elim
 |outgrown=>exact⟨.outgrown,w',b,hq,harr.resolve_left (by simp[b]),rfl,trivial⟩
theorem Gg9{x y:Code}(h:W r P x (Exit.then (fun a w=>W r P y Q a w) Q) a w):W r P (.seq x y) Q a w:=by
 unfold W;intro b k cs hro hb;have h0:(lone (b.atR a (.code (.seq x y)::k)) cs w).fenced P (WF r):=L1 rfl;obtain⟨e,a₁,w₁,hq,harr⟩:=Cx4 h b (.code y::k) cs hro hb;cases e with
 |normal=>
  obtain⟨e₂,a₂,w₂,hq₂,harr₂⟩:=Cx4 hq b k cs hro hb;exact⟨e₂,a₂,w₂,hq₂,.of_steps (.head h0 stepR_seq harr) harr₂⟩
 |exit id=>exact⟨_,a₁,w₁,hq,.of_steps (.one h0 stepR_seq) (.pass (x:= .code y) rfl (fun _ _=> .inl (by simp)) harr)⟩
 |goto l=>exact⟨_,a₁,w₁,hq,.of_steps (.one h0 stepR_seq) (.pass (x:= .code y) rfl (fun _ _=> .inl (by simp)) harr)⟩
 |ret=>exact⟨_,a₁,w₁,hq,.of_steps (.one h0 stepR_seq) (.pass (x:= .code y) rfl (fun _ _=> .inl (by simp)) harr)⟩
 |panic ch=>exact⟨_,a₁,w₁,hq,.of_steps (.one h0 stepR_seq) (.pass (x:= .code y) rfl (fun _ _=> .inl (by simp)) harr)⟩
 |outgrown=>exact⟨_,a₁,w₁,hq,.of_steps (.one h0 stepR_seq) (.pass (x:= .code y) rfl (fun _ _=> .inl (by simp)) harr)⟩
theorem Fr3(h:Q .normal a w):W r P .skip Q a w:=Ez4 (wpIn_skip h)
theorem Ez3{id:Nat}{c:Code}(h:W r P c (Exit.inBlock id Q) a w):W r P (.block id c) Q a w:=by
 unfold W;intro b k cs hro hb;have h0:(lone (b.atR a (.code (.block id c)::k)) cs w).fenced P (WF r):=L1 rfl;obtain⟨e,a₁,w₁,hq,harr⟩:=Cx4 h b (.inBlock id::k) cs hro hb;cases e with
 |normal=>exact⟨.normal,a₁,w₁,hq,.head h0 stepR_block (StepsIn.trans harr (.one (L1 rfl) stepR_inBlock))⟩
 |exit id'=>
  by_cases hid:id'=id
  .simp only[Exit.inBlock,hid,if_true]at hq;exact⟨.normal,a₁,w₁,hq,.head h0 stepR_block (harr.1 k (by simp[exitTo,hid]))⟩
  .simp only[Exit.inBlock,hid,if_false]at hq;have this:(id==id')=false:=by simp;exact fun h=>hid h.symm
   have hx:exitTo id' (.inBlock id::k)=exitTo id' k:=by simp[exitTo,this]
   exact⟨.exit id',a₁,w₁,hq,fun k' hk=> .head h0 stepR_block (harr.1 k' (by rw[hx];exact hk)),
    fun hr' hk=>let ⟨k₁,h1,h2⟩:=harr.2 hr' (by rw[hx];exact hk);⟨k₁,h1,.head h0 stepR_block h2⟩⟩
 |goto l=>
  have hx:gotoIn l (.inBlock id::k)=gotoIn l k:=by simp[gotoIn]
  exact⟨_,a₁,w₁,hq,fun k' hk=> .head h0 stepR_block (harr.1 k' (by rw[hx];exact hk)),
   fun hr' hk=>let ⟨k₁,h1,h2⟩:=harr.2 hr' (by rw[hx];exact hk);⟨k₁,h1,.head h0 stepR_block h2⟩⟩
 |ret=>exact⟨_,a₁,w₁,hq,.of_steps (.one h0 stepR_block) harr⟩
 |panic ch=>exact⟨_,a₁,w₁,hq,.of_steps (.one h0 stepR_block) harr⟩
 |outgrown=>exact⟨_,a₁,w₁,hq,.of_steps (.one h0 stepR_block) harr⟩
theorem Ce7(h:Q .ret a w):W r P .ret Q a w:=Ez4 (wpIn_ret h)
theorem Fr2{id:Nat}(h:Q (.exit id) a w):W r P (.exit id) Q a w:=Ez4 (wpIn_exit h)
theorem Gn2{c:Operand}{x y:Code}{b:Bool}(hc:a.eval c= .bool b)(ht:b=true->W r P x Q a w)(hf:b=false->W r P y Q a w):W r P (.cond c x y) Q a w:=by
 have h:W r P (if b then x else y) Q a w:=by cases b<;>first|exact ht rfl|exact hf rfl
 unfold W;intro b k cs hro hb;obtain⟨e,a',w',q,r⟩:=Cx4 h b k cs hro hb;exact⟨e,a',w',q,.of_steps (.one (L1 rfl) (stepR_cond hc)) r⟩
theorem Eb7{id:Nat}{l:List Oper}(h:L r P l.toArray Q l a w):W r P (.region id l.toArray false) Q a w:=by rw[Fq9]at h;exact Ez4 (wpIn_region_lit h)
theorem Bt5{c:Code}{Q':Exit->Act->World->Prop}(h:W r P c Q' a w)(hq:∀e a w,Q' e a w->Q e a w):W r P c Q a w:=by
 unfold W;intro b k cs hro hb;obtain⟨e,a',w',q,r⟩:=Cx4 h b k cs hro hb;exact⟨e,a',w',hq _ _ _ q,r⟩
def Ai3:Op->Bool
 | .defer _=>true
 |_=>false
def Run(P:Program)(a:Act)(op:Op)(w:World)(v:Value)(w':World):Prop:=
 ∀d ty pos aft g,(execOp a.eval ⟨d,op,ty,pos,aft,g⟩).run P w= .ok (.value v) w'
def Gu1(P:Program)(a:Act)(op:Op)(w:World)(w':World):Prop:=
 ∀d ty pos aft g,(execOp a.eval ⟨d,op,ty,pos,aft,g⟩).run P w= .ok .skip w'
variable {ops:Array Oper} {rest:List Oper}
theorem Am3{o:Oper}(h:Ai3 o.op=false):o.semAt r a.eval=execOp a.eval o:=
 Oper.semAt_eq r a.eval o (fun c hc=>by rw[hc]at h;cases h)
theorem Gg5(h:Q .normal a w):L r P ops Q [] a w:=by rw[Fq9];exact h
theorem Gm8{o:Oper}(hg:Region.wanted o (yielded ops a.tmps)=true)(h:o.wpIn (WF r) 0 P a w (fun a w=>L r P ops Q rest a w) Q):L r P ops Q (o::rest) a w:=by
 rw[Fq9];unfold wpListIn;rw[if_pos hg];simp only[Fq9]at h;exact h
theorem Dy6{o:Oper}{v:Value}{w':World}{K:Act->World->Prop}(hd:Ai3 o.op=false)(h:(execOp a.eval o).run P w= .ok (.value v) w')(k:K (a.put o.dst v) w'):o.wpIn (WF r) 0 P a w K Q:=by
 refine⟨fun _ _=>trivial,?_⟩;rw[show(WF r).round=r from rfl,Am3 hd,h];exact k
theorem Db5{o:Oper}{w':World}{K:Act->World->Prop}(hd:Ai3 o.op=false)(h:(execOp a.eval o).run P w= .ok .skip w')(k:K (a.put o.dst undef) w'):o.wpIn (WF r) 0 P a w K Q:=by
 refine⟨fun _ _=>trivial,?_⟩;rw[show(WF r).round=r from rfl,Am3 hd,h];exact k
theorem Bj8{o:Oper}{g:FuncId}{args:Array Value}{w₁:World}{R:Ending->World->Prop}{K:Act->World->Prop}(hd:Ai3 o.op=false)(h:(execOp a.eval o).run P w= .ok (.enter g args) w₁)
 (hc:Calls P g args w₁ R) (k:∀e w',R e w'->∃v,e= .returned v/\K (a.put o.dst v) w'):o.wpIn (WF r) 0 P a w K Q:=by
 refine⟨fun _ _=>trivial,?_⟩;rw[show(WF r).round=r from rfl,Am3 hd,h];refine⟨fun h=>(by cases h),CallsIn.mono (Co5 (r:=r) hc) ?_⟩;intro e w' he;obtain⟨v,rfl,hk⟩:=k e w' he;exact hk
def Be8:List Oper->Nat->Option Tmp
 |[],_=>none
 |o::_,0=>o.dst
 |_::l,j+1=>Be8 l j
theorem Bn1:∀(l:List Oper) (j:Nat),((l.toArray[j]?).bind (·.dst))=Be8 l j
 |[],_=>by simp[Be8]
 |o::_,0=>by simp[Be8]
 |_::l,j+1=>by have:=Bn1 l j;simpa[Be8] using this
theorem Et0{l:List Oper}{j d:Nat}{b:Bool}(ho:Be8 l j=some d)(hN:Nat.blt d N=true)(hv:f d= .bool b):yielded l.toArray (fr N f ds).tmps j=some b:=by
 have hd:d<N:=by simpa[Nat.blt_eq] using hN
 unfold yielded;rw[Bn1,ho];simp[fr,hd,hv]
theorem Cw0{d:Option Tmp}{op:Op}{ty:TypeId}{pos:String}{aft:Array Edge}{j:Nat}{b:Bool}{y:Nat->Option Bool}(h:y j=some b)(c:Bool):Region.wanted ⟨d,op,ty,pos,aft,some (j,c)⟩ y=(b==c):=by
 simp[Region.wanted,h]
theorem Cw4{l:List Oper}{j d:Nat}(ho:Be8 l j=some d)(hN:Nat.blt d N=true)(hv:f d=undef):yielded l.toArray (fr N f ds).tmps j=none:=by
 have hd:d<N:=by simpa[Nat.blt_eq] using hN
 unfold yielded;rw[Bn1,ho];simp[fr,hd,hv,undef]
theorem Cw1{d:Option Tmp}{op:Op}{ty:TypeId}{pos:String}{aft:Array Edge}{j:Nat}{y:Nat->Option Bool}(h:y j=none)(c:Bool):Region.wanted ⟨d,op,ty,pos,aft,some (j,c)⟩ y=false:=by
 simp[Region.wanted,h]
end
end
section
section
variable {r:Option Nat} {P:Program} {ops:Array Oper} {S:World->Prop} {K:Act->World->Prop}
def Qn(K:Act->World->Prop):Exit->Act->World->Prop:=fun e a w=>e= .normal/\K a w
def HA(r:Option Nat)(P:Program)(ops:Array Oper)(K:Act->World->Prop)(S:World->Prop):Nat->Array Bool->Act->World->Prop
 |0,listed,a,w=>Region.ready .any ops listed=[]/\K a w
 |fuel+1,listed,a,w=>
  (Region.ready .any ops listed=[]->K a w)/\
  ∀i∈Region.ready .any ops listed,wpOpIn (WF r) 0 P ops (Qn K) i (fun a' w'=>S w'/\HA r P ops K S fuel (listed.setIfInBounds i true) a' w') a w
def Cs5:List Oper->Nat->Option Oper
 |[],_=>none
 |o::_,0=>some o
 |_::l,j+1=>Cs5 l j
theorem Bb9:∀(l:List Oper) (j:Nat),l.toArray[j]? =Cs5 l j
 |[],_=>by simp[Cs5]
 |o::_,0=>by simp[Cs5]
 |_::l,j+1=>by have:=Bb9 l j;simpa[Cs5] using this
variable {N:Nat} {f:Nat->Value} {ds:List Deferred} {fuel:Nat} {listed:Array Bool} {w:World}
end
attribute [irreducible] HA
end
section
abbrev Mem:=Nat->Option (Array Value)
def Pre(c c':Array Value):Prop:=∀(j:Nat) (v:Value),c[j]? =some v->c'[j]? =some v
theorem Pre.refl(c:Array Value):Pre c c:=fun _ _ h=>h
theorem Pre.trans{a b c:Array Value}(h:Pre a b)(k:Pre b c):Pre a c:=fun j v x=>k j v (h j v x)
def Mem.le(M M':Mem):Prop:=∀b c,M b=some c->∃c',M' b=some c'/\Pre c c'
theorem Mem.le_refl(M:Mem):M.le M:=fun _ c h=>⟨c,h,Pre.refl c⟩
theorem Mem.le_trans{A B C:Mem}(h:A.le B)(k:B.le C):A.le C:=fun b c x=>by
 obtain⟨c',h1,h2⟩:=h b c x;obtain⟨c'',h3,h4⟩:=k b c' h1;exact⟨c'',h3,h2.trans h4⟩
def Af8(M:Mem)(w:World):Prop:=∀b c,M b=some c->∃c' e z,w.heap[b]? =some (.cells c' e z)/\Pre c c'
theorem Af8.lt{M:Mem}{w:World}(h:Af8 M w){b:Nat}{c:Array Value}(hb:M b=some c):b<w.heap.size:=by
 obtain⟨c',e,z,hx,_⟩:=h b c hb;exact(aq_.1 hx).1
theorem Af8.cell{M:Mem}{w:World}(h:Af8 M w){b o:Nat}{c:Array Value}(hb:M b=some c){v:Value}(hv:c[o]? =some v):w.cell? ⟨b,o,none⟩=some v:=by
 obtain⟨c',e,z,hx,hp⟩:=h b c hb;simp[World.cell?,hx,hp o v hv]
theorem Af8.below{M:Mem}{w w':World}(h:Af8 M w)(k:Below w.heap.size w w'):Af8 M w':=fun b c hb=>by
 rw[k.block b (h.lt hb)];exact h b c hb
def Gw3(w:World):Mem:=fun b=>match w.heap[b]? with
 |some (.cells c _ _)=>some c
 |_=>none
structure Own where
 blk:Option Nat
 ok:Obj->Prop
 nil:Prop
def box(b:Nat)(cs:List Value):Own:={blk:=some b,ok:=fun o=>∃e,o= .cells cs.toArray e (0,0),nil:=False}
def Fa9:Value->Option Nat
 | .slice (some a) _ _=>some a.block
 |_=>none
def buf(e:TypeId)(s:Nat)(v:Value)(xs:List Value):Own:=
 {blk:=Fa9 v,ok:=fun o=>∃b n cap sp,v= .slice (some ⟨b,0,none⟩) n cap/\xs.length=n*s/\(xs++sp).length=cap*s/\n<=cap/\cap<=maxLen/\o= .cells (xs++sp).toArray e (0,0),nil:=v= .slice none 0 0/\xs=[]}
structure Ext(M M':Mem)(w w':World):Prop where
 below:Below w.heap.size w w'
 le:M.le M'
 sits:Af8 M' w'
 new:∀b c,M' b=some c->b<w.heap.size->M b=some c
theorem Ext.same{M:Mem}{w w':World}(h:Af8 M w)(k:Below w.heap.size w w'):Ext M M w w':=⟨k,M.le_refl,h.below k,fun _ _ h _=>h⟩
theorem Ext.refl{M:Mem}{w:World}(h:Af8 M w):Ext M M w w:=Ext.same h (Below.refl _ _)
end
section
def V7(M:Mem)(b o:Nat)(vs:List Value):Prop:=∃c,M b=some c/\∀j,j<vs.length->c[o+j]? =vs[j]?
theorem V7.mono{M M':Mem}(h:M.le M'){b o:Nat}{vs:List Value}(x:V7 M b o vs):V7 M' b o vs:=by
 obtain⟨c,hc,hj⟩:=x;obtain⟨c',h1,h2⟩:=h b c hc;refine⟨c',h1,fun j hlt=> ?_⟩;have:=hj j hlt;rw[aa_ hlt]at this⊢;exact h2 _ _ this
theorem V7.cell{M:Mem}{w:World}(h:Af8 M w){b o j:Nat}{vs:List Value}(x:V7 M b o vs){v:Value}(hv:vs[j]? =some v):w.cell? ⟨b,o+j,none⟩=some v:=by
 obtain⟨c,hc,hj⟩:=x;have hlt:j<vs.length:=(ac_.1 hv).1;exact h.cell hc (by rw[hj j hlt,hv])
structure Rep(α:Type) where
 n:Nat
 agg:Bool
 r:Mem->List Value->α->Prop
 len:∀{M vs d},r M vs d->vs.length=n
 mono:∀{M M' vs d},Mem.le M M'->r M vs d->r M' vs d
 plain:∀{M vs d},r M vs d->∀v∈vs,v.oneCell'=true
 one:agg=false->n=1
def mkv(agg:Bool)(vs:List Value):Value:=match agg with
 |true=> .agg vs.toArray
 |false=>vs.headD undef
theorem Bp3{v:Value}(h:v.oneCell'=true):v.cells= #[v]:=by
 cases v<;>first|rfl|(simp[Value.oneCell']at h)
def Z9(d:List UInt8):Value:= .string ⟨d.toArray⟩
def rL{α:Type}(R:Rep α)(M:Mem):List Value->List α->Prop
 |vs,[]=>vs=[]
 |vs,y::d=>∃v1 v2,vs=v1++v2/\R.r M v1 y/\rL R M v2 d
theorem Bj4{α:Type}{R:Rep α}{M:Mem}:∀{d:List α} {vs:List Value},rL R M vs d->vs.length=d.length*R.n
 |[],_,h=>by simp only[rL]at h;rw[h];simp
 |y::d,_,h=>by
  simp only[rL]at h;obtain⟨v1,v2,h,h1,h2⟩:=h;rw[h,length_append,R.len h1,Bj4 h2,length_cons,Nat.add_mul,bj_,cs_]
theorem Bc2{α:Type}{R:Rep α}{M M':Mem}(hm:M.le M'):∀{d:List α} {vs:List Value},rL R M vs d->rL R M' vs d
 |[],_,h=>by simpa[rL] using h
 |y::d,_,h=>by
  simp only[rL]at h⊢;obtain⟨v1,v2,h,h1,h2⟩:=h;exact⟨v1,v2,h,R.mono hm h1,Bc2 hm h2⟩
theorem Ct2{α:Type}{R:Rep α}{M:Mem}:∀{d:List α} {vs:List Value},rL R M vs d->∀v∈vs,v.oneCell'=true
 |[],_,h,v,hv=>by simp only[rL]at h;rw[h]at hv;cases hv
 |y::d,_,h,v,hv=>by
  simp only[rL]at h;obtain⟨v1,v2,h,h1,h2⟩:=h;rw[h]at hv;rcases List.mem_append.1 hv with hv|hv
  .exact R.plain h1 v hv
  .exact Ct2 h2 v hv
theorem Bc3{α:Type}{R:Rep α}{M:Mem}:rL R M [] []:=rfl
theorem Al8{α:Type}{R:Rep α}{M:Mem}:∀{d d':List α} {vs vs':List Value},rL R M vs d->rL R M vs' d'->rL R M (vs++vs') (d++d')
 |[],_,_,_,h,h'=>by simp only[rL]at h;subst h;simpa using h'
 |y::d,_,_,_,h,h'=>by
  simp only[rL]at h;obtain⟨v1,v2,rfl,h1,h2⟩:=h;exact⟨v1,v2++_,by simp,h1,Al8 h2 h'⟩
theorem Du1{α:Type}{R:Rep α}{M:Mem}:∀{d:List α} {vs:List Value},rL R M vs d->∀{i:Nat} {y:α},d[i]? =some y->∃u,R.r M u y/\∀j,j<u.length->vs[i*R.n+j]? =u[j]?
 |[],_,_,_,_,hy=>by cases hy
 |y::d,_,h,i,z,hy=>by
  simp only[rL]at h;obtain⟨v1,v2,rfl,h1,h2⟩:=h;cases i with
  |zero=>
   simp at hy;subst hy;exact⟨v1,h1,fun j hj=>by rw[Nat.zero_mul,Nat.zero_add,an_ hj]⟩
  |succ i=>
   simp only[getElem?_cons_succ]at hy;obtain⟨u,hu,hj⟩:=Du1 h2 hy;refine⟨u,hu,fun j hlt=> ?_⟩;rw[<-hj j hlt,au_ (by rw[R.len h1,Nat.add_mul];omega),R.len h1,Nat.add_mul];congr 1;omega
theorem Du2{α:Type}{R:Rep α}{M:Mem}:∀{d:List α} {vs:List Value},rL R M vs d->∀(k:Nat),rL R M (vs.take (k*R.n)) (d.take k)
 |_,_,_,0=>by simp[rL]
 |[],_,h,k+1=>by simp only[rL]at h;subst h;simp[rL]
 |y::d,_,h,k+1=>by
  simp only[rL]at h;obtain⟨v1,v2,rfl,h1,h2⟩:=h;refine⟨v1,v2.take (k*R.n),?_,h1,Du2 h2 k⟩;rw[take_append,R.len h1,Nat.add_mul,bj_,cn_,ap_ (by rw[R.len h1];omega)]
theorem Bc1{α:Type}{R:Rep α}{M:Mem}:∀{d:List α} {vs:List Value},rL R M vs d->∀(k:Nat),rL R M (vs.drop (k*R.n)) (d.drop k)
 |_,_,h,0=>by simpa using h
 |[],_,h,k+1=>by simp only[rL]at h;subst h;simp[rL]
 |y::d,_,h,k+1=>by
  simp only[rL]at h;obtain⟨v1,v2,rfl,h1,h2⟩:=h;have:=Bc1 h2 k;rw[drop_append,R.len h1,Nat.add_mul,bj_,cn_,ag_ (by rw[R.len h1];omega)];simpa using this
def D2(vs:List Value)(o:Nat)(u:List Value):List Value:=vs.take o++u++vs.drop (o+u.length)
theorem L9(vs:List Value)(o:Nat)(u:List Value)(h:o+u.length<=vs.length):(D2 vs o u).length=vs.length:=by
 simp[D2];omega
theorem Fw7{α:Type}{R:Rep α}{M:Mem}{d:List α}{vs:List Value}(h:rL R M vs d){i:Nat}(hi:i<d.length){u:List Value}{z:α}(hu:R.r M u z):rL R M (D2 vs (i*R.n) u) (d.set i z):=by
 rw[set_eq_take_append_cons_drop,if_pos hi];unfold D2;rw[List.append_assoc];refine Al8 (Du2 h i) ⟨u,_,rfl,hu,?_⟩;have:=Bc1 h (i+1);rw[Nat.add_mul,bj_]at this;rw[R.len hu];exact this
end
section
section
variable {P:Program} {a:Act} {w:World}
theorem Ei5{x:Operand}{v:Value}(h:a.eval x=v):Run P a (.move x) w v w:=by
 intro d ty pos aft g;simp[execOp,h]
theorem Da8{x:Operand}{v:Value}(h:a.eval x=v):Run P a (.assign x) w v w:=by
 intro d ty pos aft g;simp[execOp,h]
theorem Cu3{c x y:Operand}{b:Bool}{v:Value}(hc:a.eval c= .bool b)(h:(match b with|true=>a.eval x|false=>a.eval y)=v):Run P a (.pick c x y) w v w:=by
 intro d ty pos aft g;subst h;cases b<;>simp[execOp,hc,asBool]
theorem Db0{c x y:Operand}{b:Bool}{v:Value}(hc:a.eval c= .bool b)(hb:b=true)(h:a.eval x=v):Run P a (.pick c x y) w v w:=by
 subst hb;exact Cu3 hc h
theorem Da9{c x y:Operand}{b:Bool}{v:Value}(hc:a.eval c= .bool b)(hb:b=false)(h:a.eval y=v):Run P a (.pick c x y) w v w:=by
 subst hb;exact Cu3 hc h
theorem Fh1{x:Operand}{t:TypeId}{b:Bool}(h:a.eval x= .bool b):Run P a (.unOp .not t x) w (.bool (!b)) w:=by
 intro d ty pos aft g;simp[execOp,h,Op.unary]
theorem Fh0{x:Operand}{t:TypeId}{k:IntKind}{m:Int}(h:a.eval x= .int k m):Run P a (.unOp .neg t x) w (.int k (k.wrap (0-m))) w:=by
 intro d ty pos aft g;simp[execOp,h,Op.unary,Op.intArith]
theorem Ck1{x:Operand}{vs:List Value}{i:Nat}{v:Value}(h:a.eval x= .tuple vs.toArray)(hv:vs[i]? =some v):Run P a (.extract x i) w v w:=by
 intro d ty pos aft g;simp[execOp,h,Instr.extract,hv]
theorem P8{x:Operand}{p:Addr}(h:a.eval x= .pointer (some p)):Run P a (.nilCheck x) w (.pointer (some p)) w:=by
 intro d ty pos aft g;simp[execOp,h]
theorem Ca4{fn:Fn}{first captured:Array Operand}{fs cs:List Value}(hf:first.map a.eval=fs.toArray)(hc:captured.map a.eval=cs.toArray):Run P a (.makeFunc fn first captured) w (.func fn fs.toArray cs.toArray) w:=by
 intro d ty pos aft g;simp[execOp,Instr.makeFunc,hf,hc]
def Fd7(op:BinOp)(k:IntKind)(m n:Int):Option Value:=
 match op with
 | .add=>some (.int k (k.wrap (m+n)))
 | .sub=>some (.int k (k.wrap (m-n)))
 | .mul=>some (.int k (k.wrap (m*n)))
 | .eql=>some (.bool (m==n))
 | .neq=>some (.bool (m !=n))
 | .lss=>some (.bool (decide (m<n)))
 | .leq=>some (.bool (decide (m<=n)))
 | .gtr=>some (.bool (decide (m>n)))
 | .geq=>some (.bool (decide (m>=n)))
 | .and=>some (.int k (k.wrap (BitVec.ofInt k.bits m&&&BitVec.ofInt k.bits n).toNat))
 | .or=>some (.int k (k.wrap (BitVec.ofInt k.bits m|||BitVec.ofInt k.bits n).toNat))
 | .xor=>some (.int k (k.wrap (BitVec.ofInt k.bits m^^^BitVec.ofInt k.bits n).toNat))
 | .andNot=>some (.int k (k.wrap (BitVec.ofInt k.bits m&&& ~~~BitVec.ofInt k.bits n).toNat))
 |_=>none
theorem Fg8{op:BinOp}{t u:TypeId}{x y:Operand}{k:IntKind}{m n:Int}{v:Value}(hx:a.eval x= .int k m)(hy:a.eval y= .int k n)(h:Fd7 op k m n=some v):Run P a (.binOp op t x y u) w v w:=by
 intro d ty pos aft g;cases op<;>simp[Fd7]at h<;>subst h<;>simp[execOp,hx,hy,eqGuard,binOp,Op.intArith,Op.intCmp,Op.intBits]
theorem Dv4{t u:TypeId}{x y:Operand}{k:IntKind}{m n:Int}(hx:a.eval x= .int k m)(hy:a.eval y= .int k n)(h:n≠0):Run P a (.binOp .quo t x y u) w (.int k (k.wrap (m.tdiv n))) w:=by
 intro d ty pos aft g;simp[execOp,hx,hy,eqGuard,binOp,Op.intDiv,h]
theorem Dv5{t u:TypeId}{x y:Operand}{k:IntKind}{m n:Int}(hx:a.eval x= .int k m)(hy:a.eval y= .int k n)(h:n≠0):Run P a (.binOp .rem t x y u) w (.int k (m.tmod n)) w:=by
 intro d ty pos aft g;simp[execOp,hx,hy,eqGuard,binOp,Op.intDiv,h]
theorem Fh2{t u:TypeId}{x y:Operand}{k k':IntKind}{m n:Int}(hx:a.eval x= .int k m)(hy:a.eval y= .int k' n)(h:0<=n):Run P a (.binOp .shl t x y u) w (.int k (k.wrap (m*2^(min n.toNat k.bits)))) w:=by
 intro d ty pos aft g;have:¬n<0:=by omega
 simp[execOp,hx,hy,eqGuard,binOp,Op.shift,this]
theorem Fh3{t u:TypeId}{x y:Operand}{k k':IntKind}{m n:Int}(hx:a.eval x= .int k m)(hy:a.eval y= .int k' n)(h:0<=n):Run P a (.binOp .shr t x y u) w (.int k (m.fdiv (2^(min n.toNat k.bits)))) w:=by
 intro d ty pos aft g;have:¬n<0:=by omega
 simp[execOp,hx,hy,eqGuard,binOp,Op.shift,this]
theorem Ei4{s t:TypeId}{x:Operand}{k k':IntKind}{m:Int}{sd:TypeDesc}(hx:a.eval x= .int k m)(hs:P.underlying s=some sd)(ht:P.underlying t=some (.int k')):Run P a (.convert s t x) w (.int k' (k'.wrap m)) w:=by
 intro d ty pos aft g;have hc:(convert s t (.int k m)).run P w= .ok (.int k' (k'.wrap m)) w:=by
  simp only[convert,Sem.run_bind,run_underlying hs,run_underlying ht,Result.andThen_ok];rfl
 simp[execOp,hx,hc]
theorem Au1(d:Nat){t:TypeId}{b c:Bool}(ht:P.underlying t=some .bool):(Op.equalIn (d+1) t (.bool b) (.bool c)).run P w= .ok (b==c) w:=by
 simp only[Op.equalIn,Sem.run_bind,run_underlying ht,Result.andThen_ok];rfl
theorem Ag6{t:TypeId}{b c:Bool}(ht:P.underlying t=some .bool):(Op.equal t (.bool b) (.bool c)).run P w= .ok (b==c) w:=Au1 9999 ht
theorem Fg7{t u:TypeId}{x y:Operand}{b c:Bool}(hx:a.eval x= .bool b)(hy:a.eval y= .bool c)(ht:P.underlying t=some .bool):Run P a (.binOp .eql t x y u) w (.bool (b==c)) w:=by
 intro d ty pos aft g;have hb:binOp .eql t (.bool b) (.bool c)=(do pure (.bool (<-Op.equal t (.bool b) (.bool c)))):=rfl;have hg:eqGuard .eql t x y (.bool b) (.bool c)=pure ():=rfl;simp[execOp,hx,hy,hg,hb,Ag6 ht]
theorem Fg9{t u:TypeId}{x y:Operand}{b c:Bool}(hx:a.eval x= .bool b)(hy:a.eval y= .bool c)(ht:P.underlying t=some .bool):Run P a (.binOp .neq t x y u) w (.bool (!(b==c))) w:=by
 intro d ty pos aft g;have hb:binOp .neq t (.bool b) (.bool c)=(do let e<-Op.equal t (.bool b) (.bool c);pure (.bool (!e))):=rfl;have hg:eqGuard .neq t x y (.bool b) (.bool c)=pure ():=rfl;simp[execOp,hx,hy,hg,hb,Ag6 ht]
theorem I2{x:Operand}{t:TypeId}{e:TypeId}{p:Option Addr}{n c:Nat}(hx:a.eval x= .slice p n c)(ht:P.underlying t=some (.slice e)):Run P a (.call {callee:= .builtin .len,args:= #[x],argTypes:= #[t]}) w (.int .i64 n) w:=by
 intro d ty pos aft g;simp[execOp,resolve,invoke,builtin,hx,Builtin.len_,run_underlying ht,goInt]
theorem Ck4{x:Operand}{t:TypeId}{s:List UInt8}(hx:a.eval x=Z9 s)(ht:P.underlying t=some .string):Run P a (.call {callee:= .builtin .len,args:= #[x],argTypes:= #[t]}) w (.int .i64 s.length) w:=by
 intro d ty pos aft g;have:(⟨s.toArray⟩:ByteArray).size=s.length:=rfl;simp[execOp,resolve,invoke,builtin,hx,Z9,Builtin.len_,run_underlying ht,goInt,this]
theorem Ck2{x:Operand}{t e:TypeId}{n:Nat}(ht:P.underlying t=some (.array n e)):Run P a (.call {callee:= .builtin .len,args:= #[x],argTypes:= #[t]}) w (.int .i64 n) w:=by
 intro d ty pos aft g;simp[execOp,resolve,invoke,builtin,Builtin.len_,run_underlying ht,goInt]
def F9(P:Program)(t:TypeId):Option Nat:=(P.info? t).map (·.size)
theorem H4{t:TypeId}{n:Nat}(h:F9 P t=some n):(sizeOf t).run P w= .ok n w:=by
 unfold F9 at h;cases hi:P.info? t with
 |none=>rw[hi]at h;cases h
 |some i=>rw[hi]at h;simp at h;subst h;simp[sizeOf,typeInfo,hi]
theorem E2(b o n:Nat):(⟨b,o,none⟩:Addr).add n=⟨b,o+n,none⟩:=by
 unfold Addr.add;split<;>simp_all
theorem Z0{x y:Operand}{t e:TypeId}{b o n c s:Nat}{k:IntKind}{i:Nat}(hx:a.eval x= .slice (some ⟨b,o,none⟩) n c)(hy:a.eval y= .int k i)(ht:P.underlying t=some (.slice e))(hs:F9 P e=some s)(hi:i<n):
 Run P a (.indexAddr t x y) w (.pointer (some ⟨b,o+i*s,none⟩)) w:=by
 intro d ty pos aft g;have h2:(0:Int)<=(i:Int)/\(i:Int)<(n:Int):=by omega
 simp only[execOp,Instr.indexAt,asIntOf,hx,hy,Sem.run_bind,Sem.run_pure,Result.andThen_ok,run_underlying ht];rw[if_pos h2];simp[H4 hs,E2]
theorem Ar8{x y:Operand}{t e:TypeId}{b o n s:Nat}{k:IntKind}{i:Nat}(hx:a.eval x= .pointer (some ⟨b,o,none⟩))(hy:a.eval y= .int k i)(ht:P.underlying t=some (.array n e))(hs:F9 P e=some s)(hi:i<n):
 Run P a (.indexAddr t x y) w (.pointer (some ⟨b,o+i*s,none⟩)) w:=by
 intro d ty pos aft g;have h2:(0:Int)<=(i:Int)/\(i:Int)<(n:Int):=by omega
 simp only[execOp,Instr.indexAt,Instr.sureAddr,asIntOf,hx,hy,Sem.run_bind,Sem.run_pure,Result.andThen_ok,run_underlying ht];rw[if_pos h2];simp[H4 hs,E2]
def Dn8(P:Program)(t:TypeId)(i:Nat):Option Nat:=
 match P.underlying t with
 |some (.struct fs)=>match fs[i]? with
  |some f=>match F9 P f.type with
   |some 0=>none
   |some _=>some f.offset
   |none=>none
  |none=>none
 |_=>none
theorem Q8{x:Operand}{t:TypeId}{b o o' i k:Nat}(hx:a.eval x= .pointer (some ⟨b,o,none⟩))(hf:Dn8 P t i=some k)(ho:o+k=o'):Run P a (.fieldAddr t x i) w (.pointer (some ⟨b,o',none⟩)) w:=by
 intro d ty pos aft g;subst ho;unfold Dn8 at hf;split at hf
 .rename_i fs hu;split at hf
  .rename_i f hfi;split at hf
   .cases hf
   .rename_i n hn hs;simp at hf;subst hf;have hs':n≠0:=fun e=>by subst e;exact hn rfl
    simp[execOp,Instr.fieldAt,Instr.sureAddr,run_underlying hu,hfi,hx,fieldPlace,H4 hs,hs',E2]
   .cases hf
  .cases hf
 .cases hf
def Di8(P:Program)(t:TypeId):Option Bool:=
 match P.underlying t with
 |some (.struct _)|some (.array _ _)=>some true
 |some _=>some false
 |none=>none
theorem U3{t:TypeId}{b:Bool}(h:Di8 P t=some b):(isAgg t).run P w= .ok b w:=by
 unfold Di8 at h;cases hu:P.underlying t with
 |none=>rw[hu]at h;cases h
 |some u=>
  rw[hu]at h;cases u<;>simp at h<;>subst h<;>simp[isAgg,run_underlying hu]
theorem run_load{x:Operand}{t:TypeId}{b o:Nat}{vs:List Value}{agg:Bool}(hx:a.eval x= .pointer (some ⟨b,o,none⟩))(ht:Di8 P t=some agg)(hs:F9 P t=some vs.length)(h1:agg=false->vs.length=1)
 (hc:∀j v,vs[j]? =some v->w.cell? ⟨b,o+j,none⟩=some v):Run P a (.load t x) w (mkv agg vs) w:=by
 intro d ty pos aft g;cases agg with
 |true=>
  have:=run_loadCells_list (P:=P) w ⟨b,o,none⟩ vs (fun j v hv=>by rw[E2];exact hc j v hv);simp[execOp,Instr.loadAt,Instr.sureAddr,hx,loadVar,U3 ht,H4 hs,this,mkv]
 |false=>
  match vs,h1 rfl with
  |[v],_=>
   have:=hc 0 v rfl;simp only[Nat.add_zero]at this;simp[execOp,Instr.loadAt,Instr.sureAddr,hx,loadVar,U3 ht,this,mkv]
theorem Cu2{t:TypeId}{cs vs:List Value}{o:Nat}{agg:Bool}(ht:Di8 P t=some agg)(hs:F9 P t=some vs.length)(h1:agg=false->vs.length=1)
 (hc:∀j,j<vs.length->cs[o+j]? =vs[j]?):(part t cs.toArray o).run P w= .ok (mkv agg vs) w:=by
 cases agg with
 |true=>
  have:cs.toArray.extract o (o+vs.length)=vs.toArray:=by
   apply bh_;simp only[Array.toList_extract,extract_eq_take_drop,Nat.add_sub_cancel_left];show _=vs;apply b6_;intro j;by_cases hj:j<vs.length
   .rw[getElem?_take_of_lt hj,getElem?_drop,hc j hj]
   .rw[List.getElem?_eq_none (by simp;omega),List.getElem?_eq_none (by omega)]
  simp only[part,Sem.run_bind,U3 ht,Result.andThen_ok,H4 hs,this,if_true];rfl
 |false=>
  match vs,h1 rfl with
  |[v],_=>
   have:=hc 0 (by simp);simp only[Nat.add_zero]at this;simp[part,U3 ht,this,mkv]
theorem Dv2{x:Operand}{t u:TypeId}{i o:Nat}{fs:Array Field}{fd:Field}{cs vs:List Value}{agg:Bool}(hx:a.eval x= .agg cs.toArray)(ht:P.underlying t=some (.struct fs))(hf:fs[i]? =some fd)(hu:fd.type=u)(ho:fd.offset=o)
 (hg:Di8 P u=some agg) (hs:F9 P u=some vs.length) (h1:agg=false->vs.length=1) (hc:∀j,j<vs.length->cs[o+j]? =vs[j]?):Run P a (.field t x i) w (mkv agg vs) w:=by
 intro d ty pos aft g;subst hu;subst ho;simp[execOp,Instr.field,run_underlying ht,hf,hx,asAgg,Cu2 hg hs h1 hc]
theorem Dv3{x y:Operand}{t e:TypeId}{n s:Nat}{k:IntKind}{i:Nat}{cs vs:List Value}{agg:Bool}(hx:a.eval x= .agg cs.toArray)(hy:a.eval y= .int k i)(ht:P.underlying t=some (.array n e))(hi:i<n)
 (hg:Di8 P e=some agg) (hs:F9 P e=some s) (hl:vs.length=s) (h1:agg=false->vs.length=1) (hc:∀j,j<vs.length->cs[i*s+j]? =vs[j]?):Run P a (.index t x y) w (mkv agg vs) w:=by
 intro d ty pos aft g;subst hl;have h2:(0:Int)<=(i:Int)/\(i:Int)<(n:Int):=by omega
 simp only[execOp,Instr.index,asIntOf,hx,hy,Sem.run_bind,Sem.run_pure,Result.andThen_ok,run_underlying ht];rw[if_pos h2];simp[H4 hs,Cu2 hg hs h1 hc]
theorem Bq2{x y:Operand}{t:TypeId}{k:IntKind}{i:Nat}{s:List UInt8}{c:UInt8}(hx:a.eval x=Z9 s)(hy:a.eval y= .int k i)(ht:P.underlying t=some .string)(hi:s[i]? =some c):Run P a (.index t x y) w (.int .u8 c.toNat) w:=by
 intro d ty pos aft g;have hlt:i<s.length:=(ac_.1 hi).1;have:(⟨s.toArray⟩:ByteArray)[i]? =some c:=by
  have hsz:i<(⟨s.toArray⟩:ByteArray).size:=by simpa[ByteArray.size] using hlt
  rw[getElem?_pos (⟨s.toArray⟩:ByteArray) i hsz,<-(ac_.1 hi).2];rfl
 simp[execOp,Instr.index,asIntOf,hx,hy,Z9,run_underlying ht,this]
end
end
section
section
variable {r:Option Nat} {P:Program} {a:Act} {w w0:World} {M:Mem} {os:List Own}
def evs(a:Act):List Operand->List Value->Prop
 |[],[]=>True
 |x::xs,v::vs=>a.eval x=v/\evs a xs vs
 |_,_=>False
theorem Ch8{a:Act}:∀{xs:List Operand} {vs:List Value},evs a xs vs->xs.map a.eval=vs
 |[],[],_=>rfl
 |x::xs,v::vs,h=>by rw[map_cons,h.1,Ch8 h.2]
 |[],_::_,h=>h.elim
 |_::_,[],h=>h.elim
def Eff(r:Option Nat)(P:Program)(a:Act)(op:Op)(w:World)(R:Value->World->Prop):Prop:=
 ∀d ty pos aft g (K:Act->World->Prop) (Q:Exit->Act->World->Prop),(∀v w',R v w'->K (a.put d v) w')->(⟨d,op,ty,pos,aft,g⟩:Oper).wpIn (WF r) 0 P a w K Q
theorem Eff.of_run{op:Op}{v:Value}{w':World}{R:Value->World->Prop}(h:Run P a op w v w')(hd:Ai3 op=false)(hR:R v w'):Eff r P a op w R:=
 fun d ty pos aft g _ _ hK=>Dy6 (o:=⟨d,op,ty,pos,aft,g⟩) hd (h _ _ _ _ _) (hK _ _ hR)
theorem Eff.of_runU{op:Op}{w':World}{R:Value->World->Prop}(h:Gu1 P a op w w')(hd:Ai3 op=false)(hR:R undef w'):Eff r P a op w R:=
 fun d ty pos aft g _ _ hK=>Db5 (o:=⟨d,op,ty,pos,aft,g⟩) hd (h _ _ _ _ _) (hK _ _ hR)
theorem Eff.mono{op:Op}{R R':Value->World->Prop}(h:Eff r P a op w R)(k:∀v w',R v w'->R' v w'):Eff r P a op w R':=
 fun d ty pos aft g K Q hK=>h d ty pos aft g K Q (fun v w' hr=>hK v w' (k v w' hr))
section
variable {Q:Exit->Act->World->Prop} {N:Nat} {f:Nat->Value} {ds:List Deferred} {ops:Array Oper} {rest:List Oper} {op:Op} {ty:TypeId} {pos:String} {aft:Array Edge} {R:Value->World->Prop}
variable {K:Act->World->Prop} {S:World->Prop} {fuel:Nat} {listed:Array Bool}
end
def Bd8(P:Program)(t:TypeId):Option (List Value):=((P.info? t).bind (·.zero)).map (·.cells.toList)
theorem Bc9{t:TypeId}{zs:List Value}(h:Bd8 P t=some zs):∃v,(zeroValue t).run P w= .ok v w/\v.cells=zs.toArray:=by
 unfold Bd8 at h;cases hi:P.info? t with
 |none=>rw[hi]at h;cases h
 |some i=>
  rw[hi]at h;cases hz:i.zero with
  |none=>simp[hz]at h
  |some z=>simp[hz]at h;exact⟨z,by simp[zeroValue,typeInfo,hi,hz],by rw[<-h]⟩
theorem S9{t e:TypeId}{b k:Nat}{v:Value}{us:List Value}{cur:Array Value}(hg:w.heap[b]? =some (.cells cur e (0,0)))(hv:v.cells=us.toArray)(hs:F9 P t=some us.length)(h1:∀v∈us,v.oneCell'=true)(hl:k+us.length<=cur.size):
 (storeVar t ⟨b,k,none⟩ v).run P w= .ok () (w.setRow b (D2 cur.toList k us).toArray):=by
 have:=run_storeCells_at P b k e us 0 cur w hg (by omega) h1;simp only[Nat.add_zero]at this;simp[storeVar,hv,H4 hs,this,D2]
def G7(P:Program)(g:FuncId):Prop:=∀(args:Array Value) (w:World),(callFunc g args).run P w= .ok (.enter g args) w
theorem Az6{g:FuncId}{fn:Func}(hf:P.funcs[g]? =some fn)(hn:(fn.name== "runtime.NumGoroutine")=false)(hb:fn.body.isNone=false):G7 P g:=by
 intro args w;unfold callFunc;simp only[Sem.run_bind,run_program,Result.andThen_ok,hf,hn,hb,Bool.false_eq_true,if_false];rfl
theorem Gc4{g:FuncId}{args:Array Operand}{tys:Array TypeId}{xs:List Operand}{vs:List Value}{R:Ending->World->Prop}{R':Value->World->Prop}(he:G7 P g)(hxs:args=xs.toArray)(hx:evs a xs vs)(hc:Calls P g vs.toArray w R)
 (k:∀e w',R e w'->∃v,e= .returned v/\R' v w'):Eff r P a (.call {callee:= .value (.func g),args:=args,argTypes:=tys}) w R':=by
 intro d ty pos aft g' K Q hK;subst hxs;refine Bj8 (w₁:=w) (args:=vs.toArray) (g:=g) rfl ?_ hc (fun e w' hR=>let ⟨v,h1,h2⟩:=k e w' hR;⟨v,h1,hK v w' h2⟩);have he':=he vs.toArray w;simp[execOp,resolve,Deferred.ofValue,Act.eval,invoke,Ch8 hx,he']
theorem Dm6{g:FuncId}{x:Operand}{args:Array Operand}{tys:Array TypeId}{xs:List Operand}{vs first captured:List Value}{R:Ending->World->Prop}{R':Value->World->Prop}(he:G7 P g)(hxs:args=xs.toArray)
 (hg:a.eval x= .func (.func g) first.toArray captured.toArray) (hx:evs a xs vs) (hc:Calls P g (first++vs++captured).toArray w R)
 (k:∀e w',R e w'->∃v,e= .returned v/\R' v w'):Eff r P a (.call {callee:= .value x,args:=args,argTypes:=tys}) w R':=by
 intro d ty pos aft g' K Q hK;subst hxs;refine Bj8 (w₁:=w) (args:=(first++vs++captured).toArray) (g:=g) rfl ?_ hc (fun e w' hR=>let ⟨v,h1,h2⟩:=k e w' hR;⟨v,h1,hK v w' h2⟩);have he':=he (first++vs++captured).toArray w;simp only[List.append_assoc]at he';simp[execOp,resolve,Deferred.ofValue,hg,invoke,Ch8 hx,he']
end
end
section
section
variable {r:Option Nat} {P:Program} {w w0:World} {M:Mem} {os:List Own} {N:Nat} {f:Nat->Value} {ds:List Deferred} {Q Q':Exit->Act->World->Prop} {a:Act}
def Du5(P:Program)(N:Nat)(f:Nat->Value)(w:World):List ResultVar->List Value->Prop
 |[],[]=>True
 | .tmp t::rs,v::vs=>(Nat.blt t N=true/\f t=v)/\Du5 P N f w rs vs
 | .cell c t::rs,v::vs=>(Nat.blt c N=true/\∃ad,f c= .pointer (some ad)/\(loadVar t ad).run P w= .ok v w)/\Du5 P N f w rs vs
 |_,_=>False
def Cv6:List Value->Value
 |[v]=>v
 |vs=> .tuple vs.toArray
theorem Cv5{t:Nat}{v:Value}(h:Nat.blt t N=true)(hv:f t=v):(fr N f ds).tmps.getD t undef=v:=ev (ds:=ds) h hv
def Eh3(tmps:Array Value):ResultVar->Sem Value
 | .tmp t=>pure (tmps.getD t undef)
 | .cell a t=>do loadVar t (<-asAddr (tmps.getD a undef))
theorem Bc7{ds:List Deferred}:∀{rs:List ResultVar} {vs:List Value},Du5 P N f w rs vs->(rs.mapM (Eh3 (fr N f ds).tmps)).run P w=Result.ok vs w
 |[],[],_=>by simp
 | .tmp t::rs,v::vs,h=>by
   have h1:(fr N f ds).tmps.getD t undef=v:=Cv5 (ds:=ds) h.1.1 h.1.2;simp only[mapM_cons,Sem.run_bind,Sem.run_pure,Result.andThen_ok,Eh3,h1,Bc7 h.2]
 | .cell c t::rs,v::vs,h=>by
   obtain⟨ad,h2,h3⟩:=h.1.2;have h1:(fr N f ds).tmps.getD c undef= .pointer (some ad):=Cv5 (ds:=ds) h.1.1 h2;simp only[mapM_cons,Sem.run_bind,Sem.run_pure,Result.andThen_ok,Eh3,h1,asAddr,h3,Bc7 h.2]
 |[],_::_,h=>h.elim
 | .tmp _::_,[],h=>h.elim
 | .cell _ _::_,[],h=>h.elim
theorem O5{fn:Func}{rs:List ResultVar}{vs:List Value}(h:fn.results=rs.toArray)(hr:Du5 P N f w rs vs):(results fn (fr N f ds).tmps).run P w=Result.ok (Cv6 vs) w:=by
 have h1:=Bc7 (ds:=ds) hr;have h2:results fn (fr N f ds).tmps=(do let vs<-fn.results.mapM (Eh3 (fr N f ds).tmps);pure (if h:vs.size=1 then vs[0] else .tuple vs)):=by
  unfold results;congr 2
 rw[h2,h];simp only[Array.mapM_eq_mapM_toList,Sem.run_bind,Sem.run_map,h1,Result.andThen_ok,Sem.run_pure]
 match vs with
 |[]=>rfl
 |[v]=>rfl
 |v::u::vs=>simp[Cv6]
theorem bnd{α β:Type}{o:Option α}{k:α->Option β}{y:β}(h:Option.bind o k=some y):∃x,o=some x/\k x=some y:=by
 cases o with
 |none=>cases h
 |some x=>exact⟨x,rfl,h⟩
theorem ift{α:Type}{b:Bool}{x y:α}{z:α}(hb:b=true)(h:(bif b then x else y)=z):x=z:=by subst hb;exact h
theorem Fl3{α:Type}{b:Bool}{x y:α}{z:α}(hb:b=false)(h:(bif b then x else y)=z):y=z:=by subst hb;exact h
def C2{α:Type}(l:List α)(i:Int):Option α:=bif decide (0<=i) then l[i.toNat]? else none
theorem Bx0{α:Type}{l:List α}{i:Int}{y:α}(h:C2 l i=some y):∃k:Nat,i=k/\l[k]? =some y:=by
 unfold C2 at h;cases hi:decide (0<=i) with
 |true=>exact⟨i.toNat,by have:=of_decide_eq_true hi;omega,ift hi h⟩
 |false=>cases Fl3 hi h
def app{α:Type}(xs ys:List α):Option (List α):=bif decide (xs.length+ys.length<=2147483648) then some (xs++ys) else none
def ass{α:Type}(b:Bool)(x:Option α):Option α:=bif b then x else none
theorem O1{α:Type}{b:Bool}{x:Option α}{y:α}(h:ass b x=some y):b=true/\x=some y:=by
 cases b with
 |true=>exact⟨rfl,h⟩
 |false=>cases h
end
end
section
inductive Dat where
 |int (k:IntKind) (n:Int)
 |bool (b:Bool)
 |str (s:List UInt8)
 |sl (sz:Nat) (es:List (List Dat))
 |nilp|nilm|nilf
 |fnc (f:FuncId)
 |any
 |ife (b:Bool)
 |pt (cs:List Dat)
inductive T7 (M:Mem):Dat->Value->Prop
 |int (k:IntKind) (n:Int):T7 M (.int k n) (.int k n)
 |bool (b:Bool):T7 M (.bool b) (.bool b)
 |str (s:List UInt8):T7 M (.str s) (Z9 s)
 |nilp:T7 M .nilp (.pointer none)
 |nilm:T7 M .nilm (.map none)
 |nilf:T7 M .nilf .nilFunc
 |fnc (f:FuncId):T7 M (.fnc f) (.func (.func f) #[] #[])
 |any (v:Value) (h:v.oneCell'=true):T7 M .any v
 |nili:T7 M (.ife false) .nilIface
 |ifc (t:TypeId) (u:Value):T7 M (.ife true) (.iface t u)
 |pt (cs:List Dat) (b o:Nat) (us:List Value) (hc:V7 M b o us) (hl:us.length=cs.length) (hr:∀(j:Nat) (c:Dat) (u:Value),cs[j]? =some c->us[j]? =some u->T7 M c u):T7 M (.pt cs) (.pointer (some ⟨b,o,none⟩))
 |sl (sz:Nat) (es:List (List Dat)) (a:Option Addr) (cap b o:Nat) (us:Nat->List Value) (hcap:es.length<=cap) (ha:es≠[]->a=some ⟨b,o,none⟩)
  (hc:∀i,i<es.length->V7 M b (o+i*sz) (us i)) (hs:∀i cs,es[i]? =some cs->cs.length=sz/\(us i).length=sz)
  (hr:∀(i j:Nat) (cs:List Dat) (c:Dat) (u:Value),es[i]? =some cs->cs[j]? =some c->(us i)[j]? =some u->T7 M c u):T7 M (.sl sz es) (.slice a es.length cap)
theorem T7.mono{M M':Mem}(h:M.le M'){x:Dat}{v:Value}(r:T7 M x v):T7 M' x v:=by
 induction r with
 |sl sz es a cap b o us hcap ha hc hs _ ih=>exact .sl sz es a cap b o us hcap ha (fun i hi=>(hc i hi).mono h) hs ih
 |any v h=>exact .any v h
 |pt cs b o us hc hl _ ih=>exact .pt cs b o us (hc.mono h) hl ih
 |ifc t u=>exact .ifc t u
 |_=>constructor
theorem T7.one{M:Mem}{x:Dat}{v:Value}(r:T7 M x v):v.oneCell'=true:=by cases r<;>first|rfl|assumption
def C9(M:Mem):List Dat->List Value->Prop
 |[],us=>us=[]
 |x::xs,us=>∃u us',us=u::us'/\T7 M x u/\C9 M xs us'
theorem C9.mono{M M':Mem}(h:M.le M'):∀{xs:List Dat} {us:List Value},C9 M xs us->C9 M' xs us
 |[],_,r=>r
 |_::_,_,⟨u,us',e,r,rs⟩=>⟨u,us',e,r.mono h,C9.mono h rs⟩
theorem C9.len{M:Mem}:∀{xs:List Dat} {us:List Value},C9 M xs us->us.length=xs.length
 |[],_,r=>by rw[show _=[] from r];rfl
 |_::_,_,⟨u,us',e,r,rs⟩=>by rw[e,length_cons,length_cons,C9.len rs]
theorem C9.one{M:Mem}:∀{xs:List Dat} {us:List Value},C9 M xs us->∀u∈us,u.oneCell'=true
 |[],_,r,u,hu=>by rw[show _=[] from r]at hu;cases hu
 |_::_,_,⟨u,us',e,r,rs⟩,x,hx=>by
  rw[e]at hx;rcases mem_cons.1 hx with rfl|hx
  .exact r.one
  .exact C9.one rs x hx
theorem C9.get{M:Mem}:∀{xs:List Dat} {us:List Value},C9 M xs us->∀{j:Nat} {c:Dat} {u:Value},xs[j]? =some c->us[j]? =some u->T7 M c u
 |[],_,_,_,_,_,h,_=>by cases h
 |x::xs,_,⟨u,us',e,r,rs⟩,j,c,v,h1,h2=>by
  subst e;cases j with
  |zero=>simp at h1 h2;subst h1;subst h2;exact r
  |succ j=>simp at h1 h2;exact C9.get rs h1 h2
theorem C9.of_get{M:Mem}:∀{xs:List Dat} {us:List Value},us.length=xs.length->(∀(j:Nat) (c:Dat) (u:Value),xs[j]? =some c->us[j]? =some u->T7 M c u)->C9 M xs us
 |[],us,h,_=>by simpa[C9] using h
 |x::xs,[],h,_=>by simp at h
 |x::xs,u::us,h,k=>⟨u,us,rfl,k 0 x u rfl rfl,C9.of_get (by simpa using h) (fun j c v h1 h2=>k (j+1) c v (by simpa using h1) (by simpa using h2))⟩
theorem C9.append{M:Mem}:∀{xs ys:List Dat} {us vs:List Value},C9 M xs us->C9 M ys vs->C9 M (xs++ys) (us++vs)
 |[],_,_,_,h,k=>by rw[show _=[] from h];exact k
 |_::_,_,_,_,⟨u,us',e,r,rs⟩,k=>⟨u,us'++_,by rw[e];rfl,r,C9.append rs k⟩
theorem C9.take{M:Mem}:∀{xs:List Dat} {us:List Value} (n:Nat),C9 M xs us->C9 M (xs.take n) (us.take n)
 |_,_,0,_=>by simp[C9]
 |[],_,n+1,h=>by rw[show _=[] from h];simp[C9]
 |_::_,_,n+1,⟨u,us',e,r,rs⟩=>⟨u,us'.take n,by rw[e];rfl,r,C9.take n rs⟩
theorem C9.drop{M:Mem}:∀{xs:List Dat} {us:List Value} (n:Nat),C9 M xs us->C9 M (xs.drop n) (us.drop n)
 |_,_,0,h=>h
 |[],_,n+1,h=>by rw[show _=[] from h];simp[C9]
 |_::_,_,n+1,⟨u,us',e,r,rs⟩=>by rw[e];exact C9.drop n rs
def glT:List (Nat×List Dat):=[(4,[.int .u8 0,.int .u8 1,.int .u8 28,.int .u8 2,.int .u8 29,.int .u8 14,.int .u8 24,.int .u8 3,.int .u8 30,.int .u8 22,.int .u8 20,.int .u8 15,.int .u8 25,.int .u8 17,.int .u8 4,.int .u8 8,.int .u8 31,.int .u8 27,.int .u8 13,.int .u8 23,.int .u8 21,.int .u8 19,.int .u8 16,.int .u8 7,.int .u8 26,.int .u8 12,.int .u8 18,.int .u8 6,.int .u8 11,.int .u8 5,.int .u8 10,.int .u8 9]),(5,[.int .u8 0,.int .u8 1,.int .u8 56,.int .u8 2,.int .u8 57,.int .u8 49,.int .u8 28,.int .u8 3,.int .u8 61,.int .u8 58,.int .u8 42,.int .u8 50,.int .u8 38,.int .u8 29,.int .u8 17,.int .u8 4,.int .u8 62,.int .u8 47,.int .u8 59,.int .u8 36,.int .u8 45,.int .u8 43,.int .u8 51,.int .u8 22,.int .u8 53,.int .u8 39,.int .u8 33,.int .u8 30,.int .u8 24,.int .u8 18,.int .u8 12,.int .u8 5,.int .u8 63,.int .u8 55,.int .u8 48,.int .u8 27,.int .u8 60,.int .u8 41,.int .u8 37,.int .u8 16,.int .u8 46,.int .u8 35,.int .u8 44,.int .u8 21,.int .u8 52,.int .u8 32,.int .u8 23,.int .u8 11,.int .u8 54,.int .u8 26,.int .u8 40,.int .u8 15,.int .u8 34,.int .u8 20,.int .u8 31,.int .u8 10,.int .u8 25,.int .u8 14,.int .u8 19,.int .u8 9,.int .u8 13,.int .u8 8,.int .u8 7,.int .u8 6]),(3,[.int .u64 1,.int .u64 10,.int .u64 100,.int .u64 1000,.int .u64 10000,.int .u64 100000,.int .u64 1000000,.int .u64 10000000,.int .u64 100000000,.int .u64 1000000000,.int .u64 10000000000,.int .u64 100000000000,.int .u64 1000000000000,.int .u64 10000000000000,.int .u64 100000000000000,.int .u64 1000000000000000,.int .u64 10000000000000000,.int .u64 100000000000000000,.int .u64 1000000000000000000,.int .u64 10000000000000000000]),(1,[.ife true]),(2,[.ife true])]
def gxT:List (Nat×IntKind):=[(0,.i64)]
def Gc7:List (Nat×List Dat)->Nat->Option (List Dat)
 |[],_=>none
 |(m,cs)::l,n=>match Nat.beq n m with|true=>some cs|false=>Gc7 l n
def gl(n:Nat):Option (List Dat):=Gc7 glT n
structure Fk3(M:Mem):Prop where
 d:∀n cs,gl n=some cs->∃us,V7 M n 0 us/\C9 M cs us
 x:∀n k,(n,k)∈gxT->∃m,V7 M n 0 [.int k m]
theorem Fk3.mono{M M':Mem}(h:Fk3 M)(hle:M.le M'):Fk3 M':=
 ⟨fun n cs e=>by obtain⟨us,h1,h2⟩:=h.d n cs e;exact⟨us,h1.mono hle,h2.mono hle⟩,fun n k e=>by obtain⟨m,h1⟩:=h.x n k e;exact⟨m,h1.mono hle⟩⟩
def Sz(w:World):Prop:=∀n cs,gl n=some cs->∃c e z,w.heap[n]? =some (.cells c e z)/\c.size=cs.length
structure GlA(M:Mem)(w:World):Prop where
 ok:Fk3 M
 sz:Sz w
structure GlO(M:Mem)(wl:World)(S:Nat->Prop):Prop where
 ok:Fk3 M
 off:∀n cs,gl n=some cs->¬S n
 sz:Sz wl
theorem GlO.mono{M M':Mem}{wl:World}{S:Nat->Prop}(h:GlO M wl S)(hle:M.le M'):GlO M' wl S:=⟨h.ok.mono hle,h.off,h.sz⟩
theorem GlA.entry{M:Mem}{w:World}{S:Nat->Prop}(h:GlA M w)(hS:∀n cs,gl n=some cs->¬S n):GlO M w S:=⟨h.ok,hS,h.sz⟩
theorem Sz.frame{w w':World}(h:Sz w)(hk:∀k,k<w.heap.size->(∃cs,gl k=some cs)->w'.heap[k]? =w.heap[k]?):Sz w':=fun n cs e=>by
 obtain⟨c,t,z,h1,h2⟩:=h n cs e;exact⟨c,t,z,by rw[hk n (aq_.1 h1).1 ⟨cs,e⟩];exact h1,h2⟩
def rDs(sz:Nat):Rep (List Dat) where
 n:=sz
 agg:=true
 r:=fun M vs d=>d.length=sz/\C9 M d vs
 len:=fun h=>by rw[h.2.len,h.1]
 mono:=fun h x=>⟨x.1,x.2.mono h⟩
 plain:=fun h=>h.2.one
 one:=fun h=>by cases h
structure Inf where
 b:Nat
 base:Nat
 tot:Nat
 sz:Nat
 n:Nat
 g:Nat
 fix:Bool
 subs:List Nat
abbrev Rho:=Nat->Option Inf
inductive V where
 |d (x:Dat)
 |rp (cs:List Dat) (k:Nat)
 |ptr (r k:Nat)
 |suf (r g off:Nat)
 |osl (r g off len:Nat)
 |ept (r g j k:Nat)
 |esl (sz:Nat)
 |mp (r:Nat)
 |yl (r:Nat)
 |fn (f:FuncId) (first cap:List V)
 |agg (cs:List V)
 |tup (vs:List V)
 |undef
 |un
 deriving Inhabited
mutual
def B8(M:Mem)(ρ:Rho):V->Value->Prop
 | .d x,v=>T7 M x v
 | .rp cs k,v=>∃b o us,v= .pointer (some ⟨b,o+k,none⟩)/\V7 M b o us/\C9 M cs us
 | .ptr r k,v=>∃i,ρ r=some i/\i.fix=true/\v= .pointer (some ⟨i.b,k,none⟩)
 | .suf r g off,v=>∃i,ρ r=some i/\g<=i.g/\v.oneCell'=true/\(g=i.g->off<=i.n/\∃p,v= .slice p (i.n-off) (i.tot-off)/\(off<i.tot->p=some ⟨i.b,(i.base+off)*i.sz,none⟩))
 | .osl r g off len,v=>∃i,ρ r=some i/\g<=i.g/\v.oneCell'=true/\(g=i.g->off+len<=i.n/\∃p,v= .slice p len (i.tot-off)/\(off<i.tot->p=some ⟨i.b,(i.base+off)*i.sz,none⟩))
 | .ept r g j k,v=>∃i,ρ r=some i/\g<=i.g/\v.oneCell'=true/\(g=i.g->j<i.n/\v= .pointer (some ⟨i.b,(i.base+j)*i.sz+k,none⟩))
 | .esl _,v=>∃a,v= .slice a 0 0
 | .mp r,v=>∃i,ρ r=some i/\i.fix=true/\v= .map (some i.b)
 | .yl r,v=>∃i,ρ r=some i/\i.fix=true/\v= .func (.yield i.b) #[] #[]
 | .fn f first cap,v=>∃fs cs,v= .func (.func f) fs.toArray cs.toArray/\B2 M ρ first fs/\B2 M ρ cap cs
 | .agg cs,v=>∃us,v= .agg us.toArray/\B2 M ρ cs us
 | .tup vs,v=>∃us,v= .tuple us.toArray/\B2 M ρ vs us
 | .undef,_=>True
 | .un,v=>v=Go.undef
def B2(M:Mem)(ρ:Rho):List V->List Value->Prop
 |[],us=>us=[]
 |x::xs,us=>∃u us',us=u::us'/\B8 M ρ x u/\B2 M ρ xs us'
end
abbrev Ile(i i':Inf):Prop:=i.g<=i'.g/\(i.g=i'.g->i'={i with subs:=i'.subs})/\(i.fix=true->i'=i)
theorem Ile.refl(i:Inf):Ile i i:=⟨ad_ _,fun _=>rfl,fun _=>rfl⟩
theorem Ile.trans{i j k:Inf}(h:Ile i j)(h':Ile j k):Ile i k:=
 ⟨ah_ h.1 h'.1,fun e=>by
  have e1:i.g=j.g:=Nat.le_antisymm h.1 (by rw[e];exact h'.1);obtain⟨s,rfl⟩:∃s,j={i with subs:=s}:=⟨_,h.2.1 e1⟩
  exact h'.2.1 e,fun e=>by
  have e2:=h.2.2 e;subst e2;exact h'.2.2 e⟩
structure Rle(M M':Mem)(ρ ρ':Rho):Prop where
 le:M.le M'
 ext:∀r i,ρ r=some i->∃i',ρ' r=some i'/\Ile i i'
theorem Rle.refl(M:Mem)(ρ:Rho):Rle M M ρ ρ:=⟨M.le_refl,fun _ i h=>⟨i,h,Ile.refl i⟩⟩
structure L8 where
 s:Nat->Prop
 r0:Rho
instance:CoeFun L8 (fun _=>Nat->Prop):=⟨L8.s⟩
mutual
theorem B8.mono{M M':Mem}{ρ ρ':Rho}(h:Rle M M' ρ ρ'):∀(x:V) {v:Value},B8 M ρ x v->B8 M' ρ' x v
 | .d x,v,r=>by simp only[B8]at r⊢;exact r.mono h.le
 | .rp cs k,v,r=>by simp only[B8]at r⊢;obtain⟨b,o,us,e,hc,hr⟩:=r;exact⟨b,o,us,e,hc.mono h.le,hr.mono h.le⟩
 | .ptr r k,v,x=>by
   simp only[B8]at x⊢;obtain⟨i,hi,hf,e⟩:=x;obtain⟨i',hi',hg,he,hb⟩:=h.ext r i hi;obtain rfl:=hb hf;exact⟨i',hi',hf,e⟩
 | .suf r g off,v,x=>by
   simp only[B8]at x⊢;obtain⟨i,hi,hg,ho,e⟩:=x;obtain⟨i',hi',hg',he,_⟩:=h.ext r i hi;refine⟨i',hi',by omega,ho,fun h1=> ?_⟩;obtain⟨s,rfl⟩:∃s,i'={i with subs:=s}:=⟨_,he (by omega)⟩
   exact e h1
 | .osl r g off len,v,x=>by
   simp only[B8]at x⊢;obtain⟨i,hi,hg,ho,e⟩:=x;obtain⟨i',hi',hg',he,_⟩:=h.ext r i hi;refine⟨i',hi',by omega,ho,fun h1=> ?_⟩;obtain⟨s,rfl⟩:∃s,i'={i with subs:=s}:=⟨_,he (by omega)⟩
   exact e h1
 | .ept r g j k,v,x=>by
   simp only[B8]at x⊢;obtain⟨i,hi,hg,ho,e⟩:=x;obtain⟨i',hi',hg',he,_⟩:=h.ext r i hi;refine⟨i',hi',by omega,ho,fun h1=> ?_⟩;obtain⟨s,rfl⟩:∃s,i'={i with subs:=s}:=⟨_,he (by omega)⟩
   exact e h1
 | .esl _,v,x=>by simp only[B8]at x⊢;exact x
 | .mp r,v,x=>by
   simp only[B8]at x⊢;obtain⟨i,hi,hf,e⟩:=x;obtain⟨i',hi',hg,he,hb⟩:=h.ext r i hi;obtain rfl:=hb hf;exact⟨i',hi',hf,e⟩
 | .yl r,v,x=>by
   simp only[B8]at x⊢;obtain⟨i,hi,hf,e⟩:=x;obtain⟨i',hi',hg,he,hb⟩:=h.ext r i hi;obtain rfl:=hb hf;exact⟨i',hi',hf,e⟩
 | .fn f first cap,v,x=>by
   simp only[B8]at x⊢;obtain⟨fs,cs,e,h1,h2⟩:=x;exact⟨fs,cs,e,B2.mono h _ h1,B2.mono h _ h2⟩
 | .agg cs,v,x=>by simp only[B8]at x⊢;obtain⟨us,e,h1⟩:=x;exact⟨us,e,B2.mono h _ h1⟩
 | .tup cs,v,x=>by simp only[B8]at x⊢;obtain⟨us,e,h1⟩:=x;exact⟨us,e,B2.mono h _ h1⟩
 | .undef,v,_=>by simp only[B8]
 | .un,v,x=>by simp only[B8]at x⊢;exact x
theorem B2.mono{M M':Mem}{ρ ρ':Rho}(h:Rle M M' ρ ρ'):∀(xs:List V) {us:List Value},B2 M ρ xs us->B2 M' ρ' xs us
 |[],us,x=>by simp only[B2]at x⊢;exact x
 |x::xs,us,y=>by
  simp only[B2]at y⊢;obtain⟨u,us',e,h1,h2⟩:=y;exact⟨u,us',e,B8.mono h x h1,B2.mono h xs h2⟩
end
end
section
inductive Tri where
 |e
 |lf (v:V)
 |nd (l r:Tri)
 deriving Inhabited
def Tri.get:Nat->Tri->Nat->V
 |_,.e,_=> .undef
 |_,.lf v,_=>v
 |0,.nd _ _,_=> .undef
 |d+1,.nd l r,n=>match Nat.beq (n%2) 0 with
  |true=>Tri.get d l (n/2)
  |false=>Tri.get d r (n/2)
def Tri.set:Nat->Tri->Nat->V->Tri
 |0,_,_,v=> .lf v
 |d+1,.nd l r,n,v=>match Nat.beq (n%2) 0 with
  |true=> .nd (Tri.set d l (n/2) v) r
  |false=> .nd l (Tri.set d r (n/2) v)
 |d+1,_,n,v=>match Nat.beq (n%2) 0 with
  |true=> .nd (Tri.set d .e (n/2) v) .e
  |false=> .nd .e (Tri.set d .e (n/2) v)
def Tri.ok:Nat->Tri->Prop
 |_,.e=>True
 |d,.lf _=>d=0
 |0,.nd _ _=>False
 |d+1,.nd l r=>l.ok d/\r.ok d
theorem I3{a b:Nat}(h:a≠b):Nat.beq a b=false:=by
 cases hb:Nat.beq a b with
 |false=>rfl
 |true=>exact absurd (nB_ hb) h
theorem Tri.set_ok:∀(d:Nat) (t:Tri) (n:Nat) (v:V),t.ok d->(t.set d n v).ok d
 |0,_,_,_,_=>rfl
 |d+1,.nd l r,n,v,h=>by
  unfold Tri.set;split
  .exact⟨Tri.set_ok d l _ v h.1,h.2⟩
  .exact⟨h.1,Tri.set_ok d r _ v h.2⟩
 |d+1,.e,n,v,h=>by
  unfold Tri.set;split
  .exact⟨Tri.set_ok d .e _ v (by cases d<;>trivial),by cases d<;>trivial⟩
  .exact⟨by cases d<;>trivial,Tri.set_ok d .e _ v (by cases d<;>trivial)⟩
 |d+1,.lf _,n,v,h=>by cases h
theorem Tri.get_set_same:∀(d:Nat) (t:Tri) (n:Nat) (v:V),(t.set d n v).get d n=v
 |0,_,_,_=>rfl
 |d+1,.nd l r,n,v=>by
  unfold Tri.set;cases h:Nat.beq (n%2) 0<;>simp only[Tri.get,h]<;>exact Tri.get_set_same d _ _ v
 |d+1,.e,n,v=>by
  unfold Tri.set;cases h:Nat.beq (n%2) 0<;>simp only[Tri.get,h]<;>exact Tri.get_set_same d _ _ v
 |d+1,.lf _,n,v=>by
  unfold Tri.set;cases h:Nat.beq (n%2) 0<;>simp only[Tri.get,h]<;>exact Tri.get_set_same d _ _ v
theorem Tri.get_e(d n:Nat):Tri.get d .e n= .undef:=by cases d<;>rfl
theorem Tri.get_set_ne:∀(d:Nat) (t:Tri) (n m:Nat) (v:V),t.ok d->n<2^d->m<2^d->n≠m->(t.set d n v).get d m=t.get d m
 |0,_,n,m,_,_,h1,h2,h=>absurd (show n=m by simp at h1 h2;omega) h
 |d+1,.nd l r,n,m,v,ok,h1,h2,h=>by
  have p1:n/2<2^d:=by rw[ci_]at h1;omega
  have p2:m/2<2^d:=by rw[ci_]at h2;omega
  unfold Tri.set;cases hn:Nat.beq (n%2) 0<;>cases hm:Nat.beq (m%2) 0<;>simp only[Tri.get,hm]
  .refine Tri.get_set_ne d r _ _ v ok.2 p1 p2 ?_;have a:=cr_ hn;have b:=cr_ hm;omega
  .refine Tri.get_set_ne d l _ _ v ok.1 p1 p2 ?_;have a:=nB_ hn;have b:=nB_ hm;omega
 |d+1,.e,n,m,v,ok,h1,h2,h=>by
  have p1:n/2<2^d:=by rw[ci_]at h1;omega
  have p2:m/2<2^d:=by rw[ci_]at h2;omega
  have eok:Tri.e.ok d:=by cases d<;>trivial
  unfold Tri.set;cases hn:Nat.beq (n%2) 0<;>cases hm:Nat.beq (m%2) 0<;>simp only[Tri.get,hm,Tri.get_e]
  .rw[Tri.get_set_ne d .e _ _ v eok p1 p2 (by have a:=cr_ hn;have b:=cr_ hm;omega),Tri.get_e]
  .rw[Tri.get_set_ne d .e _ _ v eok p1 p2 (by have a:=nB_ hn;have b:=nB_ hm;omega),Tri.get_e]
 |d+1,.lf _,n,m,v,ok,_,_,_=>by cases ok
inductive KK where
 |int (k:IntKind)
 |str
 |bool
 deriving Inhabited
def KK.ok:KK->Dat->Prop
 | .int k,.int j _=>j=k
 | .str,.str _=>True
 | .bool,.bool _=>True
 |_,_=>False
inductive Sh where
 |z
 |o (e:TypeId) (sz:Nat) (cs:List Sh)
 deriving Inhabited
inductive B9 where
 |box (te:TypeId) (cs:List V)
 |tree (g:Nat) (e:TypeId) (sz:Nat) (shs:List Sh) (es:List (List Dat)) (h:Option (Nat×List V))
 |buf (g:Nat) (e:TypeId) (sz:Nat) (es:List (List Dat))
 |fzs (g:Nat) (sz:Nat) (es:List (List Dat))
 |fzb (cs:List V)
 |mapo (kk:KK) (ag:Bool) (sz:Nat) (es:List (Dat×List Dat))
 |raw (b:Nat) (o:Obj)
 |frn (r:Nat)
 deriving Inhabited
def Bt3(M:Mem)(kk:KK)(ag:Bool)(sz:Nat):List (Dat×List Dat)->List MapEntry->Prop
 |[],l=>l=[]
 |x::es,l=>∃e l',l=e::l'/\kk.ok x.1/\T7 M x.1 e.key/\x.2.length=sz/\(∃us,C9 M x.2 us/\e.val=mkv ag us)/\Bt3 M kk ag sz es l'
def Cn2(M:Mem)(kk:KK)(ag:Bool)(sz:Nat)(es:List (Dat×List Dat))(ents:Array MapEntry):Prop:=
 (ag=false->sz=1)/\∃l:List MapEntry,ents=l.toArray/\Bt3 M kk ag sz es l
def J1(R:Nat->List Dat->List Value->List Nat->Prop)(sz:Nat):Nat->List (List Dat)->List Value->List Nat->Prop
 |_,[],us,bs=>us=[]/\bs=[]
 |j,x::es,us,bs=>∃u us' b1 b2,us=u++us'/\bs=b1++b2/\u.length=sz/\R j x u b1/\J1 R sz (j+1) es us' b2
mutual
def Ad5(w:World)(M:Mem):Sh->Dat->Value->List Nat->Prop
 | .z,d,v,bs=>bs=[]/\T7 M d v
 | .o e sz cs,d,v,bs=>∃es a cap,d= .sl sz es/\v= .slice a es.length cap/\es.length<=cap/\cap<=maxLen/\((cap=0/\bs=[])\/(0<cap/\∃b base bs' pre us sp,a=some ⟨b,base*sz,none⟩/\bs=b::bs'/\w.heap[b]? =some (.cells (pre++(us++sp)).toArray e (0,0))/\pre.length=base*sz/\(us++sp).length=cap*sz/\
  J1 (fun _ x u b=>x.length=sz/\F7 w M cs x u b) sz 0 es us bs'))
def F7(w:World)(M:Mem):List Sh->List Dat->List Value->List Nat->Prop
 |[],ds,us,bs=>ds=[]/\us=[]/\bs=[]
 |s::cs,ds,us,bs=>∃d ds' u us' b1 b2,ds=d::ds'/\us=u::us'/\bs=b1++b2/\Ad5 w M s d u b1/\F7 w M cs ds' us' b2
end
def R5(w:World)(M:Mem)(ρ:Rho)(sz:Nat)(shs:List Sh)(h:Option (Nat×List V))(j:Nat)(x:List Dat)(u:List Value)(b:List Nat):Prop:=
 match h with
 |none=>x.length=sz/\F7 w M shs x u b
 |some (k,cs)=>(j=k->b=[]/\B2 M ρ cs u/\∀v∈u,v.oneCell'=true)/\(j≠k->x.length=sz/\F7 w M shs x u b)
section
variable (S:L8) (wl:World) (M:Mem) (ρ:Rho)
def Gb6(i:Inf):Prop:=(S i.b\/wl.heap.size<=i.b)/\M i.b=none
def Bt2(i:Inf)(g:Nat):Prop:=(S i.b\/wl.heap.size<=i.b)/\(Nat.blt g 1000000=true->M i.b=none)/\∀c,M i.b=some c->c.size<=(i.base+i.n)*i.sz
def J0(w:World)(i:Inf):B9->Prop
 | .box te cs=>i.fix=true/\Gb6 S wl M i/\∃us e,w.heap[i.b]? =some (.cells us.toArray e (0,0))/\B2 M ρ cs us/\(∀u∈us,u.oneCell'=true)/\e=te
 | .buf g e sz es=>i.fix=false/\i.g=g/\i.sz=sz/\i.n=es.length/\i.n<=i.tot/\i.tot<=maxLen/\
  (0<i.tot->Bt2 S wl M i g/\∃pre us sp,w.heap[i.b]? =some (.cells (pre++(us++sp)).toArray e (0,0))/\pre.length=i.base*sz/\(us++sp).length=i.tot*sz/\rL (rDs sz) M us es)
 | .tree g e sz shs es h=>i.fix=false/\i.g=g/\i.sz=sz/\i.n=es.length/\i.n<=i.tot/\i.tot<=maxLen/\(i.tot=0->i.subs=[])/\(i.b::i.subs).Nodup/\(∀b,b∈i.subs->(S b\/wl.heap.size<=b)/\M b=none/\b<w.heap.size)/\
  (0<i.tot->Bt2 S wl M i g/\Nat.blt g 1000000=true/\∃pre us sp,w.heap[i.b]? =some (.cells (pre++(us++sp)).toArray e (0,0))/\pre.length=i.base*sz/\(us++sp).length=i.tot*sz/\J1 (R5 w M ρ sz shs h) sz 0 es us i.subs)
 | .fzs g sz es=>i.fix=false/\i.g=g/\i.sz=sz/\i.n=es.length/\i.n<=i.tot/\(0<i.tot->∃c pre us sp,M i.b=some c/\Pre (pre++(us++sp)).toArray c/\pre.length=i.base*sz/\rL (rDs sz) M us es)
 | .fzb cs=>i.fix=true/\∃c us,M i.b=some c/\Pre us.toArray c/\B2 M ρ cs us/\∀u∈us,u.oneCell'=true
 | .mapo kk ag sz es=>i.fix=true/\Gb6 S wl M i/\∃ents clock,w.heap[i.b]? =some (.map ents clock)/\Cn2 M kk ag sz es ents
 | .raw b o=>i.fix=true/\i.b=b/\Gb6 S wl M i/\w.heap[b]? =some o
 | .frn r=>S.r0 r=some i
def Aj1(i:Inf):B9->Prop
 | .box _ _=>True
 | .buf .. =>0<i.tot
 | .tree .. =>0<i.tot
 | .mapo .. =>True
 | .raw .. =>True
 |_=>False
end
def En6:B9->Bool
 | .tree .. =>true
 |_=>false
def blk(i:Inf)(o:B9)(b:Nat):Prop:=(Aj1 i o/\i.b=b)\/(En6 o=true/\b∈i.subs)
theorem Y2{i:Inf}{o:B9}(h:Aj1 i o):blk i o i.b:= .inl ⟨h,rfl⟩
theorem J4{i:Inf}{o:B9}{b:Nat}(h:blk i o b)(hd:En6 o=false):Aj1 i o/\i.b=b:=h.elim id (fun h=>by rw[hd]at h;cases h.1)
theorem H9{i i':Inf}{o o':B9}(hb:i'.b=i.b)(hs:i'.subs=i.subs)(hd:En6 o'=En6 o)(hl:Aj1 i' o'->Aj1 i o){b:Nat}:blk i' o' b->blk i o b:=fun h=>h.imp (fun h=>⟨hl h.1,hb▸h.2⟩) (fun h=>⟨hd▸h.1,hs▸h.2⟩)
theorem Aj8{i:Inf}{o:B9}{b:Nat}(hl:Aj1 i o=False)(hd:En6 o=false):¬blk i o b:=fun h=>by have:=(J4 h hd).1;rw[hl]at this;exact this
mutual
theorem Ad5.mono{w w':World}{M M':Mem}(hM:M.le M'):∀(s:Sh) {d:Dat} {v:Value} {bs:List Nat},Ad5 w M s d v bs->(∀b,b∈bs->w'.heap[b]? =w.heap[b]?)->Ad5 w' M' s d v bs
 | .z,d,v,bs,h,_=>by
   simp only[Ad5]at h⊢;exact⟨h.1,h.2.mono hM⟩
 | .o e sz cs,d,v,bs,h,hw=>by
   simp only[Ad5]at h⊢;obtain⟨es,a,cap,h1,h2,h3,h4,h5⟩:=h;refine⟨es,a,cap,h1,h2,h3,h4,h5.imp id ?_⟩
   rintro ⟨h0,b,base,bs',pre,us,sp,h6,h7,h8,h11,h9,h10⟩
   refine⟨h0,b,base,bs',pre,us,sp,h6,h7,(hw b (by rw[h7];exact ab_)).trans h8,h11,h9,?_⟩;have hw':∀x,x∈bs'->w'.heap[x]? =w.heap[x]? :=fun x hx=>hw x (by rw[h7];exact mem_cons_of_mem _ hx)
   clear h1 h2 h3 h5 h7 h8 h9;revert h10;generalize 0=j
   induction es generalizing us bs' j with
   |nil=>intro h;exact h
   |cons x es ih=>
    rintro ⟨u,us',b1,b2,e1,e2,e3,⟨e4,e5⟩,e6⟩
    subst e2;exact⟨u,us',b1,b2,e1,rfl,e3,⟨e4,F7.mono hM cs e5 (fun y hy=>hw' y (am_ _ hy))⟩,by
     apply ih
     all_goals first|exact e6|(intro y hy;exact hw' y (al_ _ hy))⟩
theorem F7.mono{w w':World}{M M':Mem}(hM:M.le M'):∀(cs:List Sh) {ds:List Dat} {us:List Value} {bs:List Nat},F7 w M cs ds us bs->(∀b,b∈bs->w'.heap[b]? =w.heap[b]?)->F7 w' M' cs ds us bs
 |[],ds,us,bs,h,_=>by simp only[F7]at h⊢;exact h
 |s::cs,ds,us,bs,h,hw=>by
  simp only[F7]at h⊢;obtain⟨d,ds',u,us',b1,b2,h1,h2,h3,h4,h5⟩:=h;subst h3;exact⟨d,ds',u,us',b1,b2,h1,h2,rfl,Ad5.mono hM s h4 (fun y hy=>hw y (am_ _ hy)),F7.mono hM cs h5 (fun y hy=>hw y (al_ _ hy))⟩
end
theorem R5.mono{w w':World}{M M':Mem}{ρ ρ':Rho}(hr:Rle M M' ρ ρ'){sz:Nat}{shs:List Sh}{h:Option (Nat×List V)}{j:Nat}{x:List Dat}{u:List Value}{b:List Nat}(k:R5 w M ρ sz shs h j x u b)(hw:∀c,c∈b->w'.heap[c]? =w.heap[c]?):R5 w' M' ρ' sz shs h j x u b:=by
 unfold R5 at k⊢;split
 .exact⟨k.1,k.2.mono hr.le _ hw⟩
 .exact⟨fun e=>⟨(k.1 e).1,B2.mono hr _ (k.1 e).2.1,(k.1 e).2.2⟩,fun e=>⟨(k.2 e).1,(k.2 e).2.mono hr.le _ hw⟩⟩
theorem J1.mono{R R':Nat->List Dat->List Value->List Nat->Prop}{sz:Nat}:∀{es:List (List Dat)} {us:List Value} {bs:List Nat} {j:Nat},J1 R sz j es us bs->(∀j x u b,(∀c,c∈b->c∈bs)->R j x u b->R' j x u b)->J1 R' sz j es us bs
 |[],_,_,_,h,_=>h
 |x::es,us,bs,j,⟨u,us',b1,b2,e1,e2,e3,e4,e5⟩,hR=>by
  subst e2;exact⟨u,us',b1,b2,e1,rfl,e3,hR _ _ _ _ (fun c hc=>am_ _ hc) e4,e5.mono (fun j x u b hb=>hR j x u b (fun c hc=>al_ _ (hb c hc)))⟩
theorem By0{S:L8}{wl:World}{M:Mem}{ρ:Rho}{w:World}{i:Inf}{o:B9}(h:J0 S wl M ρ w i o)(hl:Aj1 i o):(S i.b\/wl.heap.size<=i.b)/\i.b<w.heap.size:=by
 cases o with
 |box te cs=>obtain⟨_,h1,us,e,h2,_⟩:=h;exact⟨h1.1,(aq_.1 h2).1⟩
 |buf g e sz es=>obtain⟨_,_,_,_,_,_,h1⟩:=h;obtain⟨h1,pre,us,sp,h2,_⟩:=h1 hl;exact⟨h1.1,(aq_.1 h2).1⟩
 |tree g e sz shs es hh=>obtain⟨_,_,_,_,_,_,_,_,_,h1⟩:=h;obtain⟨h1,_,pre,us,sp,h2,_⟩:=h1 hl;exact⟨h1.1,(aq_.1 h2).1⟩
 |mapo kk ag sz es=>obtain⟨_,h1,us,e,h2,_⟩:=h;exact⟨h1.1,(aq_.1 h2).1⟩
 |raw b x=>obtain⟨_,e,h1,h2⟩:=h;exact⟨h1.1,by rw[e];exact(aq_.1 h2).1⟩
 |frn=>exact hl.elim
 |fzs=>exact hl.elim
 |fzb=>exact hl.elim
theorem E0{S:L8}{wl:World}{M:Mem}{ρ:Rho}{w:World}{i:Inf}{o:B9}(h:J0 S wl M ρ w i o){b:Nat}(hb:blk i o b):(S b\/wl.heap.size<=b)/\b<w.heap.size:=by
 rcases hb with⟨hl,rfl⟩|⟨hd,hm⟩
 .exact By0 h hl
 .cases o with
  |tree g e sz shs es hh=>obtain⟨_,_,_,_,_,_,_,_,h1,_⟩:=h;exact⟨(h1 b hm).1,(h1 b hm).2.2⟩
  |_=>cases hd
theorem Bt3.mono{M M':Mem}(h:M.le M'){kk:KK}{ag:Bool}{sz:Nat}:∀{es:List (Dat×List Dat)} {l:List MapEntry},Bt3 M kk ag sz es l->Bt3 M' kk ag sz es l
 |[],_,r=>r
 |_::_,_,⟨e,l',h1,h2,h3,h4,⟨us,h5,h6⟩,h7⟩=>⟨e,l',h1,h2,h3.mono h,h4,⟨us,h5.mono h,h6⟩,Bt3.mono h h7⟩
theorem Bt3.len{M:Mem}{kk:KK}{ag:Bool}{sz:Nat}:∀{es:List (Dat×List Dat)} {l:List MapEntry},Bt3 M kk ag sz es l->l.length=es.length
 |[],_,r=>by rw[show _=[] from r];rfl
 |_::_,_,⟨e,l',h1,_,_,_,_,h7⟩=>by rw[h1,length_cons,length_cons,h7.len]
theorem Cn2.mono{M M':Mem}(h:M.le M'){kk:KK}{ag:Bool}{sz:Nat}{es:List (Dat×List Dat)}{ents:Array MapEntry}(r:Cn2 M kk ag sz es ents):Cn2 M' kk ag sz es ents:=by
 obtain⟨h0,l,e,k⟩:=r;exact⟨h0,l,e,k.mono h⟩
theorem J0.mono{S:L8}{wl:World}{M M':Mem}{ρ ρ':Rho}{w w':World}{i:Inf}{o:B9}(h:J0 S wl M ρ w i o)(hr:Rle M M' ρ ρ')(hm:∀b,blk i o b->M' b=M b)(hw:∀b,blk i o b->w'.heap[b]? =w.heap[b]?):J0 S wl M' ρ' w' i o:=by
 have hlt:∀b,blk i o b->b<w'.heap.size:=fun b hb=>by
  have h1:=(E0 h hb).2;have h2:=hw b hb;rw[Array.getElem?_eq_getElem h1]at h2;exact(aq_.1 h2).1
 have hm':Aj1 i o->M' i.b=M i.b:=fun hl=>hm _ (Y2 hl)
 have hw':Aj1 i o->w'.heap[i.b]? =w.heap[i.b]? :=fun hl=>hw _ (Y2 hl)
 cases o with
 |tree g e sz shs es hh=>
  obtain⟨h0,hg,hs,hn,ht,hx,h00,hnd,hsub,h1⟩:=h;refine⟨h0,hg,hs,hn,ht,hx,h00,hnd,fun b hb=>⟨(hsub b hb).1,(hm b (.inr ⟨rfl,hb⟩)).trans (hsub b hb).2.1,hlt b (.inr ⟨rfl,hb⟩)⟩,fun hp=> ?_⟩;obtain⟨h1,hgb,pre,us,sp,h2,h3,h4,h5⟩:=h1 hp;exact⟨⟨h1.1,fun hg=>(hm' hp).trans (h1.2.1 hg),fun c hc=>h1.2.2 c (by rw[<-hm' hp];exact hc)⟩,hgb,pre,us,sp,(hw' hp).trans h2,h3,h4,h5.mono (fun j x u b hb hk=>hk.mono hr (fun c hc=>hw c (.inr ⟨rfl,hb c hc⟩)))⟩
 |box te cs=>
  obtain⟨h0,h1,us,e,h2,h3,h4⟩:=h;exact⟨h0,⟨h1.1,(hm' trivial).trans h1.2⟩,us,e,(hw' trivial).trans h2,B2.mono hr _ h3,h4⟩
 |buf g e sz es=>
  obtain⟨h0,hg,hs,hn,ht,hx,h1⟩:=h;refine⟨h0,hg,hs,hn,ht,hx,fun hp=> ?_⟩;obtain⟨h1,pre,us,sp,h2,h3,h4,h5⟩:=h1 hp;exact⟨⟨h1.1,fun hg=>(hm' hp).trans (h1.2.1 hg),fun c hc=>h1.2.2 c (by rw[<-hm' hp];exact hc)⟩,pre,us,sp,(hw' hp).trans h2,h3,h4,Bc2 hr.le h5⟩
 |fzs g sz es=>
  obtain⟨h0,hg,hs,hn,ht,h1⟩:=h;refine⟨h0,hg,hs,hn,ht,fun hp=> ?_⟩;obtain⟨c,pre,us,sp,h1,h0',h2,h3⟩:=h1 hp;obtain⟨c',h4,h5⟩:=hr.le _ _ h1;exact⟨c',pre,us,sp,h4,h0'.trans h5,h2,Bc2 hr.le h3⟩
 |fzb cs=>
  obtain⟨h0,c,us,h1,h0',h2,h3⟩:=h;obtain⟨c',h4,h5⟩:=hr.le _ _ h1;exact⟨h0,c',us,h4,h0'.trans h5,B2.mono hr _ h2,h3⟩
 |mapo kk ag sz es=>
  obtain⟨h0,h1,ents,clock,h2,h3⟩:=h;exact⟨h0,⟨h1.1,(hm' trivial).trans h1.2⟩,ents,clock,(hw' trivial).trans h2,h3.mono hr.le⟩
 |raw b x=>
  obtain⟨h0,e,h1,h2⟩:=h;exact⟨h0,e,⟨h1.1,(hm' trivial).trans h1.2⟩,by rw[<-e];rw[<-e]at h2;exact(hw' trivial).trans h2⟩
 |frn r=>exact h
theorem J0.tree{S S':L8}{wl wl':World}{M:Mem}{ρ ρ':Rho}{w:World}{i:Inf}{g:Nat}{e:TypeId}{sz:Nat}{shs:List Sh}{es:List (List Dat)}{hh:Option (Nat×List V)}(h:J0 S wl M ρ w i (.tree g e sz shs es hh))(hm:∀b,blk i (.tree g e sz shs es hh) b->S' b\/wl'.heap.size<=b)
 (hv:∀k cs,hh=some (k,cs)->∀us,B2 M ρ cs us->B2 M ρ' cs us):J0 S' wl' M ρ' w i (.tree g e sz shs es hh):=by
 obtain⟨h0,hg,hs,hn,ht,hx,h00,hnd,hsub,h1⟩:=h;refine⟨h0,hg,hs,hn,ht,hx,h00,hnd,fun b hb=>⟨hm b (.inr ⟨rfl,hb⟩),(hsub b hb).2⟩,fun hp=> ?_⟩;obtain⟨h1,hgb,pre,us,sp,h2,h3,h4,h5⟩:=h1 hp;refine⟨⟨hm _ (.inl ⟨hp,rfl⟩),h1.2⟩,hgb,pre,us,sp,h2,h3,h4,h5.mono (fun j x u b _ k=> ?_)⟩;unfold R5 at k⊢;split at k
 .exact k
 .exact⟨fun e=>⟨(k.1 e).1,hv _ _ rfl _ (k.1 e).2.1,(k.1 e).2.2⟩,k.2⟩
structure Ow(S:L8)(wl:World)(M0 M:Mem)(ρ:Rho)(ob:Nat->Option B9)(w:World):Prop where
 size:wl.heap.size<=w.heap.size
 os:w.os=wl.os
 tape:w.tape=wl.tape
 output:w.output=wl.output
 old:∀k,k<wl.heap.size->¬S k->w.heap[k]? =wl.heap[k]?
 sits:Af8 M w
 le:M0.le M
 gl:GlO M wl S.s
 new:∀b c,M b=some c->b<wl.heap.size->M0 b=some c\/S b
 own:∀r o,ob r=some o->∃i,ρ r=some i/\J0 S wl M ρ w i o
 dom:∀r i,ρ r=some i->∃o,ob r=some o
 inj:∀r r' o o' i i' b,ob r=some o->ob r'=some o'->ρ r=some i->ρ r'=some i'->blk i o b->blk i' o' b->r=r'
 held:∀r i,Nat.ble 2000 r=true->S.r0 r=some i->∃i',ρ r=some i'/\Ile i i'
theorem Ow.szw{S:L8}{wl w:World}{M0 M:Mem}{ρ:Rho}{ob:Nat->Option B9}(h:Ow S wl M0 M ρ ob w):Sz w:=
 h.gl.sz.frame fun k hk ⟨cs,e⟩=>h.old k hk (h.gl.off k cs e)
theorem Ow.gla{S:L8}{wl w:World}{M0 M:Mem}{ρ:Rho}{ob:Nat->Option B9}(h:Ow S wl M0 M ρ ob w):GlA M w:=⟨h.gl.ok,h.szw⟩
theorem Ow.offm{S:L8}{wl w:World}{M0 M:Mem}{ρ:Rho}{ob:Nat->Option B9}(h:Ow S wl M0 M ρ ob w){n:Nat}{cs:List Dat}(e:Kx.gl n=some cs):¬(S.s n\/wl.heap.size<=n):=fun hb=>by
 obtain⟨c,t,z,h1,_⟩:=h.gl.sz n cs e;have:=(aq_.1 h1).1;rcases hb with hb|hb
 .exact h.gl.off n cs e hb
 .omega
theorem Ow.glE{S:L8}{wl w:World}{M0 M:Mem}{ρ:Rho}{ob:Nat->Option B9}(h:Ow S wl M0 M ρ ob w){S':Nat->Prop}(hS:∀b,S' b->S.s b\/wl.heap.size<=b):GlO M w S':=
 h.gla.entry fun _ _ e hb=>h.offm e (hS _ hb)
def H6{α:Type}(f:Nat->Option α)(d:Nat)(v:α):Nat->Option α:=fun s=>match Nat.beq s d with|true=>some v|false=>f s
theorem B3{α:Type}(f:Nat->Option α)(d:Nat)(v:α):H6 f d v d=some v:=by simp[H6]
theorem C5{α:Type}(f:Nat->Option α){d s:Nat}(v:α)(h:s≠d):H6 f d v s=f s:=by simp[H6,I3 h]
section
variable {S:L8} {wl:World} {M0 M:Mem} {ρ:Rho} {ob:Nat->Option B9} {w:World}
theorem Ow.drew(h:Ow S wl M0 M ρ ob w):Ow S wl M0 M ρ ob w.drew:=
 ⟨h.size,h.os,h.tape,h.output,h.old,h.sits,h.le,h.gl,h.new,fun r o hr=>by obtain⟨i,h1,h2⟩:=h.own r o hr;exact⟨i,h1,h2.mono (Rle.refl _ _) (fun _ _=>rfl) (fun _ _=>rfl)⟩,h.dom,h.inj,h.held⟩
theorem Ow.ob_none(h:Ow S wl M0 M ρ ob w){d:Nat}(hd:ob d=none):ρ d=none:=by
 cases hr:ρ d with
 |none=>rfl
 |some i=>obtain⟨o,ho⟩:=h.dom d i hr;rw[ho]at hd;cases hd
theorem Ow.alloc(h:Ow S wl M0 M ρ ob w){d:Nat}(hd:ob d=none)(o:Obj)(i:Inf)(x:B9)(hb:i.b=w.heap.size)
 (hx:∀ρ',Rle M M ρ ρ'->M w.heap.size=none->J0 S wl M ρ' (w.alloc o) i x) (hdp:∀b,b∈i.subs->En6 x=true->w.heap.size<=b:=by intro b hb hd;first|(cases hd;done)|(cases hb;done)):
 Rle M M ρ (H6 ρ d i)/\Ow S wl M0 M (H6 ρ d i) (H6 ob d x) (w.alloc o):=by
 have hρ:=h.ob_none hd;have hM:M w.heap.size=none:=by
  cases hm:M w.heap.size with
  |none=>rfl
  |some c=>exact absurd (h.sits.lt hm) (by omega)
 have hr:Rle M M ρ (H6 ρ d i):=⟨M.le_refl,fun r j hj=>by
  have:r≠d:=fun e=>by rw[e,hρ]at hj;cases hj
  exact⟨j,by rw[C5 _ _ this];exact hj,ad_ _,fun _=>rfl,fun _=>rfl⟩⟩
 have old:∀b,b<w.heap.size->(w.alloc o).heap[b]? =w.heap[b]? :=fun b hb=>Below.heap_alloc _ _ _ hb
 have hsz:(w.alloc o).heap.size=w.heap.size+1:=by simp
 refine⟨hr,⟨by rw[hsz];have:=h.size;omega,h.os,h.tape,h.output,fun k hk hS=>by rw[old k (by have:=h.size;omega)];exact h.old k hk hS,fun b c hc=>by rw[old b (h.sits.lt hc)];exact h.sits b c hc,h.le,h.gl,h.new,?_,?_,?_,fun r i hb hi=>by obtain⟨j,h1,h2⟩:=h.held r i hb hi;obtain⟨k,h3,h4⟩:=hr.ext r j h1;exact⟨k,h3,h2.trans h4⟩⟩⟩
 .intro r y hy;by_cases e:r=d
  .subst e;rw[B3]at hy;cases hy;exact⟨i,B3 _ _ _,hx _ hr hM⟩
  .rw[C5 _ _ e]at hy;obtain⟨j,h1,h2⟩:=h.own r y hy;exact⟨j,by rw[C5 _ _ e];exact h1,h2.mono hr (fun _ _=>rfl) (fun b hl=>old _ (E0 h2 hl).2)⟩
 .intro r j hj;by_cases e:r=d
  .subst e;exact⟨x,B3 _ _ _⟩
  .rw[C5 _ _ e]at hj⊢;exact h.dom r j hj
 .have hge:∀b,blk i x b->w.heap.size<=b:=fun b hk=>hk.elim (fun h=>by omega) (fun h=>hdp b h.2 h.1)
  intro r r' y y' j j' c h1 h2 h3 h4 l1 l2;by_cases e:r=d<;>by_cases e':r'=d
  .rw[e,e']
  .subst e;rw[B3]at h1 h3;cases h1;cases h3;rw[C5 _ _ e']at h2 h4;obtain⟨k,h5,h6⟩:=h.own r' y' h2;rw[h4]at h5;cases h5;have:=(E0 h6 l2).2;have:=hge c l1;omega
  .subst e';rw[B3]at h2 h4;cases h2;cases h4;rw[C5 _ _ e]at h1 h3;obtain⟨k,h5,h6⟩:=h.own r y h1;rw[h3]at h5;cases h5;have:=(E0 h6 l1).2;have:=hge c l2;omega
  .rw[C5 _ _ e]at h1 h3;rw[C5 _ _ e']at h2 h4;exact h.inj r r' y y' j j' c h1 h2 h3 h4 l1 l2
theorem Ow.turn(h:Ow S wl M0 M ρ ob w){d:Nat}{o:B9}{i:Inf}(hd:ob d=some o)(hi:ρ d=some i){w':World}(i':Inf)(x:B9)
 (hw:∀k,k<w.heap.size->(Aj1 i o->k≠i.b)->w'.heap[k]? =w.heap[k]?) (hsz:w.heap.size<=w'.heap.size) (hos:w'.os=w.os) (htape:w'.tape=w.tape) (hout:w'.output=w.output) (hpin:Aj1 i o->∀c,M i.b=some c->∃c' e z,w'.heap[i.b]? =some (.cells c' e z)/\Pre c c')
 (hg:Ile i i') (hb:Aj1 i' x->(Aj1 i o/\i'.b=i.b)\/w.heap.size<=i'.b)
 (hx:∀ρ',Rle M M ρ ρ'->(∀b,w.heap.size<=b->M b=none)->J0 S wl M ρ' w' i' x) (hdp:∀b,b∈i'.subs->En6 x=true->blk i o b\/w.heap.size<=b:=by intro b hb hd;first|(cases hd;done)|(cases hb;done)):
 Rle M M ρ (H6 ρ d i')/\Ow S wl M0 M (H6 ρ d i') (H6 ob d x) w':=by
 have hr:Rle M M ρ (H6 ρ d i'):=⟨M.le_refl,fun r j hj=>by
  by_cases e:r=d
  .subst e;rw[hi]at hj;cases hj;exact⟨i',B3 _ _ _,hg⟩
  .exact⟨j,by rw[C5 _ _ e];exact hj,ad_ _,fun _=>rfl,fun _=>rfl⟩⟩
 obtain⟨i0,hi0,hok⟩:=h.own d o hd;rw[hi]at hi0;cases hi0;have hMb:∀b,w.heap.size<=b->M b=none:=fun b hb=>by
  cases hm:M b with
  |none=>rfl
  |some c=>exact absurd (h.sits.lt hm) (by omega)
 refine⟨hr,⟨ah_ h.size hsz,hos.trans h.os,htape.trans h.tape,hout.trans h.output,?_,?_,h.le,h.gl,h.new,?_,?_,?_,fun r i hb hi=>by obtain⟨j,h1,h2⟩:=h.held r i hb hi;obtain⟨k,h3,h4⟩:=hr.ext r j h1;exact⟨k,h3,h2.trans h4⟩⟩⟩
 .intro k hk hS;rw[hw k (by have:=h.size;omega) (fun hl e=> ?_)]
  .exact h.old k hk hS
  .rcases(By0 hok hl).1 with hs|hs
   .rw[e]at hS;exact hS hs
   .omega
 .intro b c hc;by_cases e:Aj1 i o/\b=i.b
  .obtain⟨hl,rfl⟩:=e;exact hpin hl c hc
  .rw[hw b (h.sits.lt hc) (fun hl e'=>e ⟨hl,e'⟩)];exact h.sits b c hc
 .intro r y hy;by_cases e:r=d
  .subst e;rw[B3]at hy;cases hy;exact⟨i',B3 _ _ _,hx _ hr hMb⟩
  .rw[C5 _ _ e]at hy;obtain⟨j,h1,h2⟩:=h.own r y hy;refine⟨j,by rw[C5 _ _ e];exact h1,h2.mono hr (fun _ _=>rfl) (fun b hl=>hw _ (E0 h2 hl).2 (fun hl' e'=>e (h.inj r d y o j i b hy hd h1 hi hl (by rw[e'];exact Y2 hl'))))⟩
 .intro r j hj;by_cases e:r=d
  .subst e;exact⟨x,B3 _ _ _⟩
  .rw[C5 _ _ e]at hj⊢;exact h.dom r j hj
 .have hge:∀b,blk i' x b->blk i o b\/w.heap.size<=b:=fun b hk=>hk.elim (fun h=>by
   rcases hb h.1 with⟨h1,h2⟩|h1
   .exact .inl (.inl ⟨h1,h2.symm.trans h.2⟩)
   .exact .inr (by rw[<-h.2];exact h1)) (fun h=>hdp b h.2 h.1)
  intro r r' y y' j j' c h1 h2 h3 h4 l1 l2;by_cases e:r=d<;>by_cases e':r'=d
  .rw[e,e']
  .subst e;rw[B3]at h1 h3;cases h1;cases h3;rw[C5 _ _ e']at h2 h4;rcases hge c l1 with hl|hbi
   .exact h.inj r r' o y' i j' c hd h2 hi h4 hl l2
   .obtain⟨k,h5,h6⟩:=h.own r' y' h2;rw[h4]at h5;cases h5;have:=(E0 h6 l2).2;omega
  .subst e';rw[B3]at h2 h4;cases h2;cases h4;rw[C5 _ _ e]at h1 h3;rcases hge c l2 with hl|hbi
   .exact h.inj r r' y o j i c h1 hd h3 hi l1 hl
   .obtain⟨k,h5,h6⟩:=h.own r y h1;rw[h3]at h5;cases h5;have:=(E0 h6 l1).2;omega
  .rw[C5 _ _ e]at h1 h3;rw[C5 _ _ e']at h2 h4;exact h.inj r r' y y' j j' c h1 h2 h3 h4 l1 l2
end
end
section
abbrev Wr:=List (Nat×B9)
inductive Res where
 |bad
 |ok (v:V) (wr:Wr)
 |opt1 (o:Option (List Dat)) (k:List Dat->V×Wr)
 |opt2 (o:Option (List (List Dat))) (k:List (List Dat)->V×Wr)
 |call (f:FuncId) (args:List V)
def B0:List (Nat×B9)->Nat->Option B9
 |[],_=>none
 |(r,o)::l,s=>match Nat.beq s r with|true=>some o|false=>B0 l s
def O3:List (Nat×B9)->Nat->B9->List (Nat×B9)
 |[],d,o=>[(d,o)]
 |(r,x)::l,d,o=>match Nat.beq d r with|true=>(r,o)::l|false=>(r,x)::O3 l d o
theorem D9:∀(l:List (Nat×B9)) (d:Nat) (o:B9),B0 (O3 l d o)=H6 (B0 l) d o
 |[],d,o=>by
  funext s;simp only[O3,B0,H6]<;>cases Nat.beq s d<;>rfl
 |(r,x)::l,d,o=>by
  funext s;have ih:=congrFun (D9 l d o) s;cases h:Nat.beq d r with
  |true=>
   obtain rfl:=nB_ h;simp only[O3,h,B0,H6];cases h':Nat.beq s d<;>simp[]
  |false=>
   simp only[O3,h,B0,ih,H6];cases h1:Nat.beq s r<;>cases h2:Nat.beq s d<;>simp only;obtain rfl:=nB_ h1;obtain rfl:=nB_ h2;exact absurd (Nat.beq_refl s) (by rw[h];simp)
def wrO(ob:Nat->Option B9):Wr->Nat->Option B9
 |[]=>ob
 |(d,o)::wr=>wrO (H6 ob d o) wr
def Q3(l:List (Nat×B9)):Wr->List (Nat×B9)
 |[]=>l
 |(d,o)::wr=>Q3 (O3 l d o) wr
theorem U2:∀(wr:Wr) (l:List (Nat×B9)),B0 (Q3 l wr)=wrO (B0 l) wr
 |[],_=>rfl
 |(d,o)::wr,l=>by simp only[Q3,wrO];rw[U2 wr,D9]
def isC:V->Bool
 | .agg _| .tup _| .undef| .un=>false
 |_=>true
def Fk4:List V->Bool
 |[]=>true
 |v::l=>match isC v with|true=>Fk4 l|false=>false
def Ag0:V->Option (List V)
 | .agg cs=>match Fk4 cs with|true=>some cs|false=>none
 | .tup _| .undef| .un=>none
 |c=>some [c]
def mkV(agg:Bool)(cs:List V):V:=match agg with
 |true=> .agg cs
 |false=>match cs with|[c]=>c|_=> .undef
def dV:List Dat->List V
 |[]=>[]
 |x::l=> .d x::dV l
def Gd8:Value->V
 | .int k n=> .d (.int k n)
 | .bool b=> .d (.bool b)
 | .string s=> .d (.str s.data.toList)
 | .pointer none=> .d .nilp
 | .slice none 0 0=> .esl 0
 | .map none=> .d .nilm
 | .nilFunc=> .d .nilf
 | .nilIface=> .d (.ife false)
 |_=> .undef
def Dy1:List Value->List V
 |[]=>[]
 |v::l=>Gd8 v::Dy1 l
def Cf5(P:Program):Nat->TypeId->List TypeId
 |0,_=>[]
 |n+1,t=>match P.underlying t with
  |some (.struct fs)=>fs.toList.flatMap fun f=>Cf5 P n f.type
  |some (.array k e)=>(List.replicate k (Cf5 P n e)).flatten
  |_=>[t]
def szE(P:Program)(t:TypeId):Nat:=match P.underlying t with
 |some (.slice e)=>match F9 P e with|some n=>n|none=>0
 |_=>0
def Af4(P:Program)(t:TypeId):V->V
 | .esl _=> .esl (szE P t)
 |v=>v
def Cv7(P:Program):List TypeId->List V->List V
 |t::ts,v::vs=>Af4 P t v::Cv7 P ts vs
 |_,vs=>vs
def Db6(P:Program)(t:TypeId):Option (List V):=match Bd8 P t with
 |some vs=>match Cv7 P (Cf5 P 8 t) (Dy1 vs) with
  |l=>match Fk4 l with|true=>some l|false=>none
 |none=>none
section
variable (ob:Nat->Option B9)
def Bu8:V->Option (Dat×Wr)
 | .d x=>some (x,[])
 | .esl sz=>some (.sl sz [],[])
 | .suf r g off=>match ob r with
   |some (.buf g' _ sz es)=>match Nat.beq g g' with|true=>some (.sl sz (es.drop off),[(r,.fzs g sz es)])|false=>none
   |some (.fzs g' sz es)=>match Nat.beq g g' with|true=>some (.sl sz (es.drop off),[])|false=>none
   |_=>none
 | .osl r g off len=>match ob r with
   |some (.buf g' _ sz es)=>match Nat.beq g g' with|true=>some (.sl sz ((es.drop off).take len),[(r,.fzs g sz es)])|false=>none
   |some (.fzs g' sz es)=>match Nat.beq g g' with|true=>some (.sl sz ((es.drop off).take len),[])|false=>none
   |_=>none
 | .fn f [] []=>some (.fnc f,[])
 |_=>none
end
def W4(ob:Nat->Option B9):List V->Option (List Dat×Wr)
 |[]=>some ([],[])
 |v::l=>match Bu8 ob v with
  |some (x,wr)=>match W4 (wrO ob wr) l with
   |some (xs,wr')=>some (x::xs,wr++wr')
   |none=>none
  |none=>none
def Al5(ob:Nat->Option B9):List V->List Dat×Wr
 |[]=>([],[])
 |v::l=>match Bu8 ob v with
  |some (x,wr)=>match Al5 (wrO ob wr) l with|(xs,wr')=>(x::xs,wr++wr')
  |none=>match Al5 ob l with|(xs,wr')=>(.any::xs,wr')
def Fs1(ob:Nat->Option B9):V->Option (V×Wr)
 | .agg cs=>match W4 ob cs with|some (xs,wr)=>some (.agg (dV xs),wr)|none=>none
 | .rp cs k=>some (.rp cs k,[])
 | .ptr r k=>match ob r with
   |some (.fzb cs)=>match Al5 ob cs with|(xs,wr)=>some (.rp xs k,wr)
   |some (.box _ cs)=>match Al5 (H6 ob r (.fzb cs)) cs with|(xs,wr)=>some (.rp xs k,(r,.fzb cs)::wr)
   |_=>none
 |v=>match Bu8 ob v with|some (x,wr)=>some (.d x,wr)|none=>none
def Cx6(ob:Nat->Option B9):List V->Option (List V×Wr)
 |[]=>some ([],[])
 |v::l=>match Fs1 ob v with
  |some (x,wr)=>match Cx6 (wrO ob wr) l with
   |some (xs,wr')=>some (x::xs,wr++wr')
   |none=>none
  |none=>none
def Cx7(ob:Nat->Option B9):V->Option (V×Wr)
 | .fn f first cap=>match first,cap with
   |[],[]=>some (.d (.fnc f),[])
   |_,_=>match Cx6 ob first with
    |some (xs,wr)=>match Cx6 (wrO ob wr) cap with|some (ys,wr')=>some (.fn f xs ys,wr++wr')|none=>none
    |none=>none
 |v=>Fs1 ob v
def M7(ob:Nat->Option B9):List V->Option (List V×Wr)
 |[]=>some ([],[])
 |v::l=>match Cx7 ob v with
  |some (x,wr)=>match M7 (wrO ob wr) l with
   |some (xs,wr')=>some (x::xs,wr++wr')
   |none=>none
  |none=>none
def Ei7(vs:List V)(o:Nat)(u:List V):List V:=vs.take o++u++vs.drop (o+u.length)
def Z1(vs:List Dat)(o:Nat)(u:List Dat):List Dat:=vs.take o++u++vs.drop (o+u.length)
def Az7(pl:Nat->Option (Nat×Nat)):List V->List (Nat×V)->Option (List V)
 |cs,[]=>some cs
 |cs,(i,v)::r=>match pl i,Ag0 v with
  |some (off,n),some us=>match Nat.beq us.length n,Nat.ble (off+n) cs.length with
   |true,true=>Az7 pl (Ei7 cs off us) r
   |_,_=>none
  |_,_=>none
def Er6(P:Program)(t:TypeId):Option (Nat->Option (Nat×Nat)):=
 match P.underlying t with
 |some (.struct fs)=>match fs.toList.mapM (fun f=>(P.info? f.type).map fun i=>(f.offset,i.size)) with
  |some pl=>some fun i=>pl.toArray[i]?
  |none=>none
 |some (.array _ e)=>match P.info? e with
  |some ie=>some fun i=>some (i*ie.size,ie.size)
  |none=>none
 |_=>none
def Ak3(P:Program)(t:TypeId):Option TypeId:=match P.underlying t with
 |some (.slice e)=>some e
 |_=>none
def Fk5(P:Program)(t:TypeId):Option (Nat×TypeId):=match P.underlying t with
 |some (.array n e)=>some (n,e)
 |_=>none
def slc{α:Type}(l:List α)(lo hi:Int):Option (List α):=
 bif decide (0<=lo)&&decide (lo<=hi)&&decide (hi<=l.length) then some ((l.drop lo.toNat).take (hi-lo).toNat) else none
def chk(b:Bool):Option (List Dat):=bif b then some [] else none
def M8(sz:Nat):Nat->List Dat->List (List Dat)
 |0,_=>[]
 |n+1,l=>l.take sz::M8 sz n (l.drop sz)
def dOf:List V->Option (List Dat)
 |[]=>some []
 | .d x::l=>match dOf l with|some xs=>some (x::xs)|none=>none
 |_::_=>none
def iv(v:V):Option Int:=match v with| .d (.int _ n)=>some n|_=>none
def Ac1:Operand->Bool| .const _=>true|_=>false
def Ee4(op:BinOp)(k:IntKind)(m n:Int)(yc:Bool):Res:=match op with
 | .quo=>match yc with
   |true=>match decide (n≠0) with|true=> .ok (.d (.int k (k.wrap (m.tdiv n)))) []|false=> .bad
   |false=> .opt1 (chk (decide (n≠0))) fun _=>(.d (.int k (k.wrap (m.tdiv n))),[])
 | .rem=>match yc with
   |true=>match decide (n≠0) with|true=> .ok (.d (.int k (m.tmod n))) []|false=> .bad
   |false=> .opt1 (chk (decide (n≠0))) fun _=>(.d (.int k (m.tmod n)),[])
 | .add=> .ok (.d (.int k (k.wrap (m+n)))) []
 | .sub=> .ok (.d (.int k (k.wrap (m-n)))) []
 | .mul=> .ok (.d (.int k (k.wrap (m*n)))) []
 | .eql=> .ok (.d (.bool (m==n))) []
 | .neq=> .ok (.d (.bool (m !=n))) []
 | .lss=> .ok (.d (.bool (decide (m<n)))) []
 | .leq=> .ok (.d (.bool (decide (m<=n)))) []
 | .gtr=> .ok (.d (.bool (decide (m>n)))) []
 | .geq=> .ok (.d (.bool (decide (m>=n)))) []
 | .and=> .ok (.d (.int k (k.wrap (BitVec.ofInt k.bits m&&&BitVec.ofInt k.bits n).toNat))) []
 | .or=> .ok (.d (.int k (k.wrap (BitVec.ofInt k.bits m|||BitVec.ofInt k.bits n).toNat))) []
 | .xor=> .ok (.d (.int k (k.wrap (BitVec.ofInt k.bits m^^^BitVec.ofInt k.bits n).toNat))) []
 | .andNot=> .ok (.d (.int k (k.wrap (BitVec.ofInt k.bits m&&& ~~~BitVec.ofInt k.bits n).toNat))) []
 |_=> .bad
def shV(op:BinOp)(k:IntKind)(m n:Int):V:=match op with
 | .shl=> .d (.int k (k.wrap (m*2^(min n.toNat k.bits))))
 |_=> .d (.int k (m.fdiv (2^(min n.toNat k.bits))))
def Bn9(op:BinOp)(k:IntKind)(m n:Int)(yc:Bool):Res:=match yc with
 |true=>match decide (0<=n) with|true=> .ok (shV op k m n) []|false=> .bad
 |false=> .opt1 (chk (decide (0<=n))) fun _=>(shV op k m n,[])
def Dq1:BinOp->Bool| .shl| .shr=>true|_=>false
def ikb:IntKind->IntKind->Bool
 | .i8,.i8| .i16,.i16| .i32,.i32| .i64,.i64| .u8,.u8| .u16,.u16| .u32,.u32| .u64,.u64=>true
 |_,_=>false
theorem Bx3{j k:IntKind}(h:ikb j k=true):j=k:=by cases j<;>cases k<;>first|rfl|cases h
def Ee3(P:Program)(op:BinOp)(t:TypeId)(x y:V)(yc:Bool):Res:=match x,y with
 | .d (.int k m),.d (.int k' n)=>match Dq1 op with
   |true=>Bn9 op k m n yc
   |false=>match ikb k k' with|true=>Ee4 op k m n yc|false=> .bad
 | .d (.bool b),.d (.bool c)=>match P.underlying t with
   |some .bool=>match op with
    | .eql=> .ok (.d (.bool (b==c))) []
    | .neq=> .ok (.d (.bool (!(b==c)))) []
    |_=> .bad
   |_=> .bad
 | .d (.str s),.d (.str u)=>match op with
   | .add=> .opt1 (chk (decide (s.length+u.length<=4611686018427387904))) fun _=>(.d (.str (s++u)),[])
   | .eql=> .ok (.d (.bool (s==u))) []
   | .neq=> .ok (.d (.bool (!(s==u)))) []
   |_=> .bad
 |_,_=> .bad
def szT(P:Program)(t:TypeId):Option (Nat×Bool):=match F9 P t,Di8 P t with
 |some n,some true=>some (n,true)
 |some n,some false=>match Nat.beq n 1 with|true=>some (n,false)|false=>none
 |_,_=>none
theorem U4{P:Program}{t:TypeId}{n:Nat}{ag:Bool}(h:szT P t=some (n,ag)):F9 P t=some n/\Di8 P t=some ag/\(ag=false->n=1):=by
 unfold szT at h;split at h
 .rename_i h1 h2;cases h;exact⟨h1,h2,fun e=>by cases e⟩
 .rename_i h1 h2;split at h
  .rename_i hb;cases h;exact⟨h1,h2,fun _=>nB_ hb⟩
  .cases h
 .cases h
def Cq0(P:Program)(ob:Nat->Option B9)(t:TypeId)(p:V):Res:=match szT P t with
 |some (n,ag)=>match p with
  | .rp cs k=>match Nat.ble (k+n) cs.length with|true=> .ok (mkV ag (dV ((cs.drop k).take n))) []|false=> .bad
  | .ptr r k=>match ob r with
    |some (.box _ cs)=>match Nat.ble (k+n) cs.length with|true=> .ok (mkV ag ((cs.drop k).take n)) []|false=> .bad
    |some (.fzb cs)=>match Nat.ble (k+n) cs.length with|true=> .ok (mkV ag ((cs.drop k).take n)) []|false=> .bad
    |_=> .bad
  | .ept r g j k=>match ob r with
    |some (.buf g' _ sz es)=>match Nat.beq g g',Nat.ble (k+n) sz with
     |true,true=> .opt1 es[j]? fun cs=>(mkV ag (dV ((cs.drop k).take n)),[])
     |_,_=> .bad
    |_=> .bad
  |_=> .bad
 |_=> .bad
def Bo0(P:Program)(ob:Nat->Option B9)(t:TypeId)(p v:V):Res:=match F9 P t,p with
 |some n,.ptr r k=>match ob r,Ag0 v with
  |some (.box te cs),some us=>match Nat.beq us.length n,Nat.ble (k+n) cs.length with
   |true,true=> .ok .undef [(r,.box te (Ei7 cs k us))]
   |_,_=> .bad
  |_,_=> .bad
 |some n,.ept r g j k=>match Ag0 v with
  |some us=>match W4 ob us with
   |some (xs,wr)=>match wrO ob wr r with
    |some (.buf g' e sz es)=>match Nat.beq g g',Nat.beq xs.length n,Nat.ble (k+n) sz,Nat.blt g 1000000 with
     |true,true,true,true=> .opt2 (match es[j]? with|some old=>some (es.set j (Z1 old k xs))|none=>none) fun es'=>(.undef,wr++[(r,.buf g e sz es')])
     |_,_,_,_=> .bad
    |_=> .bad
   |none=> .bad
  |none=> .bad
 |_,_=> .bad
def Y4(P:Program)(ob:Nat->Option B9)(t:TypeId)(x i:V)(ic:Bool):Res:=match iv i with
 |none=> .bad
 |some j=>match x with
  | .d (.sl sz es)=>match Ak3 P t with
    |some e=>match F9 P e with
     |some n=>match Nat.beq n sz with
      |true=> .opt1 (C2 es j) fun cs=>(.rp cs 0,[])
      |false=> .bad
     |none=> .bad
    |none=> .bad
  | .suf r g off=>match Ak3 P t with
    |some e=>match F9 P e,ob r with
     |some n,some (.buf g' _ sz es)=>match Nat.beq g g',Nat.beq n sz with
      |true,true=> .opt1 (C2 (es.drop off) j) fun _=>(.ept r g (off+j.toNat) 0,[])
      |_,_=> .bad
     |some n,some (.fzs g' sz es)=>match Nat.beq g g',Nat.beq n sz with
      |true,true=> .opt1 (C2 (es.drop off) j) fun cs=>(.rp cs 0,[])
      |_,_=> .bad
     |_,_=> .bad
    |none=> .bad
  | .osl r g off len=>match Ak3 P t with
    |some e=>match F9 P e,ob r with
     |some n,some (.buf g' _ sz es)=>match Nat.beq g g',Nat.beq n sz with
      |true,true=> .opt1 (C2 ((es.drop off).take len) j) fun _=>(.ept r g (off+j.toNat) 0,[])
      |_,_=> .bad
     |some n,some (.fzs g' sz es)=>match Nat.beq g g',Nat.beq n sz with
      |true,true=> .opt1 (C2 ((es.drop off).take len) j) fun cs=>(.rp cs 0,[])
      |_,_=> .bad
     |_,_=> .bad
    |none=> .bad
  | .rp cs k=>match Fk5 P t with
    |some (n,e)=>match F9 P e with
     |some s=>match ic with
      |true=>match decide (0<=j),Nat.blt j.toNat n with
       |true,true=> .ok (.rp cs (k+j.toNat*s)) []
       |_,_=> .bad
      |false=> .opt1 (C2 (M8 s n (cs.drop k)) j) fun c=>(match Nat.beq c.length s with|true=> .rp c 0|false=> .undef,[])
     |none=> .bad
    |none=> .bad
  | .ptr r k=>match Fk5 P t with
    |some (n,e)=>match F9 P e with
     |some s=>match ic with
      |true=>match decide (0<=j),Nat.blt j.toNat n with
       |true,true=> .ok (.ptr r (k+j.toNat*s)) []
       |_,_=> .bad
      |false=>match ob r with
       |some (.fzb cs)=>match dOf cs with
        |some ds=> .opt1 (C2 (M8 s n (ds.drop k)) j) fun c=>(match Nat.beq c.length s with|true=> .rp c 0|false=> .undef,[])
        |none=> .bad
       |some (.box _ _)=>match decide (0<=j),Nat.blt j.toNat n with
        |true,true=> .ok (.ptr r (k+j.toNat*s)) []
        |_,_=> .bad
       |_=> .bad
     |none=> .bad
    |none=> .bad
  |_=> .bad
def Ch5(P:Program)(t:TypeId)(x i:V)(ic:Bool):Res:=match iv i with
 |none=> .bad
 |some j=>match x with
  | .d (.str s)=>match P.underlying t with
    |some .string=> .opt1 (match C2 s j with|some c=>some [.int .u8 c.toNat]|none=>none) fun cs=>(match cs with|[c]=> .d c|_=> .undef,[])
    |_=> .bad
  | .agg cs=>match Fk5 P t with
    |some (n,e)=>match szT P e with
     |some (s,ag)=>match ic with
      |true=>match decide (0<=j),Nat.blt j.toNat n,Nat.ble (n*s) cs.length with
       |true,true,true=> .ok (mkV ag ((cs.drop (j.toNat*s)).take s)) []
       |_,_,_=> .bad
      |false=>match dOf cs,Nat.beq cs.length (n*s) with
       |some ds,true=> .opt1 (C2 (M8 s n ds) j) fun c=>(match Nat.beq c.length s with|true=>mkV ag (dV c)|false=> .undef,[])
       |_,_=> .bad
     |_=> .bad
    |none=> .bad
  |_=> .bad
def Gq9{α:Type}(l:List α)(h m:Int):Option (List α):=bif decide (h<=m)&&decide (m<=l.length) then slc l 0 h else none
def Ak6(P:Program)(t:TypeId)(x:V)(h m:Int):Res:=match P.underlying t,x with
 |some (.slice e),.d (.sl sz es)=>match F9 P e with
  |some n=>match Nat.beq n sz with
   |true=> .opt2 (Gq9 es h m) fun es'=>(.d (.sl sz es'),[])
   |false=> .bad
  |none=> .bad
 |_,_=> .bad
def Ab9(P:Program)(ob:Nat->Option B9)(t:TypeId)(x:V)(lo hi:Option Int):Res:=match P.underlying t with
 |some .string=>match x with
  | .d (.str s)=>match lo.getD 0,hi.getD s.length with
    |l,h=> .opt1 (chk (decide (0<=l)&&decide (l<=h)&&decide (h<=s.length))) fun _=>(.d (.str ((s.drop l.toNat).take (h-l).toNat)),[])
  |_=> .bad
 |some (.slice e)=>match F9 P e with
  |none=> .bad
  |some n=>match x with
   | .d (.sl sz es)=>match Nat.beq n sz with
     |true=> .opt2 (slc es (lo.getD 0) (hi.getD es.length)) fun es'=>(.d (.sl sz es'),[])
     |false=> .bad
   | .suf r g off=>match ob r with
     |some (.fzs g' sz es)=>match Nat.beq g g',Nat.beq n sz with
      |true,true=> .opt2 (slc (es.drop off) (lo.getD 0) (hi.getD (es.drop off).length)) fun es'=>(.d (.sl sz es'),[])
      |_,_=> .bad
     |some (.buf g' _ sz es)=>match Nat.beq g g',Nat.beq n sz with
      |true,true=>match hi with
       |none=> .opt1 (chk (decide (0<=lo.getD 0)&&decide (lo.getD 0<=(es.drop off).length))) fun _=>(.suf r g (off+(lo.getD 0).toNat),[])
       |some h=> .opt1 (chk (decide (0<=lo.getD 0)&&decide (lo.getD 0<=h)&&decide (h<=(es.drop off).length))) fun _=>(.osl r g (off+(lo.getD 0).toNat) (h-lo.getD 0).toNat,[])
      |_,_=> .bad
     |_=> .bad
   |_=> .bad
 |some (.array n e)=>match F9 P e,x with
  |some sz,.rp cs k=>match Nat.ble (k+n*sz) cs.length with
   |true=> .opt2 (slc (M8 sz n (cs.drop k)) (lo.getD 0) (hi.getD n)) fun es'=>(.d (.sl sz es'),[])
   |false=> .bad
  |_,_=> .bad
 |_=> .bad
def Gb8(es new:List (List Dat)):Option (List (List Dat)):=app es new
def Bi1(P:Program)(t:TypeId):Option Nat:=(P.info? t).map (·.bytes)
def Aj9(b:UInt8):List Dat:=[.int .u8 b.toNat]
def Ds0(P:Program)(ob:Nat->Option B9)(n:Nat)(t t2:TypeId)(v:V):Option (List (List Dat)×Wr):=match Nat.beq t t2 with
 |true=>match Bu8 ob v with
  |some (.sl sz es,wr)=>match Nat.beq sz n with|true=>some (es,wr)|false=>none
  |_=>none
 |false=>match v,P.underlying t2 with
  | .d (.str s),some .string=>match Nat.beq n 1 with|true=>some (s.map Aj9,[])|false=>none
  |_,_=>none
def Au8(P:Program)(ob:Nat->Option B9)(d:Nat)(t t2:TypeId)(s x:V):Res:=match Ak3 P t with
 |some e=>match F9 P e,Bi1 P e,Bd8 P e with
  |some n,some by_,some zs=>match Ds0 P ob n t t2 x,Nat.ble 1 n,Nat.ble by_ 4096,Nat.beq zs.length n with
   |some (es2,wr),true,true,true=>match s with
    | .esl _=>match wrO ob wr d with
      |none=> .opt2 (Gb8 [] es2) fun es'=>(.suf d 0 0,wr++[(d,.buf 0 e n es')])
      |some _=> .bad
    | .suf r g off=>match wrO ob wr r with
      |some (.buf g' e' sz es)=>match Nat.beq g g',Nat.beq sz n,Nat.beq e e' with
       |true,true,true=> .opt2 (Gb8 (es.drop off) es2) fun es'=>(.suf r (g+1) 0,wr++[(r,.buf (g+1) e n es')])
       |_,_,_=> .bad
      |_=> .bad
    |_=> .bad
   |_,_,_,_=> .bad
  |_,_,_=> .bad
 |none=> .bad
def Ee5(ob:Nat->Option B9)(P:Program)(t:TypeId)(x:V):Res:=match P.underlying t with
 |some (.array n _)=> .ok (.d (.int .i64 n)) []
 |some .string=>match x with| .d (.str s)=> .ok (.d (.int .i64 s.length)) []|_=> .bad
 |some (.slice _)=>match x with
  | .d (.sl _ es)=> .ok (.d (.int .i64 es.length)) []
  | .esl _=> .ok (.d (.int .i64 0)) []
  | .suf r g off=>match ob r with
    |some (.buf g' _ _ es)=>match Nat.beq g g' with|true=> .ok (.d (.int .i64 (es.drop off).length)) []|false=> .bad
    |some (.fzs g' _ es)=>match Nat.beq g g' with|true=> .ok (.d (.int .i64 (es.drop off).length)) []|false=> .bad
    |_=> .bad
  | .osl r g _ len=>match ob r with
    |some (.buf g' _ _ _)=>match Nat.beq g g' with|true=> .ok (.d (.int .i64 len)) []|false=> .bad
    |some (.fzs g' _ _)=>match Nat.beq g g' with|true=> .ok (.d (.int .i64 len)) []|false=> .bad
    |_=> .bad
  |_=> .bad
 |some (.map _ _)=>match x with
  | .mp r=>match ob r with|some (.mapo _ _ _ es)=> .ok (.d (.int .i64 es.length)) []|_=> .bad
  | .d .nilm=> .ok (.d (.int .i64 0)) []
  |_=> .bad
 |_=> .bad
def mk2(l c:Int)(z:List Dat):Option (List (List Dat)):=bif decide (0<=l)&&decide (l<=c)&&decide (c<=2147483648) then some (List.replicate l.toNat z) else none
def Cq1(P:Program)(ob:Nat->Option B9)(d:Nat)(t:TypeId)(l c:V):Res:=match Ak3 P t,iv l,iv c with
 |some e,some l,some c=>match F9 P e,Bi1 P e,Db6 P e with
  |some n,some by_,some zs=>match W4 ob zs,Nat.beq zs.length n,Nat.ble 1 n,Nat.ble by_ 4096,ob d with
   |some (z,[]),true,true,true,none=> .opt2 (mk2 l c z) fun es=>(.suf d 0 0,[(d,.buf 0 e n es)])
   |_,_,_,_,_=> .bad
  |_,_,_=> .bad
 |_,_,_=> .bad
def Gp7:Dat->Dat->Bool
 | .int _ a,.int _ b=>decide (a=b)
 | .str a,.str b=>decide (a=b)
 | .bool a,.bool b=>match a,b with|true,true=>true|false,false=>true|_,_=>false
 |_,_=>false
def Gj9:List (Dat×List Dat)->Dat->Bool
 |[],_=>false
 |x::l,k=>match Gp7 x.1 k with|true=>true|false=>Gj9 l k
def Gx1:V->Bool
 | .agg _=>true
 |_=>false
def V3(ev:Operand->V):List (Nat×Operand)->List (Nat×V)
 |[]=>[]
 |(i,x)::l=>(i,ev x)::V3 ev l
def Dc2(ev:Operand->V):List Operand->List V
 |[]=>[]
 |x::l=>ev x::Dc2 ev l
def ptD(m:Nat)(ob:Nat->Option B9)(v:V):Option (Dat×Wr):=match Fs1 ob v with
 |some (.rp cs k,wr)=>match Nat.ble (k+m) cs.length with|true=>some (.pt ((cs.drop k).take m),wr)|false=>none
 |_=>none
def Fc5(m:Nat)(ob:Nat->Option B9)(us:List V):Option (List Dat×Wr):=match m with
 |0=>W4 ob us
 |_+1=>match us with
  |[u]=>match ptD m ob u with|some (x,wr)=>some ([x],wr)|none=>W4 ob us
  |_=>W4 ob us
def ptM(P:Program)(e:TypeId):Nat:=match P.underlying e with
 |some (.pointer t)=>match F9 P t with|some n=>n|none=>0
 |_=>0
def Bx9(P:Program)(m:Nat)(ob:Nat->Option B9)(n:Nat):Nat->List (Nat×V)->Option (List (List Dat)×Wr)
 |_,[]=>some ([],[])
 |i,(j,v)::l=>match Nat.beq i j,Ag0 v with
  |true,some us=>match Fc5 m ob us with
   |some (xs,wr)=>match Nat.beq xs.length n with
    |true=>match Bx9 P m (wrO ob wr) n (i+1) l with
     |some (es,wr')=>some (xs::es,wr++wr')
     |none=>none
    |false=>none
   |none=>none
  |_,_=>none
def Z6:Res->Res->Res
 | .bad,r=>r
 |r,_=>r
def R7(op:BinOp)(b:Bool):Res:=match op with
 | .eql=> .ok (.d (.bool b)) []
 | .neq=> .ok (.d (.bool (!b))) []
 |_=> .bad
def Fv8:V->V->Option Bool
 | .d .nilp,.d .nilp=>some true
 | .ptr _ _,.d .nilp=>some false
 | .rp _ _,.d .nilp=>some false
 | .d (.pt _),.d .nilp=>some false
 |_,_=>none
def Fx4:V->V->Bool
 | .ptr r k,.ptr s j=>match Nat.beq r s with|true=>Nat.beq k j|false=>false
 |_,_=>false
def Bo6(P:Program):List Field->Nat->List V->List V->Option Bool
 |[],_,[],[]=>some true
 |f::fs,i,.d (.int a m)::xs,.d (.int b n)::ys=>match Nat.beq f.offset i,P.underlying f.type,ikb a b,f.name== "_" with
  |true,some (.int k),true,false=>match ikb k a,Bo6 P fs (i+1) xs ys with
   |true,some r=>some ((m==n)&&r)
   |_,_=>none
  |_,_,_,_=>none
 |_,_,_,_=>none
def Ft8(P:Program)(op:BinOp)(t:TypeId)(x y:V)(yc:Bool):Res:=match P.underlying t with
 |some (.pointer e)=>match Fv8 x y with
  |some b=>R7 op b
  |none=>match Fx4 x y,F9 P e with|true,some (_+1)=>R7 op true|_,_=> .bad
 |some (.interface _)=>match x,y with
  | .d (.ife b),.d (.ife c)=>match c,yc with|false,true=>R7 op (!b)|_,_=> .bad
  |_,_=> .bad
 |some (.struct fs)=>match x,y with
  | .agg xs,.agg ys=>match Bo6 P fs.toList 0 xs ys,P.stoodInHeld t,P.eqGuardType P.depth t with
    |some b,false,false=>R7 op b
    |_,_,_=> .bad
  |_,_=> .bad
 |_=> .bad
def Cr4:Operand->Bool| .const (.slice none _ _)=>true|_=>false
def Da4(op:BinOp)(n:Nat):Res:=match op with
 | .eql=> .opt1 (chk (decide (0<n))) fun _=>(.d (.bool false),[])
 | .neq=> .opt1 (chk (decide (0<n))) fun _=>(.d (.bool true),[])
 |_=> .bad
def Bv8(P:Program)(ob:Nat->Option B9)(op:BinOp)(t:TypeId)(x:V)(yn:Bool):Res:=match yn,P.underlying t,x with
 |true,some (.slice _),.d (.sl _ es)=>Da4 op es.length
 |true,some (.slice _),.suf r g off=>match ob r with
  |some (.buf g' _ _ es)=>match Nat.beq g g' with|true=>Da4 op (es.drop off).length|false=> .bad
  |_=> .bad
 |_,_,_=> .bad
def Es2:List (List Dat)->Option (List UInt8)
 |[]=>some []
 |[.int .u8 x]::l=>match Es2 l with|some s=>some (x.toNat.toUInt8::s)|none=>none
 |_=>none
def Fl5(es:List (List Dat)):Option (List Dat):=match Es2 es with|some s=>some [.str s]|none=>none
def Bv7(P:Program)(ob:Nat->Option B9)(s t:TypeId)(v:V):Res:=match v with
 | .ptr r k=>match ob r,P.underlying s,P.underlying t with
   |some (.box _ cs),some (.pointer e),some .unsafePointer=>match F9 P e,Nat.blt k cs.length with
    |some (_+1),true=> .ok (.ptr r k) []
    |_,_=> .bad
   |some (.box te cs),some .unsafePointer,some (.pointer e)=>match F9 P e,liesAt P P.depth te (cs.length/P.cellsOf te) k e 1 with
    |some (_+1),true=> .ok (.ptr r k) []
    |_,_=> .bad
   |_,_,_=> .bad
 | .d (.str x)=>match P.underlying s,P.underlying t with
   |some _,some (.slice e)=>match P.underlying e with
    |some (.int .u8)=> .opt2 (some (x.map Aj9)) fun es=>(.d (.sl 1 es),[])
    |_=> .bad
   |_,_=> .bad
 |v=>match P.underlying s,P.underlying t with
  |some (.slice e),some .string=>match P.underlying e,Bu8 ob v with
   |some (.int .u8),some (.sl sz es,wr)=>match Nat.beq sz 1 with
    |true=> .opt1 (Fl5 es) fun x=>(match x with|[c]=> .d c|_=> .undef,wr)
    |false=> .bad
   |_,_=> .bad
  |_,_=> .bad
def Az8(ob:Nat->Option B9)(v:V):Res:=match v with
 | .suf r g off=>match ob r with
   |some (.buf g' _ _ es)=>match Nat.beq g g' with
    |true=> .opt1 (chk (decide (off<es.length))) fun _=>(.ept r g off 0,[])
    |false=> .bad
   |_=> .bad
 |_=> .bad
def usd(es:List (List Dat))(j:Nat)(m:Int):Option (List Dat):=bif decide (0<m)&&decide (j+m.toNat<=es.length)&&decide (m<=2147483648) then(match Es2 ((es.drop j).take m.toNat) with|some s=>some [.str s]|none=>none) else none
def Bw0(P:Program)(ob:Nat->Option B9)(pt:TypeId)(p n:V):Res:=match p,iv n,P.underlying pt with
 | .ept r g j k,some m,some (.pointer e)=>match ob r with
   |some (.buf g' e' sz es)=>match Nat.beq g g',Nat.beq e e',Nat.beq sz 1,Nat.beq k 0,Nat.beq (P.cellsOf e) 1 with
    |true,true,true,true,true=> .opt1 (usd es j m) fun x=>(match x with|[c]=> .d c|_=> .undef,[(r,.fzs g 1 es)])
    |_,_,_,_,_=> .bad
   |_=> .bad
 |_,_,_=> .bad
def Bn8(P:Program)(ob:Nat->Option B9)(d:Nat)(t:TypeId)(l c:V):Res:=match Ak3 P t,iv l,iv c with
 |some e,some l,some c=>match F9 P e,Bi1 P e,Db6 P e,P.underlying e,ob d with
  |some 1,some by_,some [.esl n],some (.slice e2),none=>match Nat.ble by_ 4096 with
   |true=> .opt2 (mk2 l c [.sl n []]) fun es=>(.suf d 0 0,[(d,.tree 0 e 1 [.o e2 n (List.replicate n .z)] es none)])
   |false=> .bad
  |_,_,_,_,_=> .bad
 |_,_,_=> .bad
def Cp9(ob:Nat->Option B9)(P:Program)(t:TypeId)(x:V):Res:=match P.underlying t,x with
 |some (.slice _),.suf r g off=>match ob r with
  |some (.tree g' _ _ _ es _)=>match Nat.beq g g' with|true=> .ok (.d (.int .i64 (es.drop off).length)) []|false=> .bad
  |_=> .bad
 |_,_=> .bad
def Av1(P:Program)(ob:Nat->Option B9)(t:TypeId)(x i:V):Res:=match iv i,x with
 |some i,.suf r g off=>match Ak3 P t with
  |some e=>match F9 P e,ob r with
   |some n,some (.tree g' _ sz _ es (some (jj,_)))=>match Nat.beq g g',Nat.beq n sz with
    |true,true=> .opt1 (chk (decide (0<=i)&&(decide (off+i.toNat=jj)&&decide (jj<es.length)))) fun _=>(.ept r g jj 0,[])
    |_,_=> .bad
   |_,_=> .bad
  |none=> .bad
 |_,_=> .bad
def Bn7(P:Program)(ob:Nat->Option B9)(t:TypeId)(p:V):Res:=match szT P t,p with
 |some (n,ag),.ept r g j k=>match ob r with
  |some (.tree g' _ sz _ es (some (jj,cs)))=>match Nat.beq g g',Nat.ble (k+n) cs.length,Nat.beq cs.length sz with
   |true,true,true=> .opt1 (chk (decide (j=jj)&&decide (jj<es.length))) fun _=>(mkV ag ((cs.drop k).take n),[])
   |_,_,_=> .bad
  |_=> .bad
 |_,_=> .bad
def Av2(P:Program)(ob:Nat->Option B9)(t:TypeId)(p v:V):Res:=match F9 P t,p,Ag0 v with
 |some n,.ept r g j k,some us=>match ob r with
  |some (.tree g' e sz shs es (some (jj,cs)))=>match Nat.beq g g',Nat.ble (k+n) cs.length,Nat.beq cs.length sz,Nat.beq us.length n with
   |true,true,true,true=> .opt1 (chk (decide (j=jj)&&decide (jj<es.length))) fun _=>(.undef,[(r,.tree g e sz shs es (some (jj,Ei7 cs k us)))])
   |_,_,_,_=> .bad
  |_=> .bad
 |_,_,_=> .bad
def Av0(P:Program)(ob:Nat->Option B9)(d:Nat)(t:TypeId)(n:Nat)(ev:Operand->V)(ps:List (Nat×Operand)):Res:=match Ak3 P t with
 |some e=>match F9 P e,Bd8 P e,n,V3 (fun x=>Af4 P e (ev x)) ps with
  |some sz,some _,1,[(0,v)]=>match Ag0 v,ob d with
   |some cs,none=>match Nat.beq cs.length sz,Nat.ble 1 sz,Nat.ble sz 65536 with
    |true,true,true=> .ok (.suf d 0 0) [(d,.tree 0 e sz [] [[]] (some (0,cs)))]
    |_,_,_=> .bad
   |_,_=> .bad
  |_,_,_,_=> .bad
 |none=> .bad
def Gl3(ob:Nat->Option B9):List V->List Sh
 |[]=>[]
 |v::l=>(match v with
  | .suf r _ _=>match ob r with|some (.tree _ e sz cs _ _)=> .o e sz cs|_=> .z
  |_=> .z)::Gl3 ob l
def Ak4(P:Program)(ob:Nat->Option B9)(d:Nat)(t t2:TypeId)(s x:V):Res:=match Ak3 P t,x with
 |some e,.suf rt gt 0=>match F9 P e,Bi1 P e,Bd8 P e,ob rt with
  |some n,some by_,some zs,some (.tree gt' e2 sz2 _ [_] (some (0,cs)))=>match Nat.beq t t2,Nat.beq gt gt',Nat.beq e e2,Nat.beq sz2 n,Nat.ble 1 n,Nat.ble by_ 4096,Nat.beq zs.length n with
   |true,true,true,true,true,true,true=>match s with
    | .esl _=>match ob d with
      |none=> .ok (.suf d 0 0) [(d,.tree 0 e n (Gl3 ob cs) [[]] (some (0,cs)))]
      |some _=> .bad
    | .suf r g 0=>match ob r,Nat.beq r rt with
      |some (.tree g' e' sz shs es none),false=>match Nat.beq g g',Nat.beq sz n,Nat.beq e e',Nat.blt (g+1) 1000000 with
       |true,true,true,true=> .opt1 (chk (decide (es.length+1<=2147483648))) fun _=>(.suf r (g+1) 0,[(r,.tree (g+1) e n shs (es++[[]]) (some (es.length,cs)))])
       |_,_,_,_=> .bad
      |_,_=> .bad
    |_=> .bad
   |_,_,_,_,_,_,_=> .bad
  |_,_,_,_=> .bad
 |_,_=> .bad
def Au9(P:Program)(ob:Nat->Option B9)(d:Nat)(t:TypeId)(n:Nat)(ev:Operand->V)(ps:List (Nat×Operand)):Res:=match Ak3 P t with
 |some e=>match F9 P e,Bd8 P e with
  |some sz,some zs=>match Bx9 P (ptM P e) ob sz 0 (V3 (fun x=>Af4 P e (ev x)) ps),Nat.beq ps.length n,Nat.ble 1 sz,Nat.ble (n*sz) 65536,Nat.beq zs.length sz with
   |some (es,wr),true,true,true,true=>match wrO ob wr d with
    |none=>match n with
     |0=> .ok (.esl sz) []
     |_=> .ok (.suf d 0 0) (wr++[(d,.buf 0 e sz es)])
    |some _=> .bad
   |_,_,_,_,_=> .bad
  |_,_=> .bad
 |none=> .bad
def L3(P:Program)(ob:Nat->Option B9)(d:Nat)(ty:TypeId)(ev:Operand->V):Op->Res
 | .move x| .assign x=> .ok (Af4 P ty (ev x)) []
 | .pick c x y=>match ev c with
   | .d (.bool b)=>match b with|true=> .ok (ev x) []|false=> .ok (ev y) []
   |_=> .bad
 | .alloc t=>match Db6 P t,ob d with
   |some zs,none=> .ok (.ptr d 0) [(d,.box t zs)]
   |_,_=> .bad
 | .box t x=>match Ag0 (ev x),ob d with
   |some cs,none=> .ok (.ptr d 0) [(d,.box t cs)]
   |_,_=> .bad
 | .build t ps=>match Db6 P t,Er6 P t with
   |some zs,some pl=>match Az7 pl zs (V3 ev ps.toList) with
    |some cs=> .ok (.agg cs) []
    |none=> .bad
   |_,_=> .bad
 | .buildSlice t n ps=>Z6 (Au9 P ob d t n ev ps.toList) (Av0 P ob d t n ev ps.toList)
 | .load t x=>Z6 (Cq0 P ob t (ev x)) (Bn7 P ob t (ev x))
 | .store t x y=>Z6 (Av2 P ob t (ev x) (Af4 P t (ev y))) (Bo0 P ob t (ev x) (Af4 P t (ev y)))
 | .nilCheck x=>match ev x with
   | .ptr r k=> .ok (.ptr r k) []
   | .rp cs k=> .ok (.rp cs k) []
   | .d (.pt cs)=> .ok (.rp cs 0) []
   | .ept r g j k=>match ob r with
     |some (.buf g' _ _ _)=>match Nat.beq g g' with|true=> .ok (.ept r g j k) []|false=> .bad
     |some (.tree g' _ _ _ _ _)=>match Nat.beq g g' with|true=> .ok (.ept r g j k) []|false=> .bad
     |_=> .bad
   |_=> .bad
 | .binOp op t x y _=>Z6 (Ee3 P op t (ev x) (ev y) (Ac1 y)) (Z6 (Ft8 P op t (ev x) (ev y) (Ac1 y)) (Bv8 P ob op t (ev x) (Cr4 y)))
 | .unOp op _ x=>match op,ev x with
   | .not,.d (.bool b)=> .ok (.d (.bool (!b))) []
   | .neg,.d (.int k n)=> .ok (.d (.int k (k.wrap (0-n)))) []
   |_,_=> .bad
 | .convert s t x=>Z6 (match ev x,P.underlying s,P.underlying t with
   | .d (.int _ n),some _,some (.int k)=> .ok (.d (.int k (k.wrap n))) []
   |_,_,_=> .bad) (Bv7 P ob s t (ev x))
 | .makeInterface t _=>match P.underlying t with
   |some (.interface _)=> .bad
   |some _=> .ok (.d (.ife true)) []
   |none=> .bad
 | .makeFunc (.func f) first cap=> .ok (.fn f (Dc2 ev first.toList) (Dc2 ev cap.toList)) []
 | .makeSlice t l c=>Z6 (Bn8 P ob d t (ev l) (ev c)) (Cq1 P ob d t (ev l) (ev c))
 | .slice t x lo hi none=>match lo,hi with
   |some l,some h=>match iv (ev l),iv (ev h) with|some l,some h=>Ab9 P ob t (ev x) (some l) (some h)|_,_=> .bad
   |some l,none=>match iv (ev l) with|some l=>Ab9 P ob t (ev x) (some l) none|none=> .bad
   |none,some h=>match iv (ev h) with|some h=>Ab9 P ob t (ev x) none (some h)|none=> .bad
   |none,none=>Ab9 P ob t (ev x) none none
 | .slice t x none (some h) (some m)=>match iv (ev h),iv (ev m) with|some h,some m=>Ak6 P t (ev x) h m|_,_=> .bad
 | .fieldAddr t x i=>match ev x,Dn8 P t i with
   | .ptr r k,some off=> .ok (.ptr r (k+off)) []
   | .rp cs k,some off=> .ok (.rp cs (k+off)) []
   | .ept r g j k,some off=>match ob r with
     |some (.buf g' _ _ _)=>match Nat.beq g g' with|true=> .ok (.ept r g j (k+off)) []|false=> .bad
     |some (.tree g' _ _ _ _ _)=>match Nat.beq g g' with|true=> .ok (.ept r g j (k+off)) []|false=> .bad
     |_=> .bad
   |_,_=> .bad
 | .field t x i=>match ev x,P.underlying t with
   | .agg cs,some (.struct fs)=>match fs[i]? with
     |some f=>match szT P f.type with
      |some (n,ag)=>match Nat.ble (f.offset+n) cs.length with
       |true=> .ok (mkV ag ((cs.drop f.offset).take n)) []
       |false=> .bad
      |_=> .bad
     |none=> .bad
   |_,_=> .bad
 | .indexAddr t x i=>Z6 (Y4 P ob t (ev x) (ev i) (Ac1 i)) (Av1 P ob t (ev x) (ev i))
 | .index t x i=>Ch5 P t (ev x) (ev i) (Ac1 i)
 | .extract x i=>match ev x with
   | .tup vs=>match vs[i]? with|some v=> .ok v []|none=> .bad
   |_=> .bad
 | .call c=>match c.callee with
   | .builtin .len=>match c.args.toList,c.argTypes.toList with
     |[x],[t]=>Z6 (Ee5 ob P t (ev x)) (Cp9 ob P t (ev x))
     |_,_=> .bad
   | .builtin .append=>match c.args.toList,c.argTypes.toList with
     |[s,x],[t,t2]=>Z6 (Au8 P ob d t t2 (ev s) (ev x)) (Ak4 P ob d t t2 (ev s) (ev x))
     |_,_=> .bad
   | .builtin .min=>match Dc2 ev c.args.toList with
     |[.d (.int k m),.d (.int k' n)]=>match ikb k k' with|true=> .ok (.d (.int k (bif decide (n<m) then n else m))) []|false=> .bad
     |_=> .bad
   | .builtin .max=>match Dc2 ev c.args.toList with
     |[.d (.int k m),.d (.int k' n)]=>match ikb k k' with|true=> .ok (.d (.int k (bif decide (n>m) then n else m))) []|false=> .bad
     |_=> .bad
   | .builtin .unsafeSliceData=>match c.args.toList with
     |[x]=>Az8 ob (ev x)
     |_=> .bad
   | .builtin .unsafeString=>match c.args.toList,c.argTypes.toList with
     |[x,n],[pt,_]=>Bw0 P ob pt (ev x) (ev n)
     |_,_=> .bad
   | .value f=>match ev f with
     | .fn g first cap=> .call g (first++Dc2 ev c.args.toList++cap)
     | .d (.fnc g)=> .call g (Dc2 ev c.args.toList)
     |_=> .bad
   |_=> .bad
 |_=> .bad
end
section
def Res.Good(G:V->Wr->Prop):Res->Prop
 | .ok v wr=>G v wr
 | .opt1 o k=>∀x,o=some x->G (k x).1 (k x).2
 | .opt2 o k=>∀x,o=some x->G (k x).1 (k x).2
 |_=>True
section
variable {M:Mem} {ρ:Rho}
theorem I6{x:Dat}{u:Value}(h:B8 M ρ (.d x) u):T7 M x u:=by simpa[B8] using h
theorem O9{k:IntKind}{n:Int}{u:Value}(h:B8 M ρ (.d (.int k n)) u):u= .int k n:=by cases I6 h;rfl
theorem P7{b:Bool}{u:Value}(h:B8 M ρ (.d (.bool b)) u):u= .bool b:=by cases I6 h;rfl
theorem P0{s:List UInt8}{u:Value}(h:B8 M ρ (.d (.str s)) u):u=Z9 s:=by cases I6 h;rfl
theorem K9{k:IntKind}{n:Int}:B8 M ρ (.d (.int k n)) (.int k n):=by simp only[B8];constructor
theorem S6{b:Bool}:B8 M ρ (.d (.bool b)) (.bool b):=by simp only[B8];constructor
theorem By5{s:List UInt8}:B8 M ρ (.d (.str s)) (Z9 s):=by simp only[B8];constructor
theorem Eh5{vs:List V}{u:Value}(h:B8 M ρ (.tup vs) u):∃us,u= .tuple us.toArray/\B2 M ρ vs us:=by simpa[B8] using h
theorem Ae8{vs:List V}{u:Value}(h:B8 M ρ (.agg vs) u):∃us,u= .agg us.toArray/\B2 M ρ vs us:=by simpa[B8] using h
theorem Dr6{vs:List V}{us:List Value}(h:B2 M ρ vs us):B8 M ρ (.agg vs) (.agg us.toArray):=by simp only[B8];exact⟨us,rfl,h⟩
theorem J6{r k:Nat}{u:Value}(h:B8 M ρ (.ptr r k) u):∃i,ρ r=some i/\i.fix=true/\u= .pointer (some ⟨i.b,k,none⟩):=by simpa[B8] using h
theorem Ad1{cs:List Dat}{k:Nat}{u:Value}(h:B8 M ρ (.rp cs k) u):∃b o us,u= .pointer (some ⟨b,o+k,none⟩)/\V7 M b o us/\C9 M cs us:=by simpa[B8] using h
theorem B2.len:∀{vs:List V} {us:List Value},B2 M ρ vs us->us.length=vs.length
 |[],_,h=>by simp only[B2]at h;rw[h];rfl
 |_::_,_,h=>by simp only[B2]at h;obtain⟨u,us',e,_,h2⟩:=h;rw[e,length_cons,length_cons,h2.len]
theorem B2.get:∀{vs:List V} {us:List Value},B2 M ρ vs us->∀{j:Nat} {v:V},vs[j]? =some v->∃u,us[j]? =some u/\B8 M ρ v u
 |[],_,_,_,_,h=>by cases h
 |x::_,_,h,j,v,hv=>by
  simp only[B2]at h;obtain⟨u,us',rfl,h1,h2⟩:=h;cases j with
  |zero=>simp at hv;subst hv;exact⟨u,rfl,h1⟩
  |succ j=>simp at hv;obtain⟨y,h3,h4⟩:=h2.get hv;exact⟨y,by simpa using h3,h4⟩
theorem B2.append:∀{xs ys:List V} {us vs:List Value},B2 M ρ xs us->B2 M ρ ys vs->B2 M ρ (xs++ys) (us++vs)
 |[],_,_,_,h,k=>by simp only[B2]at h;rw[h];exact k
 |_::_,_,_,_,h,k=>by
  simp only[B2]at h;obtain⟨u,us',rfl,h1,h2⟩:=h;show B2 M ρ (_::(_++_)) _;simp only[B2];exact⟨u,us'++_,rfl,h1,h2.append k⟩
theorem B2.take:∀{xs:List V} {us:List Value} (n:Nat),B2 M ρ xs us->B2 M ρ (xs.take n) (us.take n)
 |_,_,0,_=>by simp[B2]
 |[],_,n+1,h=>by simp only[B2]at h;rw[h];simp[B2]
 |_::_,_,n+1,h=>by
  simp only[B2]at h;obtain⟨u,us',rfl,h1,h2⟩:=h;simp only[take_succ_cons,B2];exact⟨u,us'.take n,rfl,h1,h2.take n⟩
theorem B2.drop:∀{xs:List V} {us:List Value} (n:Nat),B2 M ρ xs us->B2 M ρ (xs.drop n) (us.drop n)
 |_,_,0,h=>h
 |[],_,n+1,h=>by simp only[B2]at h;rw[h];simp[B2]
 |_::_,_,n+1,h=>by
  simp only[B2]at h;obtain⟨u,us',rfl,h1,h2⟩:=h;exact h2.drop n
theorem B2.dV:∀{xs:List Dat} {us:List Value},C9 M xs us->B2 M ρ (dV xs) us
 |[],_,h=>by simp only[Kx.dV,B2];exact h
 |_::_,_,⟨u,us',e,h1,h2⟩=>by simp only[Kx.dV,B2,B8];exact⟨u,us',e,h1,B2.dV h2⟩
theorem Ci6:∀{v:V} {u:Value},isC v=true->B8 M ρ v u->u.oneCell'=true
 | .d x,u,_,h=>(I6 h).one
 | .rp cs k,u,_,h=>by obtain⟨b,o,us,rfl,_⟩:=Ad1 h;rfl
 | .ptr r k,u,_,h=>by obtain⟨i,_,_,rfl⟩:=J6 h;rfl
 | .suf r g off,u,_,h=>by simp only[B8]at h;obtain⟨i,_,_,h1,_⟩:=h;exact h1
 | .osl r g off len,u,_,h=>by simp only[B8]at h;obtain⟨i,_,_,h1,_⟩:=h;exact h1
 | .ept r g j k,u,_,h=>by simp only[B8]at h;obtain⟨i,_,_,h1,_⟩:=h;exact h1
 | .esl _,u,_,h=>by simp only[B8]at h;obtain⟨a,rfl⟩:=h;rfl
 | .mp r,u,_,h=>by simp only[B8]at h;obtain⟨i,_,_,rfl⟩:=h;rfl
 | .yl r,u,_,h=>by simp only[B8]at h;obtain⟨i,_,_,rfl⟩:=h;rfl
 | .fn f a b,u,_,h=>by simp only[B8]at h;obtain⟨fs,cs,rfl,_⟩:=h;rfl
 | .agg _,_,h,_=>by cases h
 | .tup _,_,h,_=>by cases h
 | .undef,_,h,_=>by cases h
 | .un,_,h,_=>by cases h
theorem Bl7:∀{vs:List V} {us:List Value},Fk4 vs=true->B2 M ρ vs us->∀u∈us,u.oneCell'=true
 |[],us,_,h,u,hu=>by simp only[B2]at h;rw[h]at hu;cases hu
 |v::vs,us,hc,h,x,hx=>by
  simp only[B2]at h;obtain⟨u,us',rfl,h1,h2⟩:=h;unfold Fk4 at hc;split at hc
  .rename_i hv;rcases mem_cons.1 hx with rfl|hx
   .exact Ci6 hv h1
   .exact Bl7 hc h2 x hx
  .cases hc
theorem O2{v:V}{cs:List V}{u:Value}(hc:Ag0 v=some cs)(h:B8 M ρ v u):∃us,u.cells=us.toArray/\B2 M ρ cs us/\(∀u∈us,u.oneCell'=true):=by
 have one:∀{v:V},isC v=true->B8 M ρ v u->∃us,u.cells=us.toArray/\B2 M ρ [v] us/\(∀u∈us,u.oneCell'=true):=fun{v} hv h=>
  ⟨[u],by rw[Bp3 (Ci6 hv h)],by simp only[B2];exact⟨u,[],rfl,h,rfl⟩,fun x hx=>by simp at hx;subst hx;exact Ci6 hv h⟩
 cases v with
 |agg l=>
  obtain⟨us,rfl,h1⟩:=Ae8 h;simp only[Ag0]at hc;split at hc
  .rename_i ha;cases hc;exact⟨us,rfl,h1,Bl7 ha h1⟩
  .cases hc
 |tup=>cases hc
 |undef=>cases hc
 |un=>cases hc
 |_=>cases hc;exact one rfl h
theorem Y7{ag:Bool}{cs:List V}{us:List Value}{_n:Nat}(h:B2 M ρ cs us):(ag=false->us.length=1)->B8 M ρ (mkV ag cs) (mkv ag us):=by
 intro h1;cases ag with
 |true=>exact Dr6 h
 |false=>
  have:=h1 rfl
  match us,cs,this,h with
  |[u],[c],_,h=>simp only[B2]at h;obtain⟨_,_,e,h2,_⟩:=h;simp at e;obtain⟨rfl,_⟩:=e;exact h2
  |[u],[],_,h=>simp only[B2]at h;cases h
  |[u],_::_::_,_,_=>simp only[mkV,B8]
end
section
variable {r:Option Nat} {P:Program} {a:Act} {w wl:World} {S:L8} {M0 M:Mem} {ρ:Rho} {ob:Nat->Option B9} {ev:Operand->V} {d:Nat} {ty:TypeId} {op:Op}
def D5(r:Option Nat)(P:Program)(a:Act)(op:Op)(S:L8)(wl:World)(M0 M:Mem)(ρ:Rho)(ob:Nat->Option B9)(w:World)(v:V)(wr:Wr):Prop:=
 Eff r P a op w (fun u w'=>∃M' ρ',Rle M M' ρ ρ'/\Ow S wl M0 M' ρ' (wrO ob wr) w'/\B8 M' ρ' v u)
theorem D5.val(h:Ow S wl M0 M ρ ob w){u:Value}{v:V}(hr:Run P a op w u w)(hd:Ai3 op=false)(hv:B8 M ρ v u):D5 r P a op S wl M0 M ρ ob w v []:=
 Eff.of_run hr hd ⟨M,ρ,Rle.refl _ _,h,hv⟩
theorem Ee0{c x y:Operand}(h:Ow S wl M0 M ρ ob w)(hev:∀x,B8 M ρ (ev x) (a.eval x)):(L3 P ob d ty ev (.pick c x y)).Good (D5 r P a (.pick c x y) S wl M0 M ρ ob w):=by
 simp only[L3];split
 .rename_i b hb;have hc:=hev c;rw[hb]at hc;cases b with
  |true=>exact D5.val h (Db0 (P7 hc) rfl rfl) rfl (hev x)
  |false=>exact D5.val h (Da9 (P7 hc) rfl rfl) rfl (hev y)
 .trivial
theorem Ee1{o:UnOp}{t:TypeId}{x:Operand}(h:Ow S wl M0 M ρ ob w)(hev:∀x,B8 M ρ (ev x) (a.eval x)):(L3 P ob d ty ev (.unOp o t x)).Good (D5 r P a (.unOp o t x) S wl M0 M ρ ob w):=by
 simp only[L3];have hx:=hev x;split
 .rename_i b hb;rw[hb]at hx;exact D5.val h (Fh1 (P7 hx)) rfl S6
 .rename_i k n hb;rw[hb]at hx;exact D5.val h (Fh0 (O9 hx)) rfl K9
 .trivial
theorem Ch0{s t:TypeId}{x:Operand}(h:Ow S wl M0 M ρ ob w)(hev:∀x,B8 M ρ (ev x) (a.eval x)):(match ev x,P.underlying s,P.underlying t with
 | .d (.int _ n),some _,some (.int k)=>Res.ok (.d (.int k (k.wrap n))) []
 |_,_,_=> .bad).Good (D5 r P a (.convert s t x) S wl M0 M ρ ob w):=by
 have hx:=hev x;split
 .rename_i k n sd k' hb hs ht;rw[hb]at hx;exact D5.val h (Ei4 (O9 hx) hs ht) rfl K9
 .trivial
theorem Ch2{x:Operand}{i:Nat}(h:Ow S wl M0 M ρ ob w)(hev:∀x,B8 M ρ (ev x) (a.eval x)):(L3 P ob d ty ev (.extract x i)).Good (D5 r P a (.extract x i) S wl M0 M ρ ob w):=by
 simp only[L3];have hx:=hev x;split
 .rename_i vs hb;rw[hb]at hx;split
  .rename_i v hv;obtain⟨us,he,hr⟩:=Eh5 hx;obtain⟨u,h1,h2⟩:=hr.get hv;exact D5.val h (Ck1 he h1) rfl h2
  .trivial
 .trivial
theorem Ae1{xs:List Operand}(hev:∀x,B8 M ρ (ev x) (a.eval x)):B2 M ρ (Dc2 ev xs) (xs.map a.eval):=by
 induction xs with
 |nil=>simp only[Dc2,B2,map_nil]
 |cons x xs ih=>simp only[Dc2,B2,map_cons];exact⟨_,_,rfl,hev x,ih⟩
theorem Bv3{fn:Fn}{first cap:Array Operand}(h:Ow S wl M0 M ρ ob w)(hev:∀x,B8 M ρ (ev x) (a.eval x)):(L3 P ob d ty ev (.makeFunc fn first cap)).Good (D5 r P a (.makeFunc fn first cap) S wl M0 M ρ ob w):=by
 cases fn with
 |func f=>
  simp only[L3,Res.Good];refine D5.val h (Ca4 (fs:=first.toList.map a.eval) (cs:=cap.toList.map a.eval) (bh_ (by rw[cv_])) (bh_ (by rw[cv_]))) rfl ?_;simp only[B8];exact⟨_,_,rfl,Ae1 hev,Ae1 hev⟩
 |_=>trivial
theorem J5{b:Bool}{x:List Dat}(h:chk b=some x):b=true:=by
 cases b with
 |true=>rfl
 |false=>cases h
theorem Dm7{o:BinOp}{t t':TypeId}{x y:Operand}{k:IntKind}{m n:Int}{yc:Bool}(h:Ow S wl M0 M ρ ob w)(hx:a.eval x= .int k m)(hy:a.eval y= .int k n):
 (Ee4 o k m n yc).Good (D5 r P a (.binOp o t x y t') S wl M0 M ρ ob w):=by
 have big:∀v,Fd7 o k m n=some v->∀v',B8 M ρ v' v->D5 r P a (.binOp o t x y t') S wl M0 M ρ ob w v' []:=fun v hv v' hr=>D5.val h (Fg8 hx hy hv) rfl hr
 unfold Ee4;cases o<;>dsimp only<;>first|trivial|exact big _ rfl _ K9|exact big _ rfl _ S6|skip
 .cases yc with
  |true=>
   dsimp only;split
   .rename_i hn;exact D5.val h (Dv4 hx hy (of_decide_eq_true hn)) rfl K9
   .trivial
  |false=>intro z hz;exact D5.val h (Dv4 hx hy (of_decide_eq_true (J5 hz))) rfl K9
 .cases yc with
  |true=>
   dsimp only;split
   .rename_i hn;exact D5.val h (Dv5 hx hy (of_decide_eq_true hn)) rfl K9
   .trivial
  |false=>intro z hz;exact D5.val h (Dv5 hx hy (of_decide_eq_true (J5 hz))) rfl K9
theorem Ch1{o:BinOp}{t t':TypeId}{x y:Operand}{k k':IntKind}{m n:Int}{yc:Bool}(hs:Dq1 o=true)(h:Ow S wl M0 M ρ ob w)(hx:a.eval x= .int k m)(hy:a.eval y= .int k' n):
 (Bn9 o k m n yc).Good (D5 r P a (.binOp o t x y t') S wl M0 M ρ ob w):=by
 have key:0<=n->D5 r P a (.binOp o t x y t') S wl M0 M ρ ob w (shV o k m n) []:=fun hn=>by
  cases o<;>first|cases hs|skip
  .exact D5.val h (Fh2 hx hy hn) rfl K9
  .exact D5.val h (Fh3 hx hy hn) rfl K9
 unfold Bn9;cases yc with
 |true=>
  dsimp only;split
  .rename_i hn;exact key (of_decide_eq_true hn)
  .trivial
 |false=>intro z hz;exact key (of_decide_eq_true (J5 hz))
theorem Cv1(s:List UInt8):(⟨s.toArray⟩:ByteArray).size=s.length:=rfl
theorem Db4(s u:List UInt8):(⟨s.toArray⟩:ByteArray)++⟨u.toArray⟩=⟨(s++u).toArray⟩:=by
 apply ByteArray.ext;simp[ByteArray.data_append]
theorem Ck6{t t':TypeId}{x y:Operand}{s u:List UInt8}(hx:a.eval x=Z9 s)(hy:a.eval y=Z9 u)(hl:s.length+u.length<=4611686018427387904):Run P a (.binOp .add t x y t') w (Z9 (s++u)) w:=by
 intro d ty pos aft g;have:¬(((⟨s.toArray⟩:ByteArray).size+(⟨u.toArray⟩:ByteArray).size:Nat):Int)>i64.max:=by
  rw[Cv1,Cv1];simp[IntKind.max,IntKind.signed,IntKind.bits];omega
 simp[execOp,hx,hy,Z9,eqGuard,binOp,Op.stringOp,Db4];show(s.length:Int)+(u.length:Int)<=9223372036854775807;omega
end
end
section
section
variable {r:Option Nat} {P:Program} {a:Act} {w wl:World} {S:L8} {M0 M:Mem} {ρ:Rho} {ob:Nat->Option B9} {ev:Operand->V} {d:Nat} {ty:TypeId} {op:Op}
theorem Ck7{t t':TypeId}{x y:Operand}{s u:List UInt8}(hx:a.eval x=Z9 s)(hy:a.eval y=Z9 u):Run P a (.binOp .eql t x y t') w (.bool (s==u)) w:=by
 intro d ty pos aft g;simp[execOp,hx,hy,Z9,eqGuard,binOp,Op.stringOp]
theorem Ck8{t t':TypeId}{x y:Operand}{s u:List UInt8}(hx:a.eval x=Z9 s)(hy:a.eval y=Z9 u):Run P a (.binOp .neq t x y t') w (.bool (!(s==u))) w:=by
 intro d ty pos aft g;simp[execOp,hx,hy,Z9,eqGuard,binOp,Op.stringOp]
theorem Dm2{o:BinOp}{t t':TypeId}{x y:Operand}(h:Ow S wl M0 M ρ ob w)(hev:∀x,B8 M ρ (ev x) (a.eval x)):(Ee3 P o t (ev x) (ev y) (Ac1 y)).Good (D5 r P a (.binOp o t x y t') S wl M0 M ρ ob w):=by
 have hx:=hev x;have hy:=hev y;generalize ev x=vx at*;generalize ev y=vy at*;unfold Ee3;split
 .have hx:=O9 hx;have hy:=O9 hy;split
  .rename_i hs;exact Ch1 hs h hx hy
  .split
   .rename_i hk;obtain rfl:=Bx3 hk;exact Dm7 h hx hy
   .trivial
 .have hx:=P7 hx;have hy:=P7 hy;split
  .rename_i ht;split
   .exact D5.val h (Fg7 hx hy ht) rfl S6
   .exact D5.val h (Fg9 hx hy ht) rfl S6
   .trivial
  .trivial
 .have hx:=P0 hx;have hy:=P0 hy;split
  .intro z hz;exact D5.val h (Ck6 hx hy (of_decide_eq_true (J5 hz))) rfl By5
  .exact D5.val h (Ck7 hx hy) rfl S6
  .exact D5.val h (Ck8 hx hy) rfl S6
  .trivial
 .trivial
theorem I1{a b:Nat}(h:Nat.ble a b=true):a<=b:=Nat.le_of_ble_eq_true h
theorem W6{us cs:List Value}{k n:Nat}(h:us=(cs.drop k).take n){j:Nat}{v:Value}(hj:us[j]? =some v):cs[k+j]? =some v:=by
 subst h;rw[getElem?_take]at hj;split at hj
 .rwa [getElem?_drop]at hj
 .cases hj
theorem Ow.box_heap{te:TypeId}(h:Ow S wl M0 M ρ ob w){r:Nat}{cs:List V}(hr:ob r=some (.box te cs)){i:Inf}(hi:ρ r=some i):∃us e,w.heap[i.b]? =some (.cells us.toArray e (0,0))/\B2 M ρ cs us/\(∀u∈us,u.oneCell'=true)/\e=te:=by
 obtain⟨j,h1,h2⟩:=h.own r _ hr;rw[hi]at h1;cases h1;exact h2.2.2
theorem V5{M:Mem}{ρ:Rho}{x:Dat}{u:Value}(h:T7 M x u):B8 M ρ (.d x) u:=by simp only[B8];exact h
theorem P2{α:Type}{cs:List α}{k n:Nat}(h:k+n<=cs.length):((cs.drop k).take n).length=n:=by simp;omega
theorem Ef5{te t:TypeId}{x:Operand}(h:Ow S wl M0 M ρ ob w){n:Nat}{ag:Bool}(hz:szT P t=some (n,ag)){rr k:Nat}{cs:List V}(hx:B8 M ρ (.ptr rr k) (a.eval x))(hr:ob rr=some (.box te cs))(hl:k+n<=cs.length):
 D5 r P a (.load t x) S wl M0 M ρ ob w (mkV ag ((cs.drop k).take n)) []:=by
 obtain⟨hs,ha,h1⟩:=U4 hz;obtain⟨i,hi,hf,hp⟩:=J6 hx;obtain⟨us,e,hw,hrel,_⟩:=h.box_heap hr hi;have hlen:=hrel.len;have hu:((us.drop k).take n).length=n:=P2 (by omega);refine D5.val h (run_load (vs:=(us.drop k).take n) hp ha (by rw[hu];exact hs) (fun e=>by rw[hu];exact h1 e) (fun j v hj=> ?_)) rfl (Y7 (_n:=n) ((hrel.drop k).take n) (fun e=>by rw[hu];exact h1 e));have:=W6 rfl hj;simp[World.cell?,hw,this]
theorem Ef7{t:TypeId}{x:Operand}(h:Ow S wl M0 M ρ ob w){n:Nat}{ag:Bool}(hz:szT P t=some (n,ag)){rr k:Nat}{cs:List V}(hx:B8 M ρ (.ptr rr k) (a.eval x))(hr:ob rr=some (.fzb cs))(hl:k+n<=cs.length):
 D5 r P a (.load t x) S wl M0 M ρ ob w (mkV ag ((cs.drop k).take n)) []:=by
 obtain⟨hs,ha,h1⟩:=U4 hz;obtain⟨i,hi,hf,hp⟩:=J6 hx;obtain⟨j,hj,_,c,us,hM,hP,hrel,_⟩:=h.own rr _ hr;rw[hi]at hj;cases hj;have hlen:=hrel.len;have hu:((us.drop k).take n).length=n:=P2 (by omega);refine D5.val h (run_load (vs:=(us.drop k).take n) hp ha (by rw[hu];exact hs) (fun e=>by rw[hu];exact h1 e) (fun j v hj=> ?_)) rfl (Y7 (_n:=n) ((hrel.drop k).take n) (fun e=>by rw[hu];exact h1 e));exact h.sits.cell hM (hP _ _ (by simpa using W6 rfl hj))
theorem Fe0{t:TypeId}{x:Operand}(h:Ow S wl M0 M ρ ob w){n:Nat}{ag:Bool}(hz:szT P t=some (n,ag)){b o k:Nat}{cs:List Dat}{us:List Value}(hx:a.eval x= .pointer (some ⟨b,o+k,none⟩))(hc:V7 M b o us)(hrel:C9 M cs us)(hl:k+n<=cs.length):
 D5 r P a (.load t x) S wl M0 M ρ ob w (mkV ag (dV ((cs.drop k).take n))) []:=by
 obtain⟨hs,ha,h1⟩:=U4 hz;have hlen:=hrel.len;have hu:((us.drop k).take n).length=n:=P2 (by omega);refine D5.val h (run_load (vs:=(us.drop k).take n) hx ha (by rw[hu];exact hs) (fun e=>by rw[hu];exact h1 e) (fun j v hj=> ?_)) rfl (Y7 (_n:=n) (B2.dV ((hrel.drop k).take n)) (fun e=>by rw[hu];exact h1 e));have:=hc.cell h.sits (W6 rfl hj)
 rwa [<-Nat.add_assoc]at this
theorem Ow.buf_heap(h:Ow S wl M0 M ρ ob w){r g sz:Nat}{e:TypeId}{es:List (List Dat)}(hr:ob r=some (.buf g e sz es)){i:Inf}(hi:ρ r=some i):
 i.fix=false/\i.g=g/\i.sz=sz/\i.n=es.length/\i.n<=i.tot/\i.tot<=maxLen/\(0<i.tot->Bt2 S wl M i g/\∃pre us sp,w.heap[i.b]? =some (.cells (pre++(us++sp)).toArray e (0,0))/\pre.length=i.base*sz/\(us++sp).length=i.tot*sz/\rL (rDs sz) M us es):=by
 obtain⟨j,h1,h2⟩:=h.own r _ hr;rw[hi]at h1;cases h1;exact h2
theorem Am1{M:Mem}{ρ:Rho}{r g j k:Nat}{u:Value}(h:B8 M ρ (.ept r g j k) u):∃i,ρ r=some i/\g<=i.g/\(g=i.g->j<i.n/\u= .pointer (some ⟨i.b,(i.base+j)*i.sz+k,none⟩)):=by
 simp only[B8]at h;obtain⟨i,h1,h2,_,h3⟩:=h;exact⟨i,h1,h2,h3⟩
theorem Ef6{t:TypeId}{x:Operand}(h:Ow S wl M0 M ρ ob w){n:Nat}{ag:Bool}(hz:szT P t=some (n,ag)){rr g j k sz:Nat}{e:TypeId}{es:List (List Dat)}{cs:List Dat}(hx:B8 M ρ (.ept rr g j k) (a.eval x))(hr:ob rr=some (.buf g e sz es))(hl:k+n<=sz)(hj:es[j]? =some cs):
 D5 r P a (.load t x) S wl M0 M ρ ob w (mkV ag (dV ((cs.drop k).take n))) []:=by
 obtain⟨hs,ha,h1⟩:=U4 hz;obtain⟨i,hi,hg,hp⟩:=Am1 hx;obtain⟨_,hg',hsz,hn,ht,_,hh⟩:=h.buf_heap hr hi;obtain⟨hjn,hp⟩:=hp hg'.symm;obtain⟨_,pre,us,sp,hw,hpre,hlen,hrel⟩:=hh (by omega);obtain⟨u,hu,hc⟩:=Du1 hrel hj;have hul:u.length=sz:=(rDs sz).len hu;have hcl:cs.length=sz:=hu.1;have hu':((u.drop k).take n).length=n:=P2 (by omega);refine D5.val h (run_load (vs:=(u.drop k).take n) hp ha (by rw[hu'];exact hs) (fun e=>by rw[hu'];exact h1 e) (fun q v hq=> ?_)) rfl (Y7 (_n:=n) (B2.dV ((hu.2.drop k).take n)) (fun e=>by rw[hu'];exact h1 e));have h3:=W6 rfl hq;have h4:k+q<u.length:=(ac_.1 h3).1;have h5:=hc (k+q) h4;rw[h3]at h5;have e1:(rDs sz).n=sz:=rfl;rw[e1]at h5;have h6:=(ac_.1 h5).1;simp only[World.cell?,hw];simp;have e2:(i.base+j)*i.sz+k+q=pre.length+(j*sz+(k+q)):=by rw[hpre,hsz,Nat.add_mul];omega
 rw[e2,au_ (by omega),Nat.add_sub_cancel_left,an_ h6,h5]
theorem Ed7{t:TypeId}{x:Operand}(h:Ow S wl M0 M ρ ob w)(hev:∀x,B8 M ρ (ev x) (a.eval x)):(Cq0 P ob t (ev x)).Good (D5 r P a (.load t x) S wl M0 M ρ ob w):=by
 have hx:=hev x;generalize ev x=vx at*;unfold Cq0;split
 .rename_i n ag hz;split
  .rename_i cs k;split
   .rename_i hl;obtain⟨b,o,us,h1,h2,h3⟩:=Ad1 hx;exact Fe0 h hz h1 h2 h3 (I1 hl)
   .trivial
  .rename_i rr k;split
   .rename_i cs hr;split
    .rename_i hl;exact Ef5 h hz hx hr (I1 hl)
    .trivial
   .rename_i cs hr;split
    .rename_i hl;exact Ef7 h hz hx hr (I1 hl)
    .trivial
   .trivial
  .rename_i rr g j k;split
   .rename_i g' e sz es hr;split
    .rename_i hg hl;obtain rfl:=nB_ hg;intro cs hcs;exact Ef6 h hz hx hr (I1 hl) hcs
    .trivial
   .trivial
  .trivial
 .trivial
end
end
section
section
variable {r:Option Nat} {P:Program} {a:Act} {w wl:World} {S:L8} {M0 M:Mem} {ρ:Rho} {ob:Nat->Option B9} {ev:Operand->V} {d:Nat} {ty:TypeId} {op:Op}
theorem Bq9:∀(v:Value),B8 M ρ (Gd8 v) v:=by
 intro v;unfold Gd8;split<;>simp only[B8]<;>first|exact .int _ _|exact .bool _|exact .str _|exact .nilp|exact .nilm|exact .nilf|exact .nili|exact⟨none,rfl⟩
theorem Cb7:∀(vs:List Value),B2 M ρ (Dy1 vs) vs
 |[]=>by simp[Dy1,B2]
 |v::vs=>by simp only[Dy1,B2];exact⟨v,vs,rfl,Bq9 v,Cb7 vs⟩
theorem T2{t:TypeId}{v:V}{u:Value}(h:B8 M ρ v u):B8 M ρ (Af4 P t v) u:=by
 unfold Af4;split
 .simp only[B8]at h⊢;exact h
 .exact h
theorem Bj7:∀{ts:List TypeId} {vs:List V} {us:List Value},B2 M ρ vs us->B2 M ρ (Cv7 P ts vs) us
 |[],_,_,h=>h
 |_::_,[],_,h=>h
 |t::ts,v::vs,us,h=>by
  simp only[B2]at h;obtain⟨u,us',rfl,h1,h2⟩:=h;simp only[Cv7,B2];exact⟨u,us',rfl,T2 h1,Bj7 h2⟩
theorem Af2{t:TypeId}{zs:List V}(h:Db6 P t=some zs):∃vs,Bd8 P t=some vs/\(∀(M:Mem) (ρ:Rho),B2 M ρ zs vs)/\Fk4 zs=true:=by
 unfold Db6 at h;split at h
 .rename_i vs hz;dsimp only at h;split at h
  .rename_i ha;cases h;exact⟨vs,hz,fun _ _=>Bj7 (Cb7 vs),ha⟩
  .cases h
 .cases h
def Gq5(b:Nat):Inf:=⟨b,0,0,0,0,0,true,[]⟩
theorem Dr8(h:Ow S wl M0 M ρ ob w)(hd:ob d=none){cs:List V}{us:List Value}(t:TypeId)(hr:B2 M ρ cs us)(h1:∀u∈us,u.oneCell'=true):
 ∃ρ',Rle M M ρ ρ'/\Ow S wl M0 M ρ' (H6 ob d (.box t cs)) (w.alloc (.cells us.toArray t))/\B8 M ρ' (.ptr d 0) (.pointer (some ⟨w.heap.size,0,none⟩)):=by
 obtain⟨h2,h3⟩:=h.alloc hd (.cells us.toArray t) (Gq5 w.heap.size) (.box t cs) rfl (fun ρ' hle hM=>⟨rfl,⟨.inr h.size,hM⟩,us,t,World.alloc_heap_new w _,B2.mono hle _ hr,h1,rfl⟩);exact⟨_,h2,h3,by simp only[B8];exact⟨Gq5 w.heap.size,B3 _ _ _,rfl,rfl⟩⟩
theorem Cg8{t:TypeId}(h:Ow S wl M0 M ρ ob w):(L3 P ob d ty ev (.alloc t)).Good (D5 r P a (.alloc t) S wl M0 M ρ ob w):=by
 simp only[L3];split
 .rename_i zs hz hd;obtain⟨vs,hv,hzr,ha⟩:=Af2 hz;obtain⟨v,hv,hc⟩:=Bc9 (w:=w) hv;obtain⟨ρ',h1,h2,h3⟩:=Dr8 (M0:=M0) h hd t (hzr _ _) (Bl7 ha (hzr M ρ));refine Eff.of_run (v:= .pointer (some ⟨w.heap.size,0,none⟩)) (w':=w.alloc (.cells vs.toArray t)) ?_ rfl ⟨M,ρ',h1,h2,h3⟩;intro d ty pos aft g;simp[execOp,Instr.alloc,newVar,newRow,hv,hc]
 .trivial
theorem Dm3{t:TypeId}{x:Operand}(h:Ow S wl M0 M ρ ob w)(hev:∀x,B8 M ρ (ev x) (a.eval x)):(L3 P ob d ty ev (.box t x)).Good (D5 r P a (.box t x) S wl M0 M ρ ob w):=by
 simp only[L3];split
 .rename_i cs hc hd;obtain⟨us,h1,h2,h3⟩:=O2 hc (hev x);obtain⟨ρ',h4,h5,h6⟩:=Dr8 (M0:=M0) h hd t h2 h3;refine Eff.of_run (v:= .pointer (some ⟨w.heap.size,0,none⟩)) (w':=w.alloc (.cells us.toArray t)) ?_ rfl ⟨M,ρ',h4,h5,h6⟩;intro d ty pos aft g;simp[execOp,Instr.box,newVar,newRow,h1]
 .trivial
theorem Bq3{cs xs:List V}{us vs:List Value}{k:Nat}(h:B2 M ρ cs us)(h':B2 M ρ xs vs):B2 M ρ (Ei7 cs k xs) (D2 us k vs):=by
 unfold Ei7 D2;rw[h'.len];exact((h.take k).append h').append (h.drop _)
theorem Ca9{us vs:List Value}{k:Nat}(h:∀u∈us,u.oneCell'=true)(h':∀u∈vs,u.oneCell'=true):∀u∈D2 us k vs,u.oneCell'=true:=by
 intro u hu;unfold D2 at hu;rcases List.mem_append.1 hu with hu|hu
 .rcases List.mem_append.1 hu with hu|hu
  .exact h u (mem_of_mem_take hu)
  .exact h' u hu
 .exact h u (mem_of_mem_drop hu)
theorem C4(u:Value):B8 M ρ .undef u:=by simp only[B8]
theorem Dw2{te t:TypeId}{x y:Operand}(h:Ow S wl M0 M ρ ob w){n:Nat}(hs:F9 P t=some n){rr k:Nat}{cs us:List V}{v:V}(hx:B8 M ρ (.ptr rr k) (a.eval x))(hy:B8 M ρ v (a.eval y))(hv:Ag0 v=some us)(hr:ob rr=some (.box te cs))(hn:us.length=n)(hl:k+n<=cs.length):
 D5 r P a (.store t x y) S wl M0 M ρ ob w .undef [(rr,.box te (Ei7 cs k us))]:=by
 obtain⟨i,hi,hf,hp⟩:=J6 hx;obtain⟨i',hi',hb⟩:=h.own rr _ hr;rw[hi]at hi';cases hi';obtain⟨_,hm,vs,e,hw,hrel,h1,het⟩:=hb;obtain⟨xs,hc,hrx,hx1⟩:=O2 hv hy;have l1:=hrel.len;have l2:=hrx.len;have hst:=S9 (P:=P) (k:=k) hw hc (by rw[l2,hn];exact hs) hx1 (by simp;omega);obtain⟨h2,h3⟩:=h.turn hr hi (w':=w.setRow i.b (D2 vs k xs).toArray) i (.box te (Ei7 cs k us)) (fun q _ hq=>setRow_other w i.b q _ (hq trivial)) (by simp) rfl rfl rfl (fun _ c hc=>by rw[hm.2]at hc;cases hc) ⟨ad_ _,fun _=>rfl,fun _=>rfl⟩ (fun _=> .inl ⟨trivial,rfl⟩)
  (fun ρ' hle _=>⟨hf,hm,D2 vs k xs,e,setRow_heap w i.b _ _ e _ hw,Bq3 (B2.mono hle _ hrel) (B2.mono hle _ hrx),Ca9 h1 hx1,het⟩)
 refine Eff.of_runU (w':=w.setRow i.b (D2 vs k xs).toArray) ?_ rfl ⟨M,_,h2,h3,C4 _⟩;intro d ty pos aft g;simp[execOp,Instr.storeAt,Instr.sureAddr,hp,hst]
theorem Db3{cells us:List Value}{off:Nat}{u:Value}(h:off<cells.length):D2 cells off (u::us)=D2 (cells.set off u) (off+1) us:=by
 obtain⟨xs,y,zs,rfl,hx⟩:∃xs y zs,cells=xs++y::zs/\xs.length=off:=
  ⟨cells.take off,cells[off],cells.drop (off+1),by rw[getElem_cons_drop,ao_],by simp;omega⟩
 subst hx;have e1:(xs++y::zs).set xs.length u=xs++u::zs:=by simp
 have e2:xs.length+1=(xs++[u]).length:=by simp
 have e3:xs++u::zs=(xs++[u])++zs:=by simp
 rw[e1,e3,e2];unfold D2;rw[bq_,bq_,<-az_,<-az_,b1_,b1_];simp
theorem Ba0:∀(us:List Value) (off:Nat) (cells:List Value) (q:Nat),off+q+us.length<=cells.length->
 ((us.zipIdx q).foldl (fun(cs:Array Value) (p:Value×Nat)=>cs.setIfInBounds (off+p.2) p.1) cells.toArray)=(D2 cells (off+q) us).toArray
 |[],off,cells,q,_=>by simp[D2]
 |u::us,off,cells,q,h=>by
  simp only[zipIdx_cons,foldl_cons];simp only[length_cons]at h;rw[setIfInBounds_toArray,Ba0 us off (cells.set (off+q) u) (q+1) (by simp;omega),Db3 (by omega)];rfl
theorem Az9{pl:Nat->Option (Nat×Nat)}{cells us:List Value}{i off:Nat}{v:Value}{rest:List (Nat×Value)}(hp:pl i=some (off,us.length))(hv:v.cells=us.toArray)(hl:off+us.length<=cells.length):
 Instr.fill pl cells.toArray ((i,v)::rest)=Instr.fill pl (D2 cells off us).toArray rest:=by
 have h2:=Ba0 us off cells 0 (by omega);simp only[Nat.add_zero]at h2;have h1:¬(us.length≠us.length\/off+us.length>cells.length):=by omega
 simp only[Instr.fill,hp,hv,List.size_toArray];rw[if_neg (by simpa using hl)];congr 1;rw[<-h2];simp
def Bt4(M:Mem)(ρ:Rho):List (Nat×V)->List (Nat×Value)->Prop
 |[],ps=>ps=[]
 |(i,v)::l,ps=>∃u ps',ps=(i,u)::ps'/\B8 M ρ v u/\Bt4 M ρ l ps'
theorem Y5(hev:∀x,B8 M ρ (ev x) (a.eval x)):∀(ps:List (Nat×Operand)),Bt4 M ρ (V3 ev ps) (ps.map fun p=>(p.1,a.eval p.2))
 |[]=>by simp[V3,Bt4]
 |(i,x)::ps=>by simp only[V3,Bt4,map_cons];exact⟨_,_,rfl,hev x,Y5 hev ps⟩
theorem At0{pl:Nat->Option (Nat×Nat)}:∀{ps:List (Nat×V)} {qs:List (Nat×Value)} {cs cs':List V} {us:List Value},Bt4 M ρ ps qs->B2 M ρ cs us->Az7 pl cs ps=some cs'->∃us',Instr.fill pl us.toArray qs=some us'.toArray/\B2 M ρ cs' us'
 |[],qs,cs,cs',us,hp,hc,he=>by
  simp only[Bt4]at hp;subst hp;simp only[Az7,Option.some.injEq]at he;subst he;exact⟨us,rfl,hc⟩
 |(i,v)::ps,qs,cs,cs',us,hp,hc,he=>by
  simp only[Bt4]at hp;obtain⟨u,qs',rfl,hv,hp⟩:=hp;unfold Az7 at he;split at he
  .rename_i off n xs h1 h2;split at he
   .rename_i h3 h4;obtain⟨ys,h5,h6,_⟩:=O2 h2 hv;have e3:=nB_ h3;have e4:=I1 h4;have l1:=hc.len;have l2:=h6.len;rw[Az9 (off:=off) (us:=ys) (by rw[h1,l2,e3]) h5 (by omega)];exact At0 hp (Bq3 hc h6) he
   .cases he
  .cases he
theorem Dm4{t:TypeId}{ps:Array (Nat×Operand)}(h:Ow S wl M0 M ρ ob w)(hev:∀x,B8 M ρ (ev x) (a.eval x)):(L3 P ob d ty ev (.build t ps)).Good (D5 r P a (.build t ps) S wl M0 M ρ ob w):=by
 simp only[L3];split
 .rename_i zs pl hz hpl;split
  .rename_i cs hcs;obtain⟨vs,hv,hzr,ha⟩:=Af2 hz;obtain⟨us,h1,h2⟩:=At0 (Y5 hev ps.toList) (hzr _ _) hcs;unfold Bd8 at hv;cases hi:P.info? t with
   |none=>rw[hi]at hv;cases hv
   |some it=>
    rw[hi]at hv;cases hzz:it.zero with
    |none=>simp[hzz]at hv
    |some z=>
     simp[hzz]at hv;have hb:P.built t (ps.toList.map fun p=>(p.1,a.eval p.2))=some us.toArray:=by
      unfold Program.built;unfold Er6 at hpl;rw[hi];have hz':z.cells=vs.toArray:=by rw[<-hv]
      split at hpl
      .rename_i fs hu;split at hpl
       .rename_i q hq;cases hpl;simp only[hu,hzz,hq,hz'];exact h1
       .cases hpl
      .rename_i m e hu;split at hpl
       .rename_i ie hie;cases hpl;simp only[hu,hzz,hie,hz'];exact h1
       .cases hpl
      .cases hpl
     have hr:=run_build (P:=P) w t (ps.map fun(i,x)=>(i,a.eval x)) us.toArray (by rw[cv_];exact hb);refine D5.val h (u:= .agg us.toArray) ?_ rfl (Dr6 h2);intro d ty pos aft g;simp[execOp,hr]
  .trivial
 .trivial
theorem Dm8{t:TypeId}{x:Operand}{i:Nat}(h:Ow S wl M0 M ρ ob w)(hev:∀x,B8 M ρ (ev x) (a.eval x)):(L3 P ob d ty ev (.field t x i)).Good (D5 r P a (.field t x i) S wl M0 M ρ ob w):=by
 simp only[L3];have hx:=hev x;generalize ev x=vx at*;split
 .rename_i cs fs hu;split
  .rename_i f hf;split
   .rename_i n ag hz;split
    .rename_i hl;obtain⟨us,he,hr⟩:=Ae8 hx;obtain⟨hs,ha,h1⟩:=U4 hz;have hl:=I1 hl;have l1:=hr.len;have hu':((us.drop f.offset).take n).length=n:=P2 (by omega);refine D5.val h (Dv2 (cs:=us) (vs:=(us.drop f.offset).take n) he hu hf rfl rfl ha (by rw[hu'];exact hs) (fun e=>by rw[hu'];exact h1 e) (fun j hj=> ?_)) rfl (Y7 (_n:=n) ((hr.drop _).take n) (fun e=>by rw[hu'];exact h1 e));rw[getElem?_take_of_lt (by omega),getElem?_drop]
    .trivial
   .trivial
  .trivial
 .trivial
theorem Ow.tree_gen(h:Ow S wl M0 M ρ ob w){q g sz:Nat}{e:TypeId}{shs:List Sh}{es:List (List Dat)}{hh:Option (Nat×List V)}(hr:ob q=some (.tree g e sz shs es hh)){i:Inf}(hi:ρ q=some i):i.g=g:=by
 obtain⟨i',hi',hok⟩:=h.own q _ hr;rw[hi]at hi';cases hi';exact hok.2.1
theorem Bn4{t:TypeId}{x:Operand}{i:Nat}(h:Ow S wl M0 M ρ ob w)(hev:∀x,B8 M ρ (ev x) (a.eval x)):(L3 P ob d ty ev (.fieldAddr t x i)).Good (D5 r P a (.fieldAddr t x i) S wl M0 M ρ ob w):=by
 simp only[L3];have hx:=hev x;generalize ev x=vx at*;split
 .rename_i rr k off hf;obtain⟨j,h1,h2,h3⟩:=J6 hx;exact D5.val h (Q8 h3 hf rfl) rfl (by simp only[B8];exact⟨j,h1,h2,rfl⟩)
 .rename_i cs k off hf;obtain⟨b,o,us,h1,h2,h3⟩:=Ad1 hx;exact D5.val h (Q8 h1 hf (Nat.add_assoc _ _ _)) rfl (by simp only[B8];exact⟨b,o,us,rfl,h2,h3⟩)
 .rename_i rr g j k off hf;split
  .rename_i g' e sz es hr;split
   .rename_i hg;obtain rfl:=nB_ hg;simp only[B8]at hx;obtain⟨i',h1,h2,h3,h4⟩:=hx;obtain⟨h5,h6⟩:=h4 (h.buf_heap hr h1).2.1.symm;exact D5.val h (Q8 h6 hf (Nat.add_assoc _ _ _)) rfl (by simp only[B8];exact⟨i',h1,h2,rfl,fun _=>⟨h5,rfl⟩⟩)
   .trivial
  .rename_i g' e sz shs es hh hr;split
   .rename_i hg;obtain rfl:=nB_ hg;simp only[B8]at hx;obtain⟨i',h1,h2,h3,h4⟩:=hx;obtain⟨h5,h6⟩:=h4 (h.tree_gen hr h1).symm;exact D5.val h (Q8 h6 hf (Nat.add_assoc _ _ _)) rfl (by simp only[B8];exact⟨i',h1,h2,rfl,fun _=>⟨h5,rfl⟩⟩)
   .trivial
  .trivial
 .trivial
theorem Bv5{x:Operand}(h:Ow S wl M0 M ρ ob w)(hev:∀x,B8 M ρ (ev x) (a.eval x)):(L3 P ob d ty ev (.nilCheck x)).Good (D5 r P a (.nilCheck x) S wl M0 M ρ ob w):=by
 simp only[L3];have hx:=hev x;split
 .rename_i r' k hb;rw[hb]at hx;obtain⟨i,h1,h2,h3⟩:=J6 hx;exact D5.val h (P8 h3) rfl (by rw[<-h3];exact hx)
 .rename_i cs k hb;rw[hb]at hx;obtain⟨b,o,us,h3,_⟩:=Ad1 hx;exact D5.val h (P8 h3) rfl (by rw[<-h3];exact hx)
 .rename_i cs hb;rw[hb]at hx;have hx:=I6 hx;cases hu:a.eval x<;>rw[hu]at hx<;>cases hx;rename_i b o us hc hl hr;exact D5.val h (P8 hu) rfl (by simp only[B8];exact⟨b,o,us,rfl,hc,C9.of_get hl hr⟩)
 .rename_i rr g j k hb;rw[hb]at hx;split
  .rename_i g' e sz es hr;split
   .rename_i hg;obtain rfl:=nB_ hg;simp only[B8]at hx;obtain⟨i',h1,h2,h3,h4⟩:=hx;obtain⟨h5,h6⟩:=h4 (h.buf_heap hr h1).2.1.symm;exact D5.val h (P8 h6) rfl (by simp only[B8];exact⟨i',h1,h2,rfl,fun _=>⟨h5,rfl⟩⟩)
   .trivial
  .rename_i g' e sz shs es hh hr;split
   .rename_i hg;obtain rfl:=nB_ hg;simp only[B8]at hx;obtain⟨i',h1,h2,h3,h4⟩:=hx;obtain⟨h5,h6⟩:=h4 (h.tree_gen hr h1).symm;exact D5.val h (P8 h6) rfl (by simp only[B8];exact⟨i',h1,h2,rfl,fun _=>⟨h5,rfl⟩⟩)
   .trivial
  .trivial
 .trivial
theorem Bv4{c:Call}{m n:Int}{k:IntKind}(h:Ow S wl M0 M ρ ob w){mx:Bool}(hc:c.callee= .builtin (match mx with|true=> .max|false=> .min))(hev:∀x,B8 M ρ (ev x) (a.eval x))(he:Dc2 ev c.args.toList=[.d (.int k m),.d (.int k n)]):
 D5 r P a (.call c) S wl M0 M ρ ob w (.d (.int k (bif (match mx with|true=>decide (n>m)|false=>decide (n<m)) then n else m))) []:=by
 have hr:=Ae1 (xs:=c.args.toList) hev;rw[he]at hr;simp only[B2]at hr;obtain⟨u,us,e1,h1,u2,us2,e2,h2,e3⟩:=hr;obtain rfl:=O9 h1;obtain rfl:=O9 h2;subst e3;subst e2;have e4:c.args.map a.eval= #[.int k m,.int k n]:=by
  apply bh_;rw[cv_,e1]
 refine D5.val h (u:= .int k (bif (match mx with|true=>decide (n>m)|false=>decide (n<m)) then n else m)) ?_ rfl K9;intro d ty pos aft g;cases mx with
 |true=>
  dsimp only at hc⊢;simp only[execOp,resolve,hc,e4];by_cases hn:n>m<;>simp[invoke,builtin,Builtin.max_,Builtin.max2,hn]
 |false=>
  dsimp only at hc⊢;simp only[execOp,resolve,hc,e4];by_cases hn:n<m<;>simp[invoke,builtin,Builtin.min_,Builtin.min2,hn]
end
end
section
section
variable {r:Option Nat} {P:Program} {a:Act} {w wl:World} {S:L8} {M0 M:Mem} {ρ:Rho} {ob:Nat->Option B9} {ev:Operand->V} {d:Nat} {ty:TypeId} {op:Op}
theorem Av5{sz:Nat}{us:List Value}{es:List (List Dat)}(h:rL (rDs sz) M us es){j:Nat}{cs:List Dat}(hj:es[j]? =some cs):
 cs.length=sz/\((us.drop (j*sz)).take sz).length=sz/\C9 M cs ((us.drop (j*sz)).take sz):=by
 obtain⟨u,hu,hc⟩:=Du1 h hj;have hul:u.length=sz:=(rDs sz).len hu;have e1:(rDs sz).n=sz:=rfl;rw[e1]at hc;have:(us.drop (j*sz)).take sz=u:=by
  apply b6_;intro q;by_cases hq:q<sz
  .rw[getElem?_take_of_lt hq,getElem?_drop,hc q (by omega)]
  .rw[List.getElem?_eq_none (by simp;omega),List.getElem?_eq_none (by omega)]
 rw[this];exact⟨hu.1,hul,hu.2⟩
theorem Am0{sz:Nat}{p:Option Addr}{cap:Nat}:T7 M (.sl sz []) (.slice p 0 cap):=
 .sl sz [] p cap 0 0 (fun _=>[]) (at_ _) (fun h=>absurd rfl h) (fun i hi=>absurd hi (by simp)) (fun i cs h=>by simp at h) (fun i j cs c u h=>by simp at h)
theorem Ck0{b base sz off:Nat}{pre us sp:List Value}{es es':List (List Dat)}{p:Option Addr}{cap:Nat}{c:Array Value}(hM:M b=some c)(hP:Pre (pre++(us++sp)).toArray c)(hp:pre.length=base*sz)(hr:rL (rDs sz) M us es)
 (hcap:es'.length<=cap) (ha:es'≠[]->p=some ⟨b,(base+off)*sz,none⟩) (he:∀j,j<es'.length->es'[j]? =es[off+j]?):T7 M (.sl sz es') (.slice p es'.length cap):=by
 have get:∀j cs,es'[j]? =some cs->es[off+j]? =some cs:=fun j cs hj=>by rw[<-he j (ac_.1 hj).1];exact hj
 refine .sl sz es' p cap b ((base+off)*sz) (fun j=>(us.drop ((off+j)*sz)).take sz) hcap ha (fun j hj=>⟨_,hM,fun q hq=> ?_⟩) (fun j cs hj=> ?_) (fun j q cs c u hj hc hu=> ?_)
 .have hq':=hq;simp only[length_take,length_drop]at hq;have key:(pre++(us++sp)).toArray[(base+off)*sz+j*sz+q]? =((us.drop ((off+j)*sz)).take sz)[q]? :=by
   rw[getElem?_take_of_lt (by omega),getElem?_drop];have e2:(base+off)*sz+j*sz+q=pre.length+((off+j)*sz+q):=by rw[hp];simp only[Nat.add_mul];omega
   simp only[getElem?_toArray,e2];rw[au_ (by omega),Nat.add_sub_cancel_left,an_ (by omega)]
  rw[aa_ hq']at key⊢;exact hP _ _ key
 .have:=Av5 hr (get j cs hj);exact⟨this.1,this.2.1⟩
 .exact(Av5 hr (get j cs hj)).2.2.get hc hu
theorem Ow.frozen(h:Ow S wl M0 M ρ ob w){q:Nat}{o x:B9}{i:Inf}(hr:ob q=some o)(hi:ρ q=some i)(hx:∀b,¬blk i x b){M':Mem}(hle:M.le M')(hsit:Af8 M' w)(hother:∀b,M' b≠M b->blk i o b)(hq:J0 S wl M' ρ w i x):Rle M M' ρ ρ/\Ow S wl M0 M' ρ (H6 ob q x) w:=by
 have hR:Rle M M' ρ ρ:=⟨hle,fun _ j hj=>⟨j,hj,ad_ _,fun _=>rfl,fun _=>rfl⟩⟩
 obtain⟨i0,hi0,hok⟩:=h.own q o hr;rw[hi]at hi0;cases hi0;refine⟨hR,h.size,h.os,h.tape,h.output,h.old,hsit,Mem.le_trans h.le hle,h.gl.mono hle,fun b c hc hlt=> ?_,?_,?_,?_,h.held⟩
 .by_cases hb:M' b=M b
  .rw[hb]at hc;exact h.new b c hc hlt
  .rcases(E0 hok (hother b hb)).1 with hs|hs
   .exact .inr hs
   .omega
 .intro z y hy;by_cases ez:z=q
  .subst ez;rw[B3]at hy;cases hy;exact⟨i,hi,hq⟩
  .rw[C5 _ _ ez]at hy;obtain⟨j,h1,h2⟩:=h.own z y hy;refine⟨j,h1,h2.mono hR (fun b hl=> ?_) (fun _ _=>rfl)⟩;by_cases hb:M' b=M b
   .exact hb
   .exact absurd (h.inj z q y _ j i b hy hr h1 hi hl (hother _ hb)) ez
 .intro z j hj;by_cases ez:z=q
  .subst ez;exact⟨_,B3 _ _ _⟩
  .rw[C5 _ _ ez];exact h.dom z j hj
 .intro z z' y y' j j' b h1 h2 h3 h4 l1 l2;have n1:z≠q:=fun ez=>by subst ez;rw[B3]at h1;cases h1;rw[hi]at h3;cases h3;exact hx _ l1
  have n2:z'≠q:=fun ez=>by subst ez;rw[B3]at h2;cases h2;rw[hi]at h4;cases h4;exact hx _ l2
  rw[C5 _ _ n1]at h1;rw[C5 _ _ n2]at h2;exact h.inj z z' y y' j j' b h1 h2 h3 h4 l1 l2
theorem Ow.freeze(h:Ow S wl M0 M ρ ob w){q g e sz:Nat}{es:List (List Dat)}(hr:ob q=some (.buf g e sz es)):∃M',Rle M M' ρ ρ/\Ow S wl M0 M' ρ (H6 ob q (.fzs g sz es)) w:=by
 obtain⟨i,hi,hok⟩:=h.own q _ hr;obtain⟨hf,hg,hs,hn,ht,hx,hh⟩:=hok;have same:∀(M':Mem) (hle:M.le M') (hsit:Af8 M' w) (hother:∀b,M' b≠M b->0<i.tot/\b=i.b) (hq:J0 S wl M' ρ w i (.fzs g sz es)),Rle M M' ρ ρ/\Ow S wl M0 M' ρ (H6 ob q (.fzs g sz es)) w:=fun M' hle hsit hother hq=>
  h.frozen hr hi (fun _=>Aj8 rfl rfl) hle hsit (fun b hb=> .inl ⟨(hother b hb).1,(hother b hb).2.symm⟩) hq
 by_cases hp:0<i.tot
 .obtain⟨hm,pre,us,sp,hw,hpre,hl,hrel⟩:=hh hp
  let M':Mem:=fun b=>if b=i.b then some (pre++(us++sp)).toArray else M b
  have hMi:M' i.b=some (pre++(us++sp)).toArray:=if_pos rfl;have hle:M.le M':=fun b c hc=>by
   by_cases e:b=i.b
   .subst e;obtain⟨c',e',z',h1,h2⟩:=h.sits _ c hc;rw[hw]at h1;cases h1;exact⟨_,hMi,h2⟩
   .exact⟨c,by simp only[M',if_neg e];exact hc,Pre.refl c⟩
  refine⟨M',same M' hle ?_ ?_ ⟨hf,hg,hs,hn,ht,fun _=>⟨_,pre,us,sp,hMi,Pre.refl _,hpre,Bc2 hle hrel⟩⟩⟩
  .intro b c hc;by_cases e:b=i.b
   .subst e;rw[hMi]at hc;cases hc;exact⟨_,_,_,hw,Pre.refl _⟩
   .simp only[M',if_neg e]at hc;exact h.sits b c hc
  .intro b hb;by_cases e:b=i.b
   .exact⟨hp,e⟩
   .simp only[M',if_neg e]at hb;exact absurd rfl hb
 .exact⟨M,same M M.le_refl h.sits (fun b hb=>absurd rfl hb) ⟨hf,hg,hs,hn,ht,fun h'=>absurd h' hp⟩⟩
theorem J7{q g off:Nat}{u:Value}(h:B8 M ρ (.suf q g off) u):∃i,ρ q=some i/\g<=i.g/\(g=i.g->off<=i.n/\∃p,u= .slice p (i.n-off) (i.tot-off)/\(off<i.tot->p=some ⟨i.b,(i.base+off)*i.sz,none⟩)):=by
 simp only[B8]at h;obtain⟨i,h1,h2,_,h3⟩:=h;exact⟨i,h1,h2,h3⟩
theorem Av6{q g off len:Nat}{u:Value}(h:B8 M ρ (.osl q g off len) u):∃i,ρ q=some i/\g<=i.g/\(g=i.g->off+len<=i.n/\∃p,u= .slice p len (i.tot-off)/\(off<i.tot->p=some ⟨i.b,(i.base+off)*i.sz,none⟩)):=by
 simp only[B8]at h;obtain⟨i,h1,h2,_,h3⟩:=h;exact⟨i,h1,h2,h3⟩
theorem Ow.fzs_at(h:Ow S wl M0 M ρ ob w){q g sz:Nat}{es:List (List Dat)}(hr:ob q=some (.fzs g sz es)){i:Inf}(hi:ρ q=some i):
 i.g=g/\i.sz=sz/\i.n=es.length/\i.n<=i.tot/\(0<i.tot->∃c pre us sp,M i.b=some c/\Pre (pre++(us++sp)).toArray c/\pre.length=i.base*sz/\rL (rDs sz) M us es):=by
 obtain⟨j,h1,h2⟩:=h.own q _ hr;rw[hi]at h1;cases h1;exact h2.2
theorem Bj0(h:Ow S wl M0 M ρ ob w){q g off sz:Nat}{es:List (List Dat)}{u:Value}(hr:ob q=some (.fzs g sz es))(hv:B8 M ρ (.suf q g off) u):T7 M (.sl sz (es.drop off)) u:=by
 obtain⟨i,hi,_,hu⟩:=J7 hv;obtain⟨hg,hsz,hn,ht,hh⟩:=h.fzs_at hr hi;obtain⟨ho,p,rfl,hp⟩:=hu hg.symm;have hl:i.n-off=(es.drop off).length:=by rw[length_drop,hn]
 rw[hl];by_cases h0:0<i.tot
 .obtain⟨c,pre,us,sp,hM,hP,hpre,hrel⟩:=hh h0;refine Ck0 (off:=off) hM hP hpre hrel (by rw[length_drop];omega) (fun hne=> ?_) (fun j _=>by rw[getElem?_drop]);have:0<(es.drop off).length:=as_.2 hne;rw[hp (by omega),hsz]
 .have:es=[]:=a1_ (by omega);subst this;simp only[List.drop_nil,length_nil];exact Am0
theorem Cq5(h:Ow S wl M0 M ρ ob w){q g off len sz:Nat}{es:List (List Dat)}{u:Value}(hr:ob q=some (.fzs g sz es))(hv:B8 M ρ (.osl q g off len) u):T7 M (.sl sz ((es.drop off).take len)) u:=by
 obtain⟨i,hi,_,hu⟩:=Av6 hv;obtain⟨hg,hsz,hn,ht,hh⟩:=h.fzs_at hr hi;obtain⟨ho,p,rfl,hp⟩:=hu hg.symm;have hl:((es.drop off).take len).length=len:=by rw[length_take,length_drop];omega
 by_cases h0:0<i.tot
 .obtain⟨c,pre,us,sp,hM,hP,hpre,hrel⟩:=hh h0;have:=Ck0 (es':=(es.drop off).take len) (p:=p) (cap:=i.tot-off) (off:=off) hM hP hpre hrel (by rw[hl];omega) (fun hne=> ?_) (fun j hj=>by rw[getElem?_take_of_lt (by rw[hl]at hj;exact hj),getElem?_drop])
  .rwa [hl]at this
  .have:0<((es.drop off).take len).length:=as_.2 hne;rw[hp (by omega),hsz]
 .have:es=[]:=a1_ (by omega);subst this;have:len=0:=by simp at hl;omega
  subst this;simp only[List.drop_nil,take_nil];exact Am0
theorem R8(h:Ow S wl M0 M ρ ob w){v:V}{u:Value}{x:Dat}{wr:Wr}(hv:B8 M ρ v u)(hd:Bu8 ob v=some (x,wr)):∃M',Rle M M' ρ ρ/\Ow S wl M0 M' ρ (wrO ob wr) w/\T7 M' x u:=by
 have triv:∀{x:Dat},T7 M x u->∃M',Rle M M' ρ ρ/\Ow S wl M0 M' ρ (wrO ob []) w/\T7 M' x u:=fun hx=>⟨M,Rle.refl _ _,h,hx⟩
 unfold Bu8 at hd;split at hd
 .cases hd;exact triv (I6 hv)
 .cases hd;simp only[B8]at hv;obtain⟨a,rfl⟩:=hv;exact triv Am0
 .split at hd
  .rename_i q g off g' e sz es hr;split at hd
   .rename_i hg;cases hd;obtain rfl:=nB_ hg;obtain⟨M',h1,h2⟩:=h.freeze hr;exact⟨M',h1,h2,Bj0 h2 (B3 _ _ _) (B8.mono h1 _ hv)⟩
   .cases hd
  .rename_i q g off g' sz es hr;split at hd
   .rename_i hg;cases hd;obtain rfl:=nB_ hg;exact triv (Bj0 h hr hv)
   .cases hd
  .cases hd
 .split at hd
  .rename_i q g off len g' e sz es hr;split at hd
   .rename_i hg;cases hd;obtain rfl:=nB_ hg;obtain⟨M',h1,h2⟩:=h.freeze hr;exact⟨M',h1,h2,Cq5 h2 (B3 _ _ _) (B8.mono h1 _ hv)⟩
   .cases hd
  .rename_i q g off len g' sz es hr;split at hd
   .rename_i hg;cases hd;obtain rfl:=nB_ hg;exact triv (Cq5 h hr hv)
   .cases hd
  .cases hd
 .cases hd;simp only[B8,B2]at hv;obtain⟨fs,cs,rfl,rfl,rfl⟩:=hv;exact triv (.fnc _)
 .cases hd
theorem Rle.trans{A B C:Mem}{ρ1 ρ2 ρ3:Rho}(h:Rle A B ρ1 ρ2)(k:Rle B C ρ2 ρ3):Rle A C ρ1 ρ3:=
 ⟨Mem.le_trans h.le k.le,fun r i hi=>by
  obtain⟨j,h1,h2⟩:=h.ext r i hi;obtain⟨l,k1,k2⟩:=k.ext r j h1;exact⟨l,k1,h2.trans k2⟩⟩
theorem H5(ob:Nat->Option B9):∀(x y:Wr),wrO ob (x++y)=wrO (wrO ob x) y
 |[],_=>rfl
 |(d,o)::x,y=>H5 (H6 ob d o) x y
theorem J9:∀{vs:List V} {ob:Nat->Option B9} {M:Mem} (_:Ow S wl M0 M ρ ob w) {us:List Value} {xs:List Dat} {wr:Wr},B2 M ρ vs us->W4 ob vs=some (xs,wr)->∃M',Rle M M' ρ ρ/\Ow S wl M0 M' ρ (wrO ob wr) w/\C9 M' xs us
 |[],ob,M,h,us,xs,wr,hv,hd=>by
  simp only[W4,Option.some.injEq,Prod.mk.injEq]at hd;obtain⟨rfl,rfl⟩:=hd;simp only[B2]at hv;subst hv;exact⟨M,Rle.refl _ _,h,rfl⟩
 |v::vs,ob,M,h,us,xs,wr,hv,hd=>by
  simp only[B2]at hv;obtain⟨u,us',rfl,h1,h2⟩:=hv;unfold W4 at hd;split at hd
  .rename_i x wr1 he;obtain⟨M1,a1,a2,a3⟩:=R8 h h1 he;split at hd
   .rename_i ys wr2 hs;cases hd;obtain⟨M2,b1,b2,b3⟩:=J9 a2 (B2.mono a1 _ h2) hs;exact⟨M2,a1.trans b1,by rw[H5];exact b2,u,us',rfl,a3.mono b1.le,b3⟩
   .cases hd
  .cases hd
theorem Ow.freezeBox{te:TypeId}(h:Ow S wl M0 M ρ ob w){q:Nat}{cs:List V}(hr:ob q=some (.box te cs)):∃M',Rle M M' ρ ρ/\Ow S wl M0 M' ρ (H6 ob q (.fzb cs)) w:=by
 obtain⟨i,hi,hok⟩:=h.own q _ hr;obtain⟨hf,hm,us,e,hw,hrel,h1,_⟩:=hok
 let M':Mem:=fun b=>if b=i.b then some us.toArray else M b
 have hMi:M' i.b=some us.toArray:=if_pos rfl;have hle:M.le M':=fun b c hc=>by
  have:b≠i.b:=fun e=>by rw[e,hm.2]at hc;cases hc
  exact⟨c,by simp only[M',if_neg this];exact hc,Pre.refl c⟩
 have hR:Rle M M' ρ ρ:=⟨hle,fun _ j hj=>⟨j,hj,ad_ _,fun _=>rfl,fun _=>rfl⟩⟩
 refine⟨M',h.frozen hr hi (fun _=>Aj8 rfl rfl) hle ?_ ?_ ⟨hf,_,us,hMi,Pre.refl _,B2.mono hR _ hrel,h1⟩⟩
 .intro b c hc;by_cases e:b=i.b
  .subst e;rw[hMi]at hc;cases hc;exact⟨_,_,_,hw,Pre.refl _⟩
  .simp only[M',if_neg e]at hc;exact h.sits b c hc
 .intro b hb;by_cases e:b=i.b
  .exact .inl ⟨trivial,e.symm⟩
  .simp only[M',if_neg e]at hb;exact absurd rfl hb
theorem Ac6:∀{vs:List V} {ob:Nat->Option B9} {M:Mem} (_h:Ow S wl M0 M ρ ob w) {us:List Value},B2 M ρ vs us->(∀u∈us,u.oneCell'=true)->∃M',Rle M M' ρ ρ/\Ow S wl M0 M' ρ (wrO ob (Al5 ob vs).2) w/\C9 M' (Al5 ob vs).1 us
 |[],ob,M,h,us,hv,_=>by
  simp only[B2]at hv;subst hv;exact⟨M,Rle.refl _ _,h,rfl⟩
 |v::vs,ob,M,h,us,hv,h1=>by
  simp only[B2]at hv;obtain⟨u,us',rfl,h2,h3⟩:=hv;have h4:∀u∈us',u.oneCell'=true:=fun x hx=>h1 x (mem_cons_of_mem _ hx)
  unfold Al5;split
  .rename_i x wr hd;obtain⟨M1,a1,a2,a3⟩:=R8 h h2 hd;obtain⟨M2,b1,b2,b3⟩:=Ac6 a2 (B2.mono a1 _ h3) h4;exact⟨M2,a1.trans b1,by rw[H5];exact b2,u,us',rfl,a3.mono b1.le,b3⟩
  .obtain⟨M2,b1,b2,b3⟩:=Ac6 h h3 h4;exact⟨M2,b1,b2,u,us',rfl,.any _ (h1 u ab_),b3⟩
theorem Aq1(h:Ow S wl M0 M ρ ob w){v x:V}{u:Value}{wr:Wr}(hv:B8 M ρ v u)(hd:Fs1 ob v=some (x,wr)):∃M',Rle M M' ρ ρ/\Ow S wl M0 M' ρ (wrO ob wr) w/\∀ρ',B8 M' ρ' x u:=by
 have dat:∀(z:Option (Dat×Wr)),Bu8 ob v=z->(match z with|some (x,wr)=>some (V.d x,wr)|none=>none)=some (x,wr)->∃M',Rle M M' ρ ρ/\Ow S wl M0 M' ρ (wrO ob wr) w/\∀ρ',B8 M' ρ' x u:=fun z hz hd=>by
  cases z with
  |none=>cases hd
  |some p=>obtain⟨y,wr1⟩:=p;cases hd;obtain⟨M',h1,h2,h3⟩:=R8 h hv hz;exact⟨M',h1,h2,fun ρ'=>by simp only[B8];exact h3⟩
 unfold Fs1 at hd;split at hd
 .rename_i cs;split at hd
  .rename_i xs wr1 he;cases hd;obtain⟨us,rfl,hr⟩:=Ae8 hv;obtain⟨M',h1,h2,h3⟩:=J9 h hr he;exact⟨M',h1,h2,fun ρ'=>Dr6 (B2.dV h3)⟩
  .cases hd
 .cases hd;obtain⟨b,o,us,h1,h2,h3⟩:=Ad1 hv;exact⟨M,Rle.refl _ _,h,fun ρ'=>by simp only[B8];exact⟨b,o,us,h1,h2,h3⟩⟩
 .rename_i rr k;obtain⟨i,hi,_,rfl⟩:=J6 hv;have fin:∀{M1:Mem} {ob1:Nat->Option B9} {cs:List V} {wr0:Wr},Rle M M1 ρ ρ->Ow S wl M0 M1 ρ ob1 w->ob1 rr=some (.fzb cs)->ob1=wrO ob wr0->∃M',Rle M M' ρ ρ/\Ow S wl M0 M' ρ (wrO ob (wr0++(Al5 ob1 cs).2)) w/\∀ρ',B8 M' ρ' (.rp (Al5 ob1 cs).1 k) (.pointer (some ⟨i.b,k,none⟩)):=fun{M1 ob1 cs wr0} r1 o1 hr e0=>by
   obtain⟨j,hj,_,c0,us,hM,hP,hrel,h1⟩:=o1.own rr _ hr;rw[hi]at hj;cases hj;obtain⟨M2,b1,b2,b3⟩:=Ac6 o1 hrel h1;refine⟨M2,r1.trans b1,by rw[H5,<-e0];exact b2,fun ρ'=> ?_⟩;simp only[B8];obtain⟨c',hM',hP'⟩:=b1.le _ _ hM;exact⟨i.b,0,us,by simp,⟨c',hM',fun j hj=>by rw[aa_ hj];exact hP' _ _ (hP _ _ (by simp[hj]))⟩,b3⟩
  split at hd
  .rename_i cs hr;cases hd;have:=fin (wr0:=[]) (Rle.refl _ _) h hr rfl;simpa using this
  .rename_i cs hr;cases hd;obtain⟨M1,r1,o1⟩:=h.freezeBox hr;exact fin (wr0:=[(rr,.fzb cs)]) r1 o1 (B3 _ _ _) rfl
  .cases hd
 .exact dat _ rfl hd
theorem Ah6:∀{vs:List V} {ob:Nat->Option B9} {M:Mem} (_h:Ow S wl M0 M ρ ob w) {us:List Value} {xs:List V} {wr:Wr},B2 M ρ vs us->Cx6 ob vs=some (xs,wr)->∃M',Rle M M' ρ ρ/\Ow S wl M0 M' ρ (wrO ob wr) w/\∀ρ',B2 M' ρ' xs us
 |[],ob,M,h,us,xs,wr,hv,hd=>by
  simp only[Cx6,Option.some.injEq,Prod.mk.injEq]at hd;obtain⟨rfl,rfl⟩:=hd;simp only[B2]at hv;subst hv;exact⟨M,Rle.refl _ _,h,fun _=>by simp only[B2]⟩
 |v::vs,ob,M,h,us,xs,wr,hv,hd=>by
  simp only[B2]at hv;obtain⟨u,us',rfl,h1,h2⟩:=hv;unfold Cx6 at hd;split at hd
  .rename_i x wr1 he;obtain⟨M1,a1,a2,a3⟩:=Aq1 h h1 he;split at hd
   .rename_i ys wr2 hs;cases hd;obtain⟨M2,b1,b2,b3⟩:=Ah6 a2 (B2.mono a1 _ h2) hs;exact⟨M2,a1.trans b1,by rw[H5];exact b2,fun ρ'=>by
     simp only[B2];exact⟨u,us',rfl,B8.mono (ρ':=ρ') (ρ:=ρ') ⟨b1.le,fun _ j hj=>⟨j,hj,ad_ _,fun _=>rfl,fun _=>rfl⟩⟩ _ (a3 ρ'),b3 ρ'⟩⟩
   .cases hd
  .cases hd
theorem Ce9(h:Ow S wl M0 M ρ ob w){v x:V}{u:Value}{wr:Wr}(hv:B8 M ρ v u)(hd:Cx7 ob v=some (x,wr)):∃M',Rle M M' ρ ρ/\Ow S wl M0 M' ρ (wrO ob wr) w/\∀ρ',B8 M' ρ' x u:=by
 unfold Cx7 at hd;split at hd
 .rename_i f first cap
  simp only[B8]at hv;obtain⟨fs,cs,rfl,hf,hc⟩:=hv;split at hd
  .cases hd;simp only[B2]at hf hc;subst hf;subst hc;exact⟨M,Rle.refl _ _,h,fun ρ'=>by simp only[B8];exact .fnc _⟩
  .split at hd
   .rename_i xs wr1 he;split at hd
    .rename_i ys wr2 he2;cases hd;obtain⟨M1,a1,a2,a3⟩:=Ah6 h hf he;obtain⟨M2,b1,b2,b3⟩:=Ah6 a2 (B2.mono a1 _ hc) he2;refine⟨M2,a1.trans b1,by rw[H5];exact b2,fun ρ'=> ?_⟩;simp only[B8];exact⟨fs,cs,rfl,B2.mono (ρ':=ρ') (ρ:=ρ') ⟨b1.le,fun _ j hj=>⟨j,hj,ad_ _,fun _=>rfl,fun _=>rfl⟩⟩ _ (a3 ρ'),b3 ρ'⟩
    .cases hd
   .cases hd
 .exact Aq1 h hv hd
theorem F1:∀{vs:List V} {ob:Nat->Option B9} {M:Mem} (_:Ow S wl M0 M ρ ob w) {us:List Value} {xs:List V} {wr:Wr},B2 M ρ vs us->M7 ob vs=some (xs,wr)->∃M',Rle M M' ρ ρ/\Ow S wl M0 M' ρ (wrO ob wr) w/\∀ρ',B2 M' ρ' xs us
 |[],ob,M,h,us,xs,wr,hv,hd=>by
  simp only[M7,Option.some.injEq,Prod.mk.injEq]at hd;obtain⟨rfl,rfl⟩:=hd;simp only[B2]at hv;subst hv;exact⟨M,Rle.refl _ _,h,fun _=>by simp only[B2]⟩
 |v::vs,ob,M,h,us,xs,wr,hv,hd=>by
  simp only[B2]at hv;obtain⟨u,us',rfl,h1,h2⟩:=hv;unfold M7 at hd;split at hd
  .rename_i x wr1 he;obtain⟨M1,a1,a2,a3⟩:=Ce9 h h1 he;split at hd
   .rename_i ys wr2 hs;cases hd;obtain⟨M2,b1,b2,b3⟩:=F1 a2 (B2.mono a1 _ h2) hs;exact⟨M2,a1.trans b1,by rw[H5];exact b2,fun ρ'=>by
     simp only[B2];exact⟨u,us',rfl,B8.mono (ρ':=ρ') (ρ:=ρ') ⟨b1.le,fun _ j hj=>⟨j,hj,ad_ _,fun _=>rfl,fun _=>rfl⟩⟩ _ (a3 ρ'),b3 ρ'⟩⟩
   .cases hd
  .cases hd
end
end
section
section
variable {r:Option Nat} {P:Program} {a:Act} {w wl:World} {S:L8} {M0 M:Mem} {ρ:Rho} {ob:Nat->Option B9} {ev:Operand->V} {d:Nat} {ty:TypeId} {op:Op}
theorem D5.after{M':Mem}{wr wr':Wr}{v:V}(hr:Rle M M' ρ ρ)(h:D5 r P a op S wl M0 M' ρ (wrO ob wr) w v wr'):D5 r P a op S wl M0 M ρ ob w v (wr++wr'):=
 Eff.mono h fun u w' ⟨M2,ρ2,h1,h2,h3⟩=>⟨M2,ρ2,hr.trans h1,by rw[H5];exact h2,h3⟩
theorem K6{t e:TypeId}(h:Ak3 P t=some e):P.underlying t=some (.slice e):=by
 unfold Ak3 at h;split at h
 .rename_i e' he;cases h;exact he
 .cases h
theorem Bt8{t e:TypeId}{n:Nat}(h:Fk5 P t=some (n,e)):P.underlying t=some (.array n e):=by
 unfold Fk5 at h;split at h
 .rename_i e' he;cases h;exact he
 .cases h
theorem Bp8{sz:Nat}{es:List (List Dat)}{u:Value}(h:T7 M (.sl sz es) u):∃p cap,u= .slice p es.length cap/\es.length<=cap:=by
 cases h with
 |sl _ _ p cap b o us hcap=>exact⟨p,cap,rfl,hcap⟩
theorem Ck3{x:Operand}{t k e:TypeId}{b:Nat}{l:List MapEntry}{clock:Nat}{w:World}(hx:a.eval x= .map (some b))(ht:P.underlying t=some (.map k e))(hb:w.heap[b]? =some (.map l.toArray clock)):Run P a (.call {callee:= .builtin .len,args:= #[x],argTypes:= #[t]}) w (.int .i64 l.length) w:=by
 intro d ty pos aft g;simp[execOp,resolve,invoke,builtin,hx,Builtin.len_,run_underlying ht,goInt,getObj,Sem.run,hb,Result.andThen]
theorem Bf4{x:Operand}{t k e:TypeId}{w:World}(hx:a.eval x= .map none)(ht:P.underlying t=some (.map k e)):Run P a (.call {callee:= .builtin .len,args:= #[x],argTypes:= #[t]}) w (.int .i64 0) w:=by
 intro d ty pos aft g;simp[execOp,resolve,invoke,builtin,hx,Builtin.len_,run_underlying ht,goInt]
theorem Fc4{c:Call}(h:Ow S wl M0 M ρ ob w)(hev:∀x,B8 M ρ (ev x) (a.eval x)){x:Operand}{t:TypeId}(hc:c={callee:= .builtin .len,args:= #[x],argTypes:= #[t]}):(Ee5 ob P t (ev x)).Good (D5 r P a (.call c) S wl M0 M ρ ob w):=by
 subst hc;have hx:=hev x;generalize ev x=vx at*;unfold Ee5;split
 .rename_i n e ht;exact D5.val h (Ck2 ht) rfl K9
 .rename_i ht;split
  .rename_i s;exact D5.val h (Ck4 (P0 hx) ht) rfl K9
  .trivial
 .rename_i e ht;split
  .rename_i es;obtain⟨p,cap,hu,_⟩:=Bp8 (I6 hx);exact D5.val h (I2 hu ht) rfl K9
  .simp only[B8]at hx;obtain⟨p,hu⟩:=hx;exact D5.val h (I2 hu ht) rfl K9
  .rename_i q g off;split
   .rename_i g' e' sz es hr;split
    .rename_i hg;obtain rfl:=nB_ hg;obtain⟨i,hi,_,hu⟩:=J7 hx;obtain⟨_,hg',_,hn,_⟩:=h.buf_heap hr hi;obtain⟨ho,p,hu,_⟩:=hu hg'.symm;exact D5.val h (I2 hu ht) rfl (by rw[length_drop,hn];exact K9)
    .trivial
   .rename_i g' sz es hr;split
    .rename_i hg;obtain rfl:=nB_ hg;obtain⟨i,hi,_,hu⟩:=J7 hx;obtain⟨hg',_,hn,_⟩:=h.fzs_at hr hi;obtain⟨ho,p,hu,_⟩:=hu hg'.symm;exact D5.val h (I2 hu ht) rfl (by rw[length_drop,hn];exact K9)
    .trivial
   .trivial
  .rename_i q g off len;split
   .rename_i g' e' sz es hr;split
    .rename_i hg;obtain rfl:=nB_ hg;obtain⟨i,hi,_,hu⟩:=Av6 hx;obtain⟨_,hg',_,hn,_⟩:=h.buf_heap hr hi;obtain⟨ho,p,hu,_⟩:=hu hg'.symm;exact D5.val h (I2 hu ht) rfl K9
    .trivial
   .rename_i g' sz es hr;split
    .rename_i hg;obtain rfl:=nB_ hg;obtain⟨i,hi,_,hu⟩:=Av6 hx;obtain⟨hg',_,hn,_⟩:=h.fzs_at hr hi;obtain⟨ho,p,hu,_⟩:=hu hg'.symm;exact D5.val h (I2 hu ht) rfl K9
    .trivial
   .trivial
  .trivial
 .rename_i kt et ht;split
  .rename_i q;split
   .rename_i kk ag sz es hr;simp only[B8]at hx;obtain⟨i,hi,_,hu⟩:=hx;obtain⟨j,hj,hfix,hm,ents,clock,hb,h0,l,rfl,hl⟩:=h.own q _ hr;rw[hi]at hj;cases hj;exact D5.val h (Ck3 hu ht hb) rfl (by rw[hl.len];exact K9)
   .trivial
  .have hu:a.eval x= .map none:=by
    have hx:=I6 hx;generalize a.eval x=u at hx;cases hx;rfl
   exact D5.val h (Bf4 hu ht) rfl K9
  .trivial
 .trivial
theorem N0{α:Type}{l:List α}{j:Int}{y:α}(h:C2 l j=some y):j=(j.toNat:Int)/\l[j.toNat]? =some y:=by
 obtain⟨k,rfl,hk⟩:=Bx0 h;exact⟨by simp,by simpa using hk⟩
theorem N1{v:V}{n:Int}{u:Value}(h:iv v=some n)(hv:B8 M ρ v u):∃k,u= .int k n:=by
 unfold iv at h;split at h
 .rename_i k m;cases h;exact⟨k,O9 hv⟩
 .cases h
theorem Fa1{t e:TypeId}{x i:Operand}(h:Ow S wl M0 M ρ ob w)(ht:Ak3 P t=some e){n:Nat}(hs:F9 P e=some n){es:List (List Dat)}{j:Int}{k:IntKind}{cs:List Dat}(hx:T7 M (.sl n es) (a.eval x))(hi:a.eval i= .int k j)(hj:C2 es j=some cs):
 D5 r P a (.indexAddr t x i) S wl M0 M ρ ob w (.rp cs 0) []:=by
 obtain⟨hj0,hj1⟩:=N0 hj;have ht':=K6 ht;generalize hu:a.eval x=u at hx;cases hx with
 |sl _ _ p cap b o us hcap ha hc hss hr=>
  have hlt:j.toNat<es.length:=(ac_.1 hj1).1;have hp:=ha (fun e=>by subst e;simp at hlt);subst hp;obtain⟨l1,l2⟩:=hss _ _ hj1;refine D5.val h (Z0 (i:=j.toNat) hu (by rw[hi,<-hj0]) ht' hs hlt) rfl ?_;simp only[B8];exact⟨b,o+j.toNat*n,us j.toNat,by simp,hc _ hlt,C9.of_get (by omega) (fun q c u h1 h2=>hr _ q cs c u hj1 h1 h2)⟩
theorem Em7{t e:TypeId}{x i:Operand}(h:Ow S wl M0 M ρ ob w)(ht:Ak3 P t=some e){n:Nat}(hs:F9 P e=some n){q g off len:Nat}{e':TypeId}{es:List (List Dat)}{j:Int}{k:IntKind}(hr:ob q=some (.buf g e' n es))
 (hx:∃i,ρ q=some i/\off+len<=i.n/\∃p,a.eval x= .slice p len (i.tot-off)/\(off<i.tot->p=some ⟨i.b,(i.base+off)*i.sz,none⟩)) (hi:a.eval i= .int k j) (hj0:j=(j.toNat:Int)) (hlt:j.toNat<len):
 D5 r P a (.indexAddr t x i) S wl M0 M ρ ob w (.ept q g (off+j.toNat) 0) []:=by
 obtain⟨f,hf,ho,p,hu,hp⟩:=hx;obtain⟨_,hg,hsz,hn,htot,_⟩:=h.buf_heap hr hf;have hp:=hp (by omega);subst hp;refine D5.val h (Z0 (i:=j.toNat) hu (by rw[hi,<-hj0]) (K6 ht) hs hlt) rfl ?_;simp only[B8];exact⟨f,hf,by omega,rfl,fun _=>⟨by omega,by rw[hsz];simp only[Nat.add_mul,Nat.add_zero];congr 3;omega⟩⟩
theorem W2:∀(s n:Nat) (l:List Dat) (j:Nat) (c:List Dat),(M8 s n l)[j]? =some c->j<n/\c=(l.drop (j*s)).take s
 |_,0,_,_,_,h=>by simp[M8]at h
 |s,n+1,l,0,c,h=>by simp[M8]at h;subst h;simp
 |s,n+1,l,j+1,c,h=>by
  simp only[M8,getElem?_cons_succ]at h;obtain⟨h1,h2⟩:=W2 s n (l.drop s) j c h;refine⟨by omega,?_⟩;rw[h2,az_,Nat.add_mul,bj_,cs_]
theorem Ac8{a b:Nat}(h:Nat.blt a b=true):a<b:=by simpa[Nat.blt_eq] using h
theorem Bt9{t e:TypeId}{x i:Operand}(h:Ow S wl M0 M ρ ob w){n s:Nat}(ht:Fk5 P t=some (n,e))(hs:F9 P e=some s){b o:Nat}{j:Int}{k:IntKind}(hx:a.eval x= .pointer (some ⟨b,o,none⟩))(hi:a.eval i= .int k j)(hj0:j=(j.toNat:Int))(hlt:j.toNat<n){v:V}(hv:B8 M ρ v (.pointer (some ⟨b,o+j.toNat*s,none⟩))):
 D5 r P a (.indexAddr t x i) S wl M0 M ρ ob w v []:=
 D5.val h (Ar8 (i:=j.toNat) hx (by rw[hi,<-hj0]) (Bt8 ht) hs hlt) rfl hv
theorem Bu5{s n k:Nat}{cs c:List Dat}{j:Int}{b o:Nat}{us:List Value}(hM:V7 M b o us)(hr:C9 M cs us)(hj:C2 (M8 s n (cs.drop k)) j=some c):j=(j.toNat:Int)/\j.toNat<n/\
 B8 M ρ (match Nat.beq c.length s with|true=> .rp c 0|false=> .undef) (.pointer (some ⟨b,o+k+j.toNat*s,none⟩)):=by
 obtain⟨hj0,hj1⟩:=N0 hj;obtain⟨h1,h2⟩:=W2 _ _ _ _ _ hj1;refine⟨hj0,h1,?_⟩;split
 .rename_i hb;have hb:=nB_ hb;rw[az_]at h2;simp only[B8];have hl:=hr.len;obtain⟨blk,hblk,hq⟩:=hM;refine⟨b,o+k+j.toNat*s,(us.drop (k+j.toNat*s)).take s,by simp,⟨blk,hblk,fun q hq'=> ?_⟩,by rw[h2];exact(hr.drop _).take s⟩;simp only[length_take,length_drop]at hq';rw[getElem?_take_of_lt (by omega),getElem?_drop,<-hq _ (by omega)];congr 1;omega
 .exact C4 _
theorem Bc6:∀{cs:List V} {ds:List Dat} {us:List Value},dOf cs=some ds->B2 M ρ cs us->C9 M ds us
 |[],ds,us,h,hr=>by simp only[dOf,Option.some.injEq]at h;subst h;simp only[B2]at hr;exact hr
 |c::cs,ds,us,h,hr=>by
  simp only[B2]at hr;obtain⟨u,us',rfl,h1,h2⟩:=hr;cases c with
  |d x=>
   simp only[dOf]at h;split at h
   .rename_i xs hx;cases h;exact⟨u,us',rfl,I6 h1,Bc6 hx h2⟩
   .cases h
  |_=>simp[dOf]at h
theorem Dw4(h:Ow S wl M0 M ρ ob w){q g off sz:Nat}{e:TypeId}{es:List (List Dat)}{u:Value}(hr:ob q=some (.buf g e sz es))(hv:B8 M ρ (.suf q g off) u):
 ∃i,ρ q=some i/\off+(es.drop off).length<=i.n/\∃p,u= .slice p (es.drop off).length (i.tot-off)/\(off<i.tot->p=some ⟨i.b,(i.base+off)*i.sz,none⟩):=by
 obtain⟨i,hi,_,hu⟩:=J7 hv;obtain⟨_,hg,hsz,hn,_⟩:=h.buf_heap hr hi;obtain⟨ho,p,hu,hp⟩:=hu hg.symm;exact⟨i,hi,by rw[length_drop];omega,p,by rw[hu,length_drop,hn],hp⟩
theorem Bn5{t:TypeId}{x i:Operand}(h:Ow S wl M0 M ρ ob w)(hev:∀x,B8 M ρ (ev x) (a.eval x)):(Y4 P ob t (ev x) (ev i) (Ac1 i)).Good (D5 r P a (.indexAddr t x i) S wl M0 M ρ ob w):=by
 have hx:=hev x;have hi:=hev i;generalize ev x=vx at*;generalize ev i=vi at*;unfold Y4;split
 .trivial
 .rename_i j hj;obtain⟨k,hk⟩:=N1 hj hi;split
  .split
   .rename_i e he;split
    .rename_i n hs;split
     .rename_i hn;obtain rfl:=nB_ hn;intro cs hcs;exact Fa1 h he hs (I6 hx) hk hcs
     .trivial
    .trivial
   .trivial
  .rename_i q g off;split
   .rename_i e he;split
    .rename_i n g' e' sz es hs hr;split
     .rename_i hg hn;obtain rfl:=nB_ hg;obtain rfl:=nB_ hn;intro cs hcs;obtain⟨hj0,hj1⟩:=N0 hcs;exact Em7 h he hs hr (Dw4 h hr hx) hk hj0 (ac_.1 hj1).1
     .trivial
    .rename_i n g' sz es hs hr;split
     .rename_i hg hn;obtain rfl:=nB_ hg;obtain rfl:=nB_ hn;intro cs hcs;exact Fa1 h he hs (Bj0 h hr hx) hk hcs
     .trivial
    .trivial
   .trivial
  .rename_i q g off len;split
   .rename_i e he;split
    .rename_i n g' e' sz es hs hr;split
     .rename_i hg hn;obtain rfl:=nB_ hg;obtain rfl:=nB_ hn;intro cs hcs;obtain⟨hj0,hj1⟩:=N0 hcs;have hlt:=(ac_.1 hj1).1;simp only[length_take]at hlt;obtain⟨f,hf,_,hu⟩:=Av6 hx;obtain⟨_,hg',_⟩:=h.buf_heap hr hf;exact Em7 h he hs hr ⟨f,hf,hu hg'.symm⟩ hk hj0 (by omega)
     .trivial
    .rename_i n g' sz es hs hr;split
     .rename_i hg hn;obtain rfl:=nB_ hg;obtain rfl:=nB_ hn;intro cs hcs;exact Fa1 h he hs (Cq5 h hr hx) hk hcs
     .trivial
    .trivial
   .trivial
  .rename_i cs k';obtain⟨b,o,us,hp,hM,hrel⟩:=Ad1 hx;split
   .rename_i n e ht;split
    .rename_i s hs;split
     .split
      .rename_i h1 h2;have h1:=of_decide_eq_true h1;exact Bt9 h ht hs hp hk (by omega) (Ac8 h2) (by simp only[B8];exact⟨b,o,us,by rw[Nat.add_assoc],hM,hrel⟩)
      .trivial
     .intro c hc;obtain⟨h1,h2,h3⟩:=Bu5 (ρ:=ρ) hM hrel hc;exact Bt9 h ht hs hp hk h1 h2 h3
    .trivial
   .trivial
  .rename_i q k';obtain⟨f,hf,hfix,hp⟩:=J6 hx;split
   .rename_i n e ht;split
    .rename_i s hs;split
     .split
      .rename_i h1 h2;have h1:=of_decide_eq_true h1;exact Bt9 h ht hs hp hk (by omega) (Ac8 h2) (by simp only[B8];exact⟨f,hf,hfix,rfl⟩)
      .trivial
     .split
      .rename_i cs hr;split
       .rename_i ds hds;intro c hc;obtain⟨f',hf',hok⟩:=h.own q _ hr;rw[hf]at hf';cases hf';obtain⟨_,c0,us,hM,hP,hrel,_⟩:=hok;obtain⟨h1,h2,h3⟩:=Bu5 (o:=0) (ρ:=ρ) ⟨_,hM,fun j hj=>by rw[aa_ hj];exact hP _ _ (by simp[hj])⟩ (Bc6 hds hrel) hc;rw[Nat.zero_add]at h3;exact Bt9 h ht hs hp hk h1 h2 h3
       .trivial
      .split
       .rename_i h1 h2;have h1:=of_decide_eq_true h1;exact Bt9 h ht hs hp hk (by omega) (Ac8 h2) (by simp only[B8];exact⟨f,hf,hfix,rfl⟩)
       .trivial
      .trivial
    .trivial
   .trivial
  .trivial
end
end
section
section
variable {r:Option Nat} {P:Program} {a:Act} {w wl:World} {S:L8} {M0 M:Mem} {ρ:Rho} {ob:Nat->Option B9} {ev:Operand->V} {d:Nat} {ty:TypeId} {op:Op}
def isB(a:Act)(o:Option Operand)(dflt m:Nat):Prop:=match o with
 |none=>m=dflt
 |some x=>∃k,a.eval x= .int k (m:Int)
theorem X0{k:IntKind}{m y:Nat}{c:BoundsCode}(h:m<=y):(Instr.sliceBound (.int k (m:Int)) y c).run P w= .ok m w:=by
 have h2:(0:Int)<=(m:Int)/\(m:Int)<=(y:Int):=by omega
 simp only[Instr.sliceBound,asIntOf,Sem.run_bind,Sem.run_pure,Result.andThen_ok];rw[if_pos h2];simp
theorem Ar7{b:Bool}{len cap l hh:Nat}{lo hi:Option Operand}(hlo:isB a lo 0 l)(hhi:isB a hi len hh)(h1:l<=hh)(h2:hh<=cap):
 (Instr.sliceBounds b len cap (lo.map a.eval) (hi.map a.eval) none).run P w= .ok (l,hh,cap) w:=by
 cases lo with
 |none=>
  simp only[isB]at hlo;subst hlo;cases hi with
  |none=>simp only[isB]at hhi;subst hhi;simp[Instr.sliceBounds]
  |some y=>obtain⟨k,hy⟩:=hhi;simp[Instr.sliceBounds,hy,X0 h2]
 |some x=>
  obtain⟨k,hx⟩:=hlo;cases hi with
  |none=>simp only[isB]at hhi;subst hhi;simp[Instr.sliceBounds,hx,X0 h1]
  |some y=>obtain⟨k',hy⟩:=hhi;simp[Instr.sliceBounds,hx,hy,X0 h1,X0 h2]
theorem Bc8{t e:TypeId}{x:Operand}{lo hi:Option Operand}{n len cap l hh:Nat}{p:Option Addr}(ht:P.underlying t=some (.slice e))(hs:F9 P e=some n)(hx:a.eval x= .slice p len cap)(hlo:isB a lo 0 l)(hhi:isB a hi len hh)(h1:l<=hh)(h2:hh<=cap):
 Run P a (.slice t x lo hi none) w (.slice (if cap=l then p else p.map (·.add (l*n))) (hh-l) (cap-l)) w:=by
 intro d ty pos aft g;have hb:=Ar7 (P:=P) (w:=w) (b:=true) hlo hhi h1 h2;simp[execOp,Instr.sliceAt,Instr.slice,run_underlying ht,hx,hb,H4 hs]
theorem Ca5{t e:TypeId}{x:Operand}{lo hi:Option Operand}{n s b o l hh:Nat}(ht:P.underlying t=some (.array n e))(hs:F9 P e=some s)(hx:a.eval x= .pointer (some ⟨b,o,none⟩))(hlo:isB a lo 0 l)(hhi:isB a hi n hh)(h1:l<=hh)(h2:hh<=n):
 Run P a (.slice t x lo hi none) w (.slice (some (if n=l then⟨b,o,none⟩ else(⟨b,o,none⟩:Addr).add (l*s))) (hh-l) (n-l)) w:=by
 intro d ty pos aft g;have hb:=Ar7 (P:=P) (w:=w) (b:=false) hlo hhi h1 h2;simp[execOp,Instr.sliceAt,Instr.sureAddr,run_underlying ht,hx,hb,H4 hs]
theorem Ca6{t:TypeId}{x:Operand}{lo hi:Option Operand}{s:List UInt8}{l hh:Nat}(ht:P.underlying t=some .string)(hx:a.eval x=Z9 s)(hlo:isB a lo 0 l)(hhi:isB a hi s.length hh)(h1:l<=hh)(h2:hh<=s.length):
 Run P a (.slice t x lo hi none) w (Z9 ((s.drop l).take (hh-l))) w:=by
 intro d ty pos aft g;have hb:=Ar7 (P:=P) (w:=w) (b:=false) (len:=(⟨s.toArray⟩:ByteArray).size) hlo (hhi:isB a hi (⟨s.toArray⟩:ByteArray).size hh) h1 (show hh<=(⟨s.toArray⟩:ByteArray).size from h2);have he:(⟨s.toArray⟩:ByteArray).extract l hh=⟨((s.drop l).take (hh-l)).toArray⟩:=by
  apply ByteArray.ext;simp[ByteArray.data_extract,extract_eq_take_drop]
 simp[execOp,Instr.sliceAt,Instr.slice,run_underlying ht,hx,Z9,hb,he]
theorem Av9{α:Type}{l l':List α}{lo hi:Int}(h:slc l lo hi=some l'):0<=lo/\lo<=hi/\hi<=l.length/\l'=(l.drop lo.toNat).take (hi-lo).toNat:=by
 unfold slc at h;cases hb:(decide (0<=lo)&&decide (lo<=hi)&&decide (hi<=l.length)) with
 |true=>
  rw[hb]at h;cases h;simp only[Bool.and_eq_true,decide_eq_true_eq]at hb;exact⟨hb.1.1,hb.1.2,hb.2,rfl⟩
 |false=>rw[hb]at h;cases h
theorem Ar1{o:Option Operand}{x:Option Int}{dflt:Nat}(h:match o,x with|none,none=>True|some y,some n=>∃k,a.eval y= .int k n|_,_=>False)(h0:0<=x.getD dflt):isB a o dflt (x.getD dflt).toNat:=by
 cases o with
 |none=>cases x with
  |none=>simp[isB]
  |some n=>exact h.elim
 |some y=>cases x with
  |none=>exact h.elim
  |some n=>
   obtain⟨k,hk⟩:=h;simp only[Option.getD_some]at h0⊢;exact⟨k,by rw[hk];congr 1;omega⟩
theorem Al1{o:Option Operand}{x:Option Int}(h:match o,x with|none,none=>True|some y,some n=>∃k,a.eval y= .int k n|_,_=>False)(h0:0<=x.getD 0):isB a o 0 (x.getD 0).toNat:=Ar1 (dflt:=0) h h0
theorem Cu7{t e:TypeId}{x:Operand}{lo hi:Option Operand}(h:Ow S wl M0 M ρ ob w){n:Nat}{xl xh:Option Int}(ht:P.underlying t=some (.slice e))(hs:F9 P e=some n)
 (hlo:match lo,xl with|none,none=>True|some y,some n=>∃k,a.eval y= .int k n|_,_=>False) (hhi:match hi,xh with|none,none=>True|some y,some n=>∃k,a.eval y= .int k n|_,_=>False)
 {es es':List (List Dat)} (hx:T7 M (.sl n es) (a.eval x)) (hc:slc es (xl.getD 0) (xh.getD es.length)=some es'):D5 r P a (.slice t x lo hi none) S wl M0 M ρ ob w (.d (.sl n es')) []:=by
 obtain⟨h0,h1,h2,rfl⟩:=Av9 hc;generalize hu:a.eval x=u at hx;cases hx with
 |sl _ _ p cap b o us hcap ha hcc hss hr=>
  have b1:=Al1 hlo h0;have b2:=Ar1 (dflt:=es.length) hhi (by omega);have hl:(((es.drop (xl.getD 0).toNat).take (xh.getD es.length-xl.getD 0).toNat)).length=(xh.getD es.length).toNat-(xl.getD 0).toNat:=by rw[length_take,length_drop];omega
  refine D5.val h (Bc8 ht hs hu b1 b2 (by omega) (by omega)) rfl ?_;rw[<-hl];refine V5 (.sl n _ _ _ b (o+(xl.getD 0).toNat*n) (fun j=>us ((xl.getD 0).toNat+j)) (by rw[hl];omega) (fun hne=> ?_) (fun j hj=> ?_) (fun j cs hj=> ?_) (fun j q cs c u hj h3 h4=> ?_))
  .have hpos:=as_.2 hne;have hne':es≠[]:=fun e=>by subst e;simp at hpos
   rw[if_neg (by omega),ha hne'];simp[E2]
  .have:=hcc ((xl.getD 0).toNat+j) (by omega);rw[Nat.add_mul]at this
   rwa [Nat.add_assoc]
  .rw[getElem?_take_of_lt (by have:=(ac_.1 hj).1;omega),getElem?_drop]at hj;exact hss _ cs hj
  .rw[getElem?_take_of_lt (by have:=(ac_.1 hj).1;omega),getElem?_drop]at hj;exact hr _ q cs c u hj h3 h4
theorem Aq3:∀(s n:Nat) (l:List Dat),(M8 s n l).length=n
 |_,0,_=>rfl
 |s,n+1,l=>by simp only[M8,length_cons,Aq3 s n]
theorem Dw0{t e:TypeId}{x:Operand}{lo hi:Option Operand}(h:Ow S wl M0 M ρ ob w){n s k:Nat}{xl xh:Option Int}{cs:List Dat}(ht:P.underlying t=some (.array n e))(hs:F9 P e=some s)
 (hlo:match lo,xl with|none,none=>True|some y,some n=>∃k,a.eval y= .int k n|_,_=>False) (hhi:match hi,xh with|none,none=>True|some y,some n=>∃k,a.eval y= .int k n|_,_=>False)
 (hl:k+n*s<=cs.length) {es':List (List Dat)} (hx:B8 M ρ (.rp cs k) (a.eval x)) (hc:slc (M8 s n (cs.drop k)) (xl.getD 0) (xh.getD n)=some es'):D5 r P a (.slice t x lo hi none) S wl M0 M ρ ob w (.d (.sl s es')) []:=by
 obtain⟨h0,h1,h2,rfl⟩:=Av9 hc;rw[Aq3]at h2;simp only[B8]at hx;obtain⟨b,o,us,hu,hM,hr⟩:=hx;have b1:=Al1 hlo h0;have b2:=Ar1 (dflt:=n) hhi (by omega);have hlen:((((M8 s n (cs.drop k)).drop (xl.getD 0).toNat).take (xh.getD n-xl.getD 0).toNat)).length=(xh.getD n).toNat-(xl.getD 0).toNat:=by rw[length_take,length_drop,Aq3];omega
 refine D5.val h (Ca5 ht hs hu b1 b2 (by omega) (by omega)) rfl ?_;rw[<-hlen];have hul:=hr.len;obtain⟨blk,hblk,hq⟩:=hM;have hmul:∀{i:Nat},(xl.getD 0).toNat+i<n->k+((xl.getD 0).toNat+i)*s+s<=cs.length:=fun{i} hi=>by
  have:((xl.getD 0).toNat+i+1)*s<=n*s:=be_ s (by omega);rw[Nat.add_mul,bj_]at this;omega
 refine V5 (.sl s _ _ _ b (o+k+(xl.getD 0).toNat*s) (fun i=>(us.drop (k+((xl.getD 0).toNat+i)*s)).take s) (by rw[hlen];omega) (fun hne=> ?_) (fun i hi=>⟨blk,hblk,fun q hq'=> ?_⟩) (fun i c hi=> ?_) (fun i q c d u hi h3 h4=> ?_))
 .have hpos:=as_.2 hne;rw[if_neg (by omega)];simp[Addr.add]
 .rw[hlen]at hi;simp only[length_take,length_drop]at hq';rw[getElem?_take_of_lt (by omega),getElem?_drop,<-hq _ (by omega)];congr 1;rw[Nat.add_mul];omega
 .have hlt:=(ac_.1 hi).1;rw[hlen]at hlt;rw[getElem?_take_of_lt (by omega),getElem?_drop]at hi;obtain⟨g1,g2⟩:=W2 _ _ _ _ _ hi;have:=hmul g1;rw[g2];simp only[length_take,length_drop];omega
 .have hlt:=(ac_.1 hi).1;rw[hlen]at hlt;rw[getElem?_take_of_lt (by omega),getElem?_drop]at hi;obtain⟨g1,g2⟩:=W2 _ _ _ _ _ hi;rw[g2,az_]at h3;exact((hr.drop (k+((xl.getD 0).toNat+i)*s)).take s).get h3 h4
theorem Cb1{t e:TypeId}{x:Operand}{lo hi:Option Operand}(h:Ow S wl M0 M ρ ob w){n l hh:Nat}(ht:P.underlying t=some (.slice e))(hs:F9 P e=some n){q g off len:Nat}{e':TypeId}{es:List (List Dat)}(hr:ob q=some (.buf g e' n es))
 (hx:∃i,ρ q=some i/\off+len<=i.n/\∃p,a.eval x= .slice p len (i.tot-off)/\(off<i.tot->p=some ⟨i.b,(i.base+off)*i.sz,none⟩)) (hlo:isB a lo 0 l) (hhi:isB a hi len hh) (h1:l<=hh) (h2:hh<=len):
 D5 r P a (.slice t x lo hi none) S wl M0 M ρ ob w (.osl q g (off+l) (hh-l)) []/\(len=es.length-off->hh=len->off<=es.length->D5 r P a (.slice t x lo hi none) S wl M0 M ρ ob w (.suf q g (off+l)) []):=by
 obtain⟨i,hi',ho,p,hu,hp⟩:=hx;obtain⟨_,hg,hsz,hn,htot,_⟩:=h.buf_heap hr hi';have hrun:=Bc8 (w:=w) ht hs hu hlo hhi h1 (by omega);have hadr:off+l<i.tot->(if i.tot-off=l then p else p.map (·.add (l*n)))=some ⟨i.b,(i.base+(off+l))*i.sz,none⟩:=fun hlt=>by
  rw[if_neg (by omega),hp (by omega)];simp only[Option.map_some,E2,hsz,<-Nat.add_mul,Nat.add_assoc]
 have e1:i.tot-off-l=i.tot-(off+l):=by omega
 rw[e1]at hrun;refine⟨D5.val h hrun rfl ?_,fun e2 e3 e4=>D5.val h hrun rfl ?_⟩
 .simp only[B8];exact⟨i,hi',by omega,rfl,fun _=>⟨by omega,_,rfl,hadr⟩⟩
 .simp only[B8];exact⟨i,hi',by omega,rfl,fun _=>⟨by omega,_,by congr 1;omega,hadr⟩⟩
theorem Y3{t:TypeId}{x:Operand}{lo hi:Option Operand}(h:Ow S wl M0 M ρ ob w){v:V}{xl xh:Option Int}(hx:B8 M ρ v (a.eval x))
 (hlo:match lo,xl with|none,none=>True|some y,some n=>∃k,a.eval y= .int k n|_,_=>False) (hhi:match hi,xh with|none,none=>True|some y,some n=>∃k,a.eval y= .int k n|_,_=>False):
 (Ab9 P ob t v xl xh).Good (D5 r P a (.slice t x lo hi none) S wl M0 M ρ ob w):=by
 unfold Ab9;split
 .rename_i ht;split
  .rename_i s;intro z hz;have hz:=J5 hz;simp only[Bool.and_eq_true,decide_eq_true_eq]at hz;obtain⟨⟨h0,h1⟩,h2⟩:=hz;have b1:=Al1 hlo h0;have b2:=Ar1 (dflt:=s.length) hhi (by omega);have:=Ca6 (w:=w) ht (P0 hx) b1 b2 (by omega) (by omega);have e1:(xh.getD s.length).toNat-(xl.getD 0).toNat=(xh.getD s.length-xl.getD 0).toNat:=by omega
   rw[e1]at this;exact D5.val h this rfl By5
  .trivial
 .rename_i e ht;split
  .trivial
  .rename_i n hs;split
   .rename_i sz es;split
    .rename_i hn;obtain rfl:=nB_ hn;intro es' hes;exact Cu7 h ht hs hlo hhi (I6 hx) hes
    .trivial
   .rename_i q g off;split
    .rename_i g' sz es hr;split
     .rename_i hg hn;obtain rfl:=nB_ hg;obtain rfl:=nB_ hn;intro es' hes;exact Cu7 h ht hs hlo hhi (Bj0 h hr hx) hes
     .trivial
    .rename_i g' e' sz es hr;split
     .rename_i hg hn;obtain rfl:=nB_ hg;obtain rfl:=nB_ hn;have hso:=Dw4 h hr hx;obtain⟨i,hi0,_,hu0⟩:=J7 hx;have hoff:off<=es.length:=by
       obtain⟨_,hg',_,hn',_⟩:=h.buf_heap hr hi0;have:=(hu0 hg'.symm).1;omega
      split
      .intro z hz;have hz:=J5 hz;simp only[Bool.and_eq_true,decide_eq_true_eq]at hz;obtain⟨h0,h1⟩:=hz;have b1:=Al1 hlo h0;have b2:=Ar1 (dflt:=(es.drop off).length) (x:=none) hhi (by simp);simp only[Option.getD_none,Int.toNat_natCast]at b2;exact(Cb1 h ht hs hr hso b1 b2 (by omega) (ad_ _)).2 (by rw[length_drop]) rfl hoff
      .rename_i hv;intro z hz;have hz:=J5 hz;simp only[Bool.and_eq_true,decide_eq_true_eq]at hz;obtain⟨⟨h0,h1⟩,h2⟩:=hz;have b1:=Al1 hlo h0;have b2:=Ar1 (dflt:=(es.drop off).length) (x:=some hv) hhi (by simp only[Option.getD_some];omega);simp only[Option.getD_some]at b2;have:=(Cb1 (r:=r) (M0:=M0) h ht hs hr hso b1 b2 (by omega) (by omega)).1;have e1:hv.toNat-(xl.getD 0).toNat=(hv-xl.getD 0).toNat:=by omega
       rw[e1]at this;exact this
     .trivial
    .trivial
   .trivial
 .rename_i n e ht;split
  .rename_i sz cs k hs;split
   .rename_i hb;intro es' hes;exact Dw0 h ht hs hlo hhi (I1 hb) hx hes
   .trivial
  .trivial
 .trivial
theorem Db1{t e:TypeId}{x hi mx:Operand}{n len cap hh m:Nat}{p:Option Addr}(ht:P.underlying t=some (.slice e))(hs:F9 P e=some n)(hx:a.eval x= .slice p len cap){k k':IntKind}(hhi:a.eval hi= .int k (hh:Int))(hm:a.eval mx= .int k' (m:Int))(h1:hh<=m)(h2:m<=cap):
 Run P a (.slice t x none (some hi) (some mx)) w (.slice (if m=0 then p else p.map (·.add (0*n))) hh m) w:=by
 intro d ty pos aft g;have hb:(Instr.sliceBounds true len cap none (some (a.eval hi)) (some (a.eval mx))).run P w= .ok (0,hh,m) w:=by
  simp[Instr.sliceBounds,hhi,hm,X0 h1,X0 h2]
 simp[execOp,Instr.sliceAt,Instr.slice,run_underlying ht,hx,hb,H4 hs]
theorem Cz0{t:TypeId}{x hi mx:Operand}(h:Ow S wl M0 M ρ ob w){v:V}{xh xm:Int}(hx:B8 M ρ v (a.eval x))(hhi:∃k,a.eval hi= .int k xh)(hm:∃k,a.eval mx= .int k xm):
 (Ak6 P t v xh xm).Good (D5 r P a (.slice t x none (some hi) (some mx)) S wl M0 M ρ ob w):=by
 unfold Ak6;split
 .rename_i e sz es ht;split
  .rename_i n hs;split
   .rename_i hn;obtain rfl:=nB_ hn;intro es' hes;unfold Gq9 at hes;cases hb:(decide (xh<=xm)&&decide (xm<=es.length)) with
    |false=>rw[hb]at hes;cases hes
    |true=>
     rw[hb]at hes;simp only[Bool.and_eq_true,decide_eq_true_eq]at hb;obtain⟨_,h1,h2,rfl⟩:=Av9 (show slc es 0 xh=some es' from hes);have hx:=I6 hx;generalize hu:a.eval x=u at hx;obtain⟨k,hk⟩:=hhi;obtain⟨k',hk'⟩:=hm;obtain⟨j,rfl⟩:=ck_ h1;obtain⟨m,rfl⟩:=ck_ (Int.le_trans h1 hb.1);cases hx with
     |sl _ _ p cap b o us hcap ha hcc hss hr=>
      refine D5.val h (Db1 ht hs hu hk hk' (by omega) (by omega)) rfl ?_;have hl:((es.drop (Int.toNat 0)).take (((j:Int)-0).toNat)).length=j:=by rw[length_take,length_drop];simp;omega
      conv=>rhs;rw[<-hl]
      refine V5 (.sl n _ _ _ b o us (by rw[hl];omega) (fun hne=> ?_) (fun i hi=> ?_) (fun i cs hi=> ?_) (fun i q cs c u hi h3 h4=> ?_))
      .have hpos:=as_.2 hne;have hne':es≠[]:=fun e=>by subst e;simp at hpos
       rw[if_neg (by omega),ha hne'];simp[E2]
      .exact hcc i (by omega)
      .rw[getElem?_take_of_lt (by have:=(ac_.1 hi).1;omega),getElem?_drop]at hi;exact hss i cs (by simpa using hi)
      .rw[getElem?_take_of_lt (by have:=(ac_.1 hi).1;omega),getElem?_drop]at hi;exact hr i q cs c u (by simpa using hi) h3 h4
   .trivial
  .trivial
 .trivial
theorem Dn3{t:TypeId}{x:Operand}{lo hi mx:Option Operand}(h:Ow S wl M0 M ρ ob w)(hev:∀x,B8 M ρ (ev x) (a.eval x)):(L3 P ob d ty ev (.slice t x lo hi mx)).Good (D5 r P a (.slice t x lo hi mx) S wl M0 M ρ ob w):=by
 cases mx with
 |some m=>
  cases lo with
  |some z=>cases hi<;>trivial
  |none=>
   cases hi with
   |none=>trivial
   |some y=>
    simp only[L3];split
    .rename_i l n hl hn;exact Cz0 h (hev x) (N1 hl (hev y)) (N1 hn (hev m))
    .trivial
 |none=>
  simp only[L3];cases lo with
  |none=>
   cases hi with
   |none=>exact Y3 h (hev x) trivial trivial
   |some y=>
    dsimp only;split
    .rename_i n hn;exact Y3 h (hev x) trivial (N1 hn (hev y))
    .trivial
  |some z=>
   cases hi with
   |none=>
    dsimp only;split
    .rename_i n hn;exact Y3 h (hev x) (N1 hn (hev z)) trivial
    .trivial
   |some y=>
    dsimp only;split
    .rename_i l n hl hn;exact Y3 h (hev x) (N1 hl (hev z)) (N1 hn (hev y))
    .trivial
end
end
section
section
variable {r:Option Nat} {P:Program} {a:Act} {w wl:World} {S:L8} {M0 M:Mem} {ρ:Rho} {ob:Nat->Option B9} {ev:Operand->V} {d:Nat} {ty:TypeId} {op:Op}
theorem Au5(t t2 e:TypeId)(i:TypeInfo)(z:Value)(ht:P.underlying t=some (.slice e))(ht2:P.underlying t2=some (.slice e)\/P.underlying t2=some .string)(hi:P.info? e=some i)(hz:i.zero=some z){p:Option Addr}{xv:Value}{n cap m:Nat}{olds news:List Value}{w:World}(hxl:Builtin.lenOf xv=pure m)
 (hfo:(Builtin.firstCells i.size n (.slice p n cap)).run P w.drew= .ok olds.toArray w.drew) (hf:(Builtin.firstCells i.size m xv).run P w.drew= .ok news.toArray w.drew)
 (hg:cap<n+m) (h63:((n+m:Nat):Int)<=9223372036854775807) (hfit:Builtin.nextslicecap (n+m) cap*i.bytes<=281474976710656):
 (Builtin.append_ #[t,t2] ty #[.slice p n cap,xv]).run P w=
  .ok (.slice (some ⟨w.heap.size,0,none⟩) (n+m) (grownCap w (n+m) cap e)) (w.drew.alloc (.cells ([]++((olds++news)++(Builtin.zeroCells z.cells (grownCap w (n+m) cap e-(n+m))).toList)).toArray e)):=by
 have hn:¬(n+m<=cap):=by omega
 have h63':¬(9223372036854775807<((n:Int)+(m:Int))):=by omega
 have h48':¬(281474976710656<Builtin.nextslicecap (n+m) cap*i.bytes):=by omega
 rcases ht2 with ht2|ht2
 .simp[Builtin.append_,run_underlying ht,run_underlying ht2,sizeOf,typeInfo,zeroValue,hi,hz,hxl,hn,h63',h48',Question.forced,hf,hfo,newRow,grownCap];congr 2;apply bh_;simp
 .simp[Builtin.append_,run_underlying ht,run_underlying ht2,sizeOf,typeInfo,zeroValue,hi,hz,hxl,hn,h63',h48',Question.forced,hf,hfo,newRow,grownCap];congr 2;apply bh_;simp
theorem Cn7(t t2 e:TypeId)(i:TypeInfo)(ht:P.underlying t=some (.slice e))(ht2:P.underlying t2=some (.slice e)\/P.underlying t2=some .string)(hi:P.info? e=some i){xv:Value}{b o n cap m:Nat}{news:List Value}{cur:Array Value}{w:World}(hw:w.heap[b]? =some (.cells cur e (0,0)))
 (hxl:Builtin.lenOf xv=pure m) (hf:(Builtin.firstCells i.size m xv).run P w= .ok news.toArray w) (h1:∀u∈news,u.oneCell'=true) (hg:n+m<=cap) (hl:o+n*i.size+news.length<=cur.size):
 (Builtin.append_ #[t,t2] ty #[.slice (some ⟨b,o,none⟩) n cap,xv]).run P w= .ok (.slice (some ⟨b,o,none⟩) (n+m) cap) (w.setRow b (D2 cur.toList (o+n*i.size) news).toArray):=by
 have hst:=run_storeCells_at P b (o+n*i.size) e news 0 cur w hw (by omega) h1;simp only[Nat.add_zero]at hst;rcases ht2 with ht2|ht2<;>simp[Builtin.append_,run_underlying ht,run_underlying ht2,sizeOf,typeInfo,hi,hxl,hg,hf,E2,hst,D2]
theorem Cn6(t t2 e:TypeId)(i:TypeInfo)(ht:P.underlying t=some (.slice e))(ht2:P.underlying t2=some (.slice e)\/P.underlying t2=some .string)(hi:P.info? e=some i){p:Option Addr}{xv:Value}{n cap:Nat}{w:World}(hxl:Builtin.lenOf xv=pure 0)(hf:(Builtin.firstCells i.size 0 xv).run P w= .ok (List.toArray []) w)(hg:n<=cap):
 (Builtin.append_ #[t,t2] ty #[.slice p n cap,xv]).run P w= .ok (.slice p n cap) w:=by
 rcases ht2 with ht2|ht2<;>cases p<;>simp[Builtin.append_,run_underlying ht,run_underlying ht2,sizeOf,typeInfo,hi,hxl,hg,hf,storeCells]
theorem Bo1{n:Nat}{es:List (List Dat)}{u:Value}(hs:Af8 M w)(h:T7 M (.sl n es) u):∃q c news,u= .slice q es.length c/\es.length<=c/\(∀w',w'.heap=w.heap->(Builtin.firstCells n es.length (.slice q es.length c)).run P w'= .ok (List.toArray news) w')/\rL (rDs n) M news es:=by
 cases h with
 |sl _ _ q c b o us hcap ha hc hss hr=>
  have key:∀(k:Nat) (es':List (List Dat)),(∀i cs,es'[i]? =some cs->es[k+i]? =some cs)->k+es'.length=es.length->
   ∃news:List Value,news.length=es'.length*n/\rL (rDs n) M news es'/\∀j u,news[j]? =some u->w.cell? ⟨b,o+k*n+j,none⟩=some u:=by
   intro k es'
   induction es' generalizing k with
   |nil=>intro _ _;exact⟨[],by simp,Bc3,fun j u h=>by simp at h⟩
   |cons x xs ih=>
    intro hx hk;have h0:=hx 0 x rfl;simp only[length_cons,Nat.add_zero]at hk h0;obtain⟨l1,l2⟩:=hss _ _ h0;obtain⟨news,e1,e2,e3⟩:=ih (k+1) (fun i cs hi=>by rw[Nat.add_assoc,cs_ 1];exact hx (i+1) cs (by simpa using hi)) (by omega);have hrel:C9 M x (us k):=C9.of_get (by omega) (fun q c u h1 h2=>hr _ q x c u h0 h1 h2);refine⟨us k++news,by rw[length_append,e1,l2,length_cons,Nat.add_mul];omega,⟨us k,news,rfl,⟨l1,hrel⟩,e2⟩,fun j u hj=> ?_⟩;rcases bc_ j (us k).length with hjl|hjl
    .rw[an_ hjl]at hj;exact(hc k (by omega)).cell hs hj
    .rw[au_ hjl]at hj;have:=e3 _ u hj;rw[Nat.add_mul]at this;rw[<-this];congr 2;omega
  obtain⟨news,e1,e2,e3⟩:=key 0 es (fun i cs hi=>by simpa using hi) (by simp);refine⟨q,c,news,rfl,hcap,fun w' hw'=> ?_,e2⟩;by_cases hne:es=[]
  .subst hne;have:news=[]:=a1_ (by simpa using e1);subst this;cases q<;>simp[Builtin.firstCells,loadCells,loadCellsFrom]
  .rw[ha hne];refine run_firstCells_some (P:=P) w' n es.length ⟨b,o,none⟩ es.length c news e1 (fun j v hj=> ?_);have:=e3 j v hj;rw[E2];simp only[Nat.zero_mul,Nat.add_zero]at this;rw[<-this];unfold World.cell?;rw[hw']
theorem H7{s x:Operand}{t t2:TypeId}{vs vx:Value}(hs:a.eval s=vs)(hx:a.eval x=vx){u:Value}{w':World}(hr:∀ty,(Builtin.append_ #[t,t2] ty #[vs,vx]).run P w= .ok u w'):
 Run P a (.call {callee:= .builtin .append,args:= #[s,x],argTypes:= #[t,t2]}) w u w':=by
 intro d ty pos aft g;simp[execOp,resolve,invoke,builtin,hs,hx,hr]
theorem Y6(_:TypeInfo){z:Value}{n m g:Nat}(hzs:z.cells.size=n):(Builtin.zeroCells z.cells (g-m)).toList.length=(g-m)*n:=by
 rw[bi_,size_zeroCells,hzs]
theorem Bu3{e:TypeId}{n m G:Nat}{us:List Value}{es:List (List Dat)}{zs:List Value}{g b:Nat}(hr:rL (rDs n) M us es)(hz:zs.length=(G-m)*n)(hm:es.length=m)(hG:m<=G)(hmax:G<=maxLen)(hb:S b\/wl.heap.size<=b)(hM:M b=none){w':World}
 (hw:w'.heap[b]? =some (.cells ([]++(us++zs)).toArray e (0,0))):J0 S wl M ρ w' ⟨b,0,G,n,m,g,false,[]⟩ (.buf g e n es):=by
 refine⟨rfl,rfl,rfl,hm.symm,hG,hmax,fun _=>⟨⟨hb,fun _=>hM,fun c hc=>by rw[show M b=none from hM]at hc;cases hc⟩,[],us,zs,hw,by simp,?_,hr⟩⟩;rw[length_append,Bj4 hr,hz,hm];have e1:(rDs n).n=n:=rfl;rw[e1,<-Nat.add_mul];congr 1;show m+(G-m)=G;omega
theorem Ay5{α:Type}{x y z:List α}(h:app x y=some z):x++y=z/\x.length+y.length<=2147483648:=by
 unfold app at h;cases hb:decide (x.length+y.length<=2147483648) with
 |true=>rw[hb]at h;cases h;exact⟨rfl,of_decide_eq_true hb⟩
 |false=>rw[hb]at h;cases h
theorem Bo5{e:TypeId}{n by_:Nat}{zs:List Value}(hsz:F9 P e=some n)(hby:Bi1 P e=some by_)(hzt:Bd8 P e=some zs):∃i,P.info? e=some i/\i.size=n/\i.bytes=by_/\∃z,i.zero=some z/\z.cells.toList=zs:=by
 unfold F9 at hsz;unfold Bi1 at hby;unfold Bd8 at hzt;cases hi:P.info? e with
 |none=>rw[hi]at hsz;cases hsz
 |some i=>
  rw[hi]at hsz hby hzt;simp at hsz hby;cases hz:i.zero with
  |none=>simp[hz]at hzt
  |some z=>simp[hz]at hzt;exact⟨i,rfl,hsz,hby,z,hz,hzt⟩
theorem Ow.ghost(h:Ow S wl M0 M ρ ob w){d:Nat}(hd:ob d=none)(i:Inf)(x:B9)(hx:∀ρ',J0 S wl M ρ' w i x)(hl:¬Aj1 i x)(hdp:En6 x=false:=by rfl):
 Rle M M ρ (H6 ρ d i)/\Ow S wl M0 M (H6 ρ d i) (H6 ob d x) w:=by
 have hρ:=h.ob_none hd;have hr:Rle M M ρ (H6 ρ d i):=⟨M.le_refl,fun r j hj=>by
  have:r≠d:=fun e=>by rw[e,hρ]at hj;cases hj
  exact⟨j,by rw[C5 _ _ this];exact hj,ad_ _,fun _=>rfl,fun _=>rfl⟩⟩
 refine⟨hr,h.size,h.os,h.tape,h.output,h.old,h.sits,h.le,h.gl,h.new,?_,?_,?_,fun r i hb hi=>by obtain⟨j,h1,h2⟩:=h.held r i hb hi;obtain⟨k,h3,h4⟩:=hr.ext r j h1;exact⟨k,h3,h2.trans h4⟩⟩
 .intro r y hy;by_cases e:r=d
  .subst e;rw[B3]at hy;cases hy;exact⟨i,B3 _ _ _,hx _⟩
  .rw[C5 _ _ e]at hy;obtain⟨j,h1,h2⟩:=h.own r y hy;exact⟨j,by rw[C5 _ _ e];exact h1,h2.mono hr (fun _ _=>rfl) (fun _ _=>rfl)⟩
 .intro r j hj;by_cases e:r=d
  .subst e;exact⟨x,B3 _ _ _⟩
  .rw[C5 _ _ e]at hj⊢;exact h.dom r j hj
 .intro r r' y y' j j' b h1 h2 h3 h4 l1 l2;have n1:r≠d:=fun e=>by subst e;rw[B3]at h1 h3;cases h1;cases h3;exact hl (J4 l1 hdp).1
  have n2:r'≠d:=fun e=>by subst e;rw[B3]at h2 h4;cases h2;cases h4;exact hl (J4 l2 hdp).1
  rw[C5 _ _ n1]at h1 h3;rw[C5 _ _ n2]at h2 h4;exact h.inj r r' y y' j j' b h1 h2 h3 h4 l1 l2
theorem P6{q g off:Nat}{i:Inf}{p:Option Addr}(hi:ρ q=some i)(hg:i.g=g)(ho:off<=i.n)(hp:off<i.tot->p=some ⟨i.b,(i.base+off)*i.sz,none⟩):B8 M ρ (.suf q g off) (.slice p (i.n-off) (i.tot-off)):=by
 simp only[B8];exact⟨i,hi,by omega,rfl,fun _=>⟨ho,p,rfl,hp⟩⟩
section
variable {t t2 e:TypeId} {i:TypeInfo} {z:Value} {s x:Operand} {es2:List (List Dat)} {xv:Value} {news:List Value}
theorem Au4{i:TypeInfo}(hb:i.bytes<=4096){k cap:Nat}(hk:k<=2147483648)(hc:cap<k):Builtin.nextslicecap k cap*i.bytes<=281474976710656:=by
 have:=nextslicecap_le hc;have:Builtin.nextslicecap k cap*i.bytes<=4294967296*4096:=a7_ (by omega) hb;omega
theorem Bz6{n:Nat}{us:List Value}(h:rL (rDs n) M us []):us=[]:=h
theorem Ez9(h:Ow S wl M0 M ρ ob w)(ht:P.underlying t=some (.slice e))(hi:P.info? e=some i)(hz:i.zero=some z)(hzs:z.cells.size=i.size)(hb:i.bytes<=4096){p:Option Addr}(hp:a.eval s= .slice p 0 0)
 (ht2:P.underlying t2=some (.slice e)\/P.underlying t2=some .string) (hxe:a.eval x=xv) (hxl:Builtin.lenOf xv=pure es2.length) (hfc:∀w',w'.heap=w.heap->(Builtin.firstCells i.size es2.length xv).run P w'= .ok (List.toArray news) w') (hrn:rL (rDs i.size) M news es2) (hd:ob d=none) (hbnd:es2.length<=2147483648):
 D5 r P a (.call {callee:= .builtin .append,args:= #[s,x],argTypes:= #[t,t2]}) S wl M0 M ρ ob w (.suf d 0 0) [(d,.buf 0 e i.size es2)]:=by
 by_cases h0:es2.length=0
 .have hnil:es2=[]:=a1_ h0;subst hnil;obtain⟨h5,h6⟩:=h.ghost hd ⟨0,0,0,i.size,0,0,false,[]⟩ (.buf 0 e i.size []) (fun _=>⟨rfl,rfl,rfl,rfl,ad_ _,at_ _,fun h=>absurd h (ay_ _)⟩) (fun h=>absurd h (ay_ _));refine Eff.of_run (H7 hp hxe (fun ty=>Cn6 t t2 e i ht ht2 hi hxl (by have:=hfc w rfl;rw[Bz6 hrn]at this;exact this) (ad_ 0))) rfl ⟨M,_,h5,h6,?_⟩;exact P6 (i:=⟨0,0,0,i.size,0,0,false,[]⟩) (B3 _ _ _) rfl (ad_ _) (fun h=>absurd h (ay_ _))
 .have hgr:∀ty,_:=fun ty=>Au5 (ty:=ty) (P:=P) t t2 e i z ht ht2 hi hz (p:=p) (xv:=xv) (n:=0) (cap:=0) (m:=es2.length) (olds:=[]) (news:=news) (w:=w) hxl (by cases p<;>simp[Builtin.firstCells,loadCells,loadCellsFrom]) (hfc _ rfl) (by omega) (by omega) (by rw[Nat.zero_add];exact Au4 hb hbnd (by omega))
  have hG:=grownCap_ge w (0+es2.length) 0 e;have hm:grownCap w (0+es2.length) 0 e<=maxLen:=grownCap_le_maxLen w _ _ _ (by unfold maxLen;omega);obtain⟨h5,h6⟩:=h.drew.alloc hd _ ⟨w.heap.size,0,grownCap w (0+es2.length) 0 e,i.size,0+es2.length,0,false,[]⟩ (.buf 0 e i.size es2) (by simp) (fun ρ' _ hM=>Bu3 (e:=e) (us:=[]++news) (by simpa using hrn) (Y6 i hzs) (by omega) hG hm (.inr h.size) (by simpa using hM) (World.alloc_heap_new w.drew _));refine Eff.of_run (H7 hp hxe hgr) rfl ⟨M,_,h5,h6,?_⟩;have:=P6 (M:=M) (p:=some ⟨w.heap.size,0,none⟩) (off:=0) (B3 ρ d ⟨w.heap.size,0,grownCap w (0+es2.length) 0 e,i.size,0+es2.length,0,false,[]⟩) rfl (at_ _) (fun _=>by simp);simpa using this
theorem Bp5{n:Nat}{us:List Value}{es:List (List Dat)}(h:rL (rDs n) M us es){off:Nat}(ho:off<=es.length):us.length=es.length*n/\off*n<=us.length:=by
 have:=Bj4 h;have e1:(rDs n).n=n:=rfl;rw[e1]at this;exact⟨this,by rw[this];exact be_ _ ho⟩
theorem Ar3{S:L8}{wl:World}{M:Mem}{i i':Inf}{g sz:Nat}(h:Bt2 S wl M i g)(_:i.sz=sz)(hn:i.base+i.n<=i'.base+i'.n)(hb:i'.b=i.b:=by rfl)(hz:i'.sz=i.sz:=by rfl):Bt2 S wl M i' (g+1):=by
 unfold Bt2;rw[hb,hz];refine⟨h.1,fun hg=>h.2.1 (by simp only[Nat.blt_eq]at hg⊢;omega),fun c hc=>ah_ (h.2.2 c hc) (be_ _ hn)⟩
theorem Fa0(h:Ow S wl M0 M ρ ob w)(ht:P.underlying t=some (.slice e))(hi:P.info? e=some i)(hz:i.zero=some z)(hzs:z.cells.size=i.size)(_:1<=i.size)(hb:i.bytes<=4096){rr g off:Nat}{es:List (List Dat)}(hr:ob rr=some (.buf g e i.size es))(hs:B8 M ρ (.suf rr g off) (a.eval s))
 (ht2:P.underlying t2=some (.slice e)\/P.underlying t2=some .string) (hxe:a.eval x=xv) (hxl:Builtin.lenOf xv=pure es2.length) (hfc:∀w',w'.heap=w.heap->(Builtin.firstCells i.size es2.length xv).run P w'= .ok (List.toArray news) w') (hrn:rL (rDs i.size) M news es2) (hbnd:(es.drop off).length+es2.length<=2147483648):
 D5 r P a (.call {callee:= .builtin .append,args:= #[s,x],argTypes:= #[t,t2]}) S wl M0 M ρ ob w (.suf rr (g+1) 0) [(rr,.buf (g+1) e i.size (es.drop off++es2))]:=by
 obtain⟨f,hf,_,hu⟩:=J7 hs;obtain⟨hfix,hgg,hsz2,hn,htot,hmax,hh⟩:=h.buf_heap hr hf;obtain⟨ho,p,hu,hp⟩:=hu hgg.symm;rw[length_drop]at hbnd;have hnl:news.length=es2.length*i.size:=by rw[Bj4 hrn];rfl
 by_cases h0:es2.length=0
 .have hnil:es2=[]:=a1_ h0;subst hnil;obtain⟨h5,h6⟩:=h.turn (w':=w) hr hf ⟨f.b,f.base+off,f.tot-off,f.sz,f.n-off,g+1,false,[]⟩ (.buf (g+1) e i.size (es.drop off)) (fun _ _ _=>rfl) (ad_ _) rfl rfl rfl (fun _ c hc=>h.sits _ c hc) ⟨by simp only;omega,fun e=>by simp only at e;omega,fun e=>by rw[hfix]at e;cases e⟩ (fun hl=> .inl ⟨by simp only[Aj1]at hl⊢;omega,rfl⟩) (fun ρ' hle _=>by
   refine⟨rfl,rfl,hsz2,by rw[length_drop,hn],by simp only;omega,by simp only;omega,fun hp0=> ?_⟩;obtain⟨hm,pre,us,sp,hw,hpre,hl,hrel⟩:=hh (by simp only at hp0;omega);obtain⟨e1,e2⟩:=Bp5 hrel (off:=off) (by omega);refine⟨Ar3 hm hsz2 (by simp only;omega),pre++us.take (off*i.size),us.drop (off*i.size),sp,?_,?_,?_,Bc1 hrel off⟩
   .rw[List.append_assoc,<-List.append_assoc (us.take _),ao_];exact hw
   .rw[length_append,length_take,hpre,bv_ e2,<-Nat.add_mul]
   .rw[length_append,length_drop];rw[length_append]at hl;rw[Nat.sub_mul];omega)
  refine Eff.of_run (H7 hu hxe (fun ty=>Cn6 t t2 e i ht ht2 hi hxl (by have:=hfc w rfl;rw[Bz6 hrn]at this;exact this) (by omega))) rfl ⟨M,_,h5,by simpa[wrO] using h6,?_⟩;have:=P6 (M:=M) (p:=p) (off:=0) (B3 ρ rr ⟨f.b,f.base+off,f.tot-off,f.sz,f.n-off,g+1,false,[]⟩) rfl (at_ _) (fun hlt=>by simp only at hlt⊢;rw[hp (by omega),Nat.add_zero]);simpa using this
 .by_cases hroom:f.n-off+es2.length<=f.tot-off
  .obtain⟨hm,pre,us,sp,hw,hpre,hl,hrel⟩:=hh (by omega);obtain⟨e1,e2⟩:=Bp5 hrel (off:=off) (by omega);have hp:=hp (by omega);subst hp;have e3:(f.base+off)*f.sz+(f.n-off)*i.size=(pre++us).length:=by rw[length_append,hpre,e1,<-hn,hsz2,<-Nat.add_mul,<-Nat.add_mul];congr 1;omega
   have e4:news.length<=sp.length:=by
    rw[length_append,e1,<-hn]at hl;have:(f.n+es2.length)*i.size<=f.tot*i.size:=be_ _ (by omega);rw[Nat.add_mul]at this;omega
   have hrun:∀ty,_:=fun ty=>Cn7 (ty:=ty) (P:=P) t t2 e i ht ht2 hi (xv:=xv) (m:=es2.length) hw hxl (hfc w rfl) (Ct2 hrn) hroom (o:=(f.base+off)*f.sz) (by rw[e3];simp;omega)
   have e5:D2 (pre++(us++sp)).toArray.toList ((f.base+off)*f.sz+(f.n-off)*i.size) news=(pre++us.take (off*i.size))++((us.drop (off*i.size)++news)++sp.drop news.length):=by
    rw[e3];unfold D2;simp only;rw[<-List.append_assoc pre us sp,bq_,<-az_,b1_];simp only[List.append_assoc];rw[<-List.append_assoc (us.take _),ao_]
   obtain⟨h5,h6⟩:=h.turn (w':=w.setRow f.b (D2 (pre++(us++sp)).toArray.toList ((f.base+off)*f.sz+(f.n-off)*i.size) news).toArray) hr hf ⟨f.b,f.base+off,f.tot-off,f.sz,f.n-off+es2.length,g+1,false,[]⟩ (.buf (g+1) e i.size (es.drop off++es2))
    (fun k _ hk=>setRow_other w f.b k _ (hk (by simp only[Aj1];omega))) (by simp) rfl rfl rfl (fun _ c hc=>by
     obtain⟨c',e',z',q1,q2⟩:=h.sits _ c hc;rw[hw]at q1;cases q1;refine⟨_,e,(0,0),setRow_heap w f.b _ _ e _ hw,fun j v hj=> ?_⟩;have hjc:j<c.size:=(aq_.1 hj).1;have hb1:=hm.2.2 c hc;have hjl:j<(pre++us).length:=by rw[length_append,hpre,e1,<-hn,<-Nat.add_mul,<-hsz2];omega
     have hold:=q2 j v hj;rw[e5,<-List.append_assoc,<-List.append_assoc,List.append_assoc pre,ao_];simp only[getElem?_toArray]at hold⊢;rw[<-List.append_assoc,an_ hjl]at hold;rw[List.append_assoc,an_ hjl];exact hold) ⟨by simp only;omega,fun e=>by simp only at e;omega,fun e=>by rw[hfix]at e;cases e⟩ (fun hl=> .inl ⟨by simp only[Aj1]at hl⊢;omega,rfl⟩) (fun ρ' hle _=>by
    refine⟨rfl,rfl,hsz2,by rw[length_append,length_drop,hn],by simp only;omega,by simp only;omega,fun hp0=> ?_⟩;refine⟨Ar3 hm hsz2 (by simp only;omega),pre++us.take (off*i.size),us.drop (off*i.size)++news,sp.drop news.length,?_,?_,?_,Al8 (Bc1 hrel off) hrn⟩
    .rw[<-e5];exact setRow_heap w f.b _ _ e _ hw
    .rw[length_append,length_take,hpre,bv_ e2,<-Nat.add_mul]
    .simp only[length_append,length_drop];rw[length_append]at hl;rw[Nat.sub_mul];omega)
   refine Eff.of_run (H7 hu hxe hrun) rfl ⟨M,_,h5,by simpa[wrO] using h6,?_⟩;have:=P6 (M:=M) (p:=some ⟨f.b,(f.base+off)*f.sz,none⟩) (off:=0) (B3 ρ rr ⟨f.b,f.base+off,f.tot-off,f.sz,f.n-off+es2.length,g+1,false,[]⟩) rfl (at_ _) (fun hlt=>by simp only[Nat.add_zero]);simpa using this
  .have hold:∀w',w'.heap=w.heap->∃olds,(Builtin.firstCells i.size (f.n-off) (.slice p (f.n-off) (f.tot-off))).run P w'= .ok (List.toArray olds) w'/\rL (rDs i.size) M olds (es.drop off):=fun w' hw'=>by
    by_cases hlt:off<f.n
    .obtain⟨hm,pre,us,sp,hw,hpre,hl,hrel⟩:=hh (by omega);obtain⟨e1,e2⟩:=Bp5 hrel (off:=off) (by omega);rw[hp (by omega)];refine⟨us.drop (off*i.size),run_firstCells_some (P:=P) w' i.size (f.n-off) _ _ _ _ (by rw[length_drop,e1,<-hn,Nat.sub_mul]) (fun j v hj=> ?_),Bc1 hrel off⟩;rw[E2];unfold World.cell?;rw[hw',hw];rw[getElem?_drop]at hj;have hjl:=(ac_.1 hj).1;have e6:(f.base+off)*f.sz+j=pre.length+(off*i.size+j):=by rw[hpre,hsz2,Nat.add_mul];omega
     simp only[Option.isSome_none,Bool.false_eq_true,if_false,getElem?_toArray];rw[e6,au_ (by omega),Nat.add_sub_cancel_left,an_ hjl];exact hj
    .have:es.drop off=[]:=ag_ (by omega);rw[this];refine⟨[],?_,Bc3⟩;have e7:f.n-off=0:=by omega
     rw[e7];cases p<;>simp[Builtin.firstCells,loadCells,loadCellsFrom]
   obtain⟨olds,ho1,ho2⟩:=hold w.drew rfl;have hgr:∀ty,_:=fun ty=>Au5 (ty:=ty) (P:=P) t t2 e i z ht ht2 hi hz (p:=p) (xv:=xv) (n:=f.n-off) (cap:=f.tot-off) (m:=es2.length) (olds:=olds) (news:=news) (w:=w) hxl ho1 (hfc _ rfl) (by omega) (by omega) (Au4 hb (by omega) (by omega))
   have hG:=grownCap_ge w (f.n-off+es2.length) (f.tot-off) e;have hm:grownCap w (f.n-off+es2.length) (f.tot-off) e<=maxLen:=grownCap_le_maxLen w _ _ _ (by unfold maxLen;omega);obtain⟨h5,h6⟩:=h.drew.turn (w':=w.drew.alloc (.cells ([]++((olds++news)++(Builtin.zeroCells z.cells (grownCap w (f.n-off+es2.length) (f.tot-off) e-(f.n-off+es2.length))).toList)).toArray e)) hr hf ⟨w.heap.size,0,grownCap w (f.n-off+es2.length) (f.tot-off) e,i.size,f.n-off+es2.length,g+1,false,[]⟩ (.buf (g+1) e i.size (es.drop off++es2))
    (fun k hk _=>Below.heap_alloc _ _ _ hk) (by simp) rfl rfl rfl (fun _ c hc=>by
     have:=h.sits.lt hc;rw[show(w.drew.alloc _).heap[f.b]? =w.drew.heap[f.b]? from Below.heap_alloc _ _ _ this];exact h.sits _ c hc) ⟨by simp only;omega,fun e=>by simp only at e;omega,fun e=>by rw[hfix]at e;cases e⟩ (fun _=> .inr (ad_ _)) (fun ρ' _ hM=>
     Bu3 (Al8 ho2 hrn) (Y6 i hzs) (by rw[length_append,length_drop,hn]) hG hm (.inr h.size) (hM _ (ad_ _)) (World.alloc_heap_new w.drew _))
   refine Eff.of_run (H7 hu hxe hgr) rfl ⟨M,_,h5,by simpa[wrO] using h6,?_⟩;have:=P6 (M:=M) (p:=some ⟨w.heap.size,0,none⟩) (off:=0) (B3 ρ rr ⟨w.heap.size,0,grownCap w (f.n-off+es2.length) (f.tot-off) e,i.size,f.n-off+es2.length,g+1,false,[]⟩) rfl (at_ _) (fun _=>by simp);simpa using this
end
theorem Dk0(s:List UInt8):rL (rDs 1) M (s.map fun b=>Value.int .u8 b.toNat) (s.map Aj9):=by
 induction s with
 |nil=>exact Bc3
 |cons b s ih=>
  refine⟨[.int .u8 b.toNat],_,rfl,⟨rfl,?_⟩,ih⟩;exact⟨_,_,rfl,.int _ _,rfl⟩
theorem Eg4{n:Nat}{t t2 e:TypeId}{vx:V}{u:Value}{es2:List (List Dat)}{wr:Wr}(h:Ow S wl M0 M ρ ob w)(ht:P.underlying t=some (.slice e))(hx:B8 M ρ vx u)(hnew:Ds0 P ob n t t2 vx=some (es2,wr)):
 ∃M1 news,Rle M M1 ρ ρ/\Ow S wl M0 M1 ρ (wrO ob wr) w/\(P.underlying t2=some (.slice e)\/P.underlying t2=some .string)/\Builtin.lenOf u=pure es2.length/\(∀w',w'.heap=w.heap->(Builtin.firstCells n es2.length u).run P w'= .ok (List.toArray news) w')/\rL (rDs n) M1 news es2:=by
 unfold Ds0 at hnew;split at hnew
 .rename_i htt;obtain rfl:=nB_ htt;split at hnew
  .rename_i sz es wr' hd;split at hnew
   .rename_i hsz';cases hnew;obtain rfl:=nB_ hsz';obtain⟨M1,r1,o1,d1⟩:=R8 h hx hd;obtain⟨q,c,news,hxe,hcap,hfc,hrn⟩:=Bo1 (P:=P) o1.sits d1;subst hxe;exact⟨M1,news,r1,o1,.inl ht,rfl,hfc,hrn⟩
   .cases hnew
  .cases hnew
 .split at hnew
  .rename_i s hs;split at hnew
   .rename_i hn;cases hnew;obtain rfl:=nB_ hn;obtain rfl:=P0 hx;refine⟨M,_,Rle.refl _ _,h,.inr hs,by simp[Z9,Builtin.lenOf];rfl,fun w' _=> ?_,Dk0 s⟩;simp[Z9,Builtin.firstCells]
   .cases hnew
  .cases hnew
theorem Cy6{c:Call}{s x:Operand}{t t2:TypeId}(h:Ow S wl M0 M ρ ob w)(hev:∀x,B8 M ρ (ev x) (a.eval x))(hc:c={callee:= .builtin .append,args:= #[s,x],argTypes:= #[t,t2]}):
 (Au8 P ob d t t2 (ev s) (ev x)).Good (D5 r P a (.call c) S wl M0 M ρ ob w):=by
 subst hc;have hs0:=hev s;have hx:=hev x;generalize ev s=vs at*;generalize ev x=vx at*;unfold Au8;split
 .rename_i e he;have ht:=K6 he;split
  .rename_i n by_ zs hsz hby hzt;split
   .rename_i es2 wr hnew h1 hb h3;have h1:=I1 h1;have hb:=I1 hb;have h3:=nB_ h3;obtain⟨i,hi,hsize,hbytes,z,hz,hzc⟩:=Bo5 hsz hby hzt;have hzs:z.cells.size=n:=by rw[<-bi_,hzc,h3]
    subst hsize;subst hbytes;obtain⟨M1,news,r1,o1,ht2,hxl,hfc,hrn⟩:=Eg4 h ht hx hnew;split
    .split
     .rename_i hd;intro es' hes;obtain⟨he',hbnd⟩:=Ay5 hes;rw[nil_append]at he';subst he';simp only[B8]at hs0;obtain⟨p,hp⟩:=hs0;exact D5.after r1 (Ez9 o1 ht hi hz hzs hb hp ht2 rfl hxl hfc hrn hd (by simpa using hbnd))
     .trivial
    .split
     .rename_i g' e' sz es hr;split
      .rename_i hg hszz hee;obtain rfl:=nB_ hg;obtain rfl:=nB_ hszz;obtain rfl:=nB_ hee;intro es' hes;obtain⟨he',hbnd⟩:=Ay5 hes;subst he';exact D5.after r1 (Fa0 o1 ht hi hz hzs h1 hb hr (B8.mono r1 _ hs0) ht2 rfl hxl hfc hrn hbnd)
      .trivial
     .trivial
    .trivial
   .trivial
  .trivial
 .trivial
end
end
section
section
variable {r:Option Nat} {P:Program} {a:Act} {w wl:World} {S:L8} {M0 M:Mem} {ρ:Rho} {ob:Nat->Option B9} {ev:Operand->V} {d:Nat} {ty:TypeId} {op:Op}
theorem Dr9(h:Ow S wl M0 M ρ ob w)(hd:ob d=none){n tot:Nat}{e:TypeId}{us sp:List Value}{es:List (List Dat)}(hr:rL (rDs n) M us es)(hl:(us++sp).length=tot*n)(ht:es.length<=tot)(hmax:tot<=maxLen):
 ∃ρ',Rle M M ρ ρ'/\Ow S wl M0 M ρ' (H6 ob d (.buf 0 e n es)) (w.alloc (.cells (us++sp).toArray e))/\B8 M ρ' (.suf d 0 0) (.slice (some ⟨w.heap.size,0,none⟩) es.length tot):=by
 obtain⟨h2,h3⟩:=h.alloc hd (.cells (us++sp).toArray e) ⟨w.heap.size,0,tot,n,es.length,0,false,[]⟩ (.buf 0 e n es) rfl (fun ρ' _ hM=>⟨rfl,rfl,rfl,rfl,ht,hmax,fun _=>⟨⟨.inr h.size,fun _=>hM,fun c hc=>by rw[show M w.heap.size=none from hM]at hc;cases hc⟩,[],us,sp,World.alloc_heap_new w _,by simp,hl,hr⟩⟩);refine⟨_,h2,h3,?_⟩;have:=P6 (M:=M) (p:=some ⟨w.heap.size,0,none⟩) (off:=0) (B3 ρ d ⟨w.heap.size,0,tot,n,es.length,0,false,[]⟩) rfl (at_ _) (fun _=>by simp);simpa using this
theorem Bi3:∀{vs:List V} {ob:Nat->Option B9} {xs:List Dat} {wr:Wr},W4 ob vs=some (xs,wr)->xs.length=vs.length
 |[],_,_,_,h=>by simp only[W4,Option.some.injEq,Prod.mk.injEq]at h;obtain⟨rfl,_⟩:=h;rfl
 |v::vs,ob,xs,wr,h=>by
  unfold W4 at h;split at h
  .split at h
   .rename_i hs;cases h;simp[Bi3 hs]
   .cases h
  .cases h
theorem Am2{n:Nat}{z:List Dat}{zs:List Value}(hz:z.length=n)(hr:C9 M z zs):∀k,rL (rDs n) M (List.replicate k zs).flatten (List.replicate k z)
 |0=>Bc3
 |k+1=>⟨zs,_,by simp[List.replicate_succ],⟨hz,hr⟩,Am2 hz hr k⟩
theorem Ag2{zs:List Value}{n:Nat}(hz:zs.length=n):∀k,(madeCells zs.toArray (k*n)).toList=(List.replicate k zs).flatten:=by
 intro k;apply b6_;intro j;have hlen:((List.replicate k zs).flatten).length=k*n:=by rw[length_flatten,cb_,hz,List.sum_replicate_nat]
 have hl2:(madeCells zs.toArray (k*n)).toList.length=k*n:=by rw[bi_,size_madeCells]
 by_cases hj:j<k*n
 .have hn:0<n:=by
   rcases c5_ n with h|h
   .subst h;simp at hj
   .exact h
  have hm:j%n<n:=Nat.mod_lt _ hn;rw[aa_ (by rw[hl2];exact hj)];have h1:(madeCells zs.toArray (k*n)).toList[j]'(by rw[hl2];exact hj)=zs[j%n]'(by omega):=by
   simp only[madeCells,Array.getElem_toList,Array.getElem_map,Array.getElem_range,List.size_toArray,hz];rw[getElem!_pos _ _ (by simp;omega)];simp
  rw[h1];have:∀(k j:Nat),j<k*n->((List.replicate k zs).flatten)[j]? =some (zs[j%n]'(by rw[hz];exact Nat.mod_lt _ hn)):=by
   intro k
   induction k with
   |zero=>intro j hj;simp at hj
   |succ k ih=>
    intro j hj;rw[List.replicate_succ,flatten_cons];by_cases hjn:j<n
    .rw[an_ (by omega),aa_ (by omega)];simp only[Nat.mod_eq_of_lt hjn]
    .rw[au_ (by omega)];have e9:=ih (j-n) (by rw[Nat.add_mul]at hj;omega);have e8:(j-n)%n=j%n:=(Nat.mod_eq_sub_mod (Nat.le_of_not_lt hjn)).symm;have e7:j-zs.length=j-n:=by omega
     rw[e7,e9];simp only[e8]
  rw[this k j hj]
 .rw[List.getElem?_eq_none (by omega),List.getElem?_eq_none (by omega)]
theorem Cs1{l c:Int}{z:List Dat}{es:List (List Dat)}(h:mk2 l c z=some es):0<=l/\l<=c/\c<=2147483648/\es=List.replicate l.toNat z:=by
 unfold mk2 at h;cases hb:(decide (0<=l)&&decide (l<=c)&&decide (c<=2147483648)) with
 |true=>
  rw[hb]at h;cases h;simp only[Bool.and_eq_true,decide_eq_true_eq]at hb;exact⟨hb.1.1,hb.1.2,hb.2,rfl⟩
 |false=>rw[hb]at h;cases h
theorem Ed8{t:TypeId}{l c:Operand}(h:Ow S wl M0 M ρ ob w)(hev:∀x,B8 M ρ (ev x) (a.eval x)):(Cq1 P ob d t (ev l) (ev c)).Good (D5 r P a (.makeSlice t l c) S wl M0 M ρ ob w):=by
 have hl:=hev l;have hc:=hev c;generalize ev l=vl at*;generalize ev c=vc at*;unfold Cq1;split
 .rename_i e l' c' he hl' hc';obtain⟨kl,hkl⟩:=N1 hl' hl;obtain⟨kc,hkc⟩:=N1 hc' hc;have ht:=K6 he;split
  .rename_i n by_ zs hsz hby hzv;split
   .rename_i z hds h2 h3 h4 hd;have h2:=nB_ h2;have h3:=I1 h3;have h4:=I1 h4;intro es hes;obtain⟨hb0,hb1,hb2,rfl⟩:=Cs1 hes;obtain⟨vs,hzt,hzr,_⟩:=Af2 hzv;obtain⟨i,hi,hsize,hbytes,z',hz,hzc⟩:=Bo5 hsz hby hzt;subst hsize;subst hbytes;obtain⟨M1,r1,o1,d1⟩:=J9 h (hzr M ρ) hds;have hvl:vs.length=i.size:=by rw[(hzr M ρ).len,h2]
    have hzl:z.length=i.size:=by rw[Bi3 hds,h2]
    have hzz:z'.cells=vs.toArray:=by rw[<-hzc]
    have hbb:(i.bytes:Int)*c'<=281474976710656:=by
     have h5:i.bytes*c'.toNat<=4096*2147483648:=a7_ h4 (by omega);have h6:((i.bytes*c'.toNat:Nat):Int)=(i.bytes:Int)*c':=by rw[b4_];congr 1;omega
     omega
    have hr:=run_make (P:=P) w t e i z' ht hi hz kl kc l' c' hb0 hb1 hbb (by omega);have hflat:(madeCells vs.toArray (c'.toNat*i.size))=((List.replicate l'.toNat vs).flatten++(List.replicate (c'.toNat-l'.toNat) vs).flatten).toArray:=by
     apply bh_;rw[Ag2 hvl,<-c2_,b3_];congr 2;omega
    rw[hzz,hflat]at hr;obtain⟨ρ',h5,h6,h7⟩:=Dr9 o1 (tot:=c'.toNat) (e:=e) hd (Am2 hzl d1 l'.toNat) (sp:=(List.replicate (c'.toNat-l'.toNat) vs).flatten) (by
     rw[<-c2_,b3_,length_flatten,cb_,List.sum_replicate_nat,hvl];congr 1;omega) (by rw[bn_];omega) (by unfold maxLen;omega)
    rw[bn_]at h7;refine Eff.of_run (v:= .slice (some ⟨w.heap.size,0,none⟩) l'.toNat c'.toNat) (w':=w.alloc (.cells ((List.replicate l'.toNat vs).flatten++(List.replicate (c'.toNat-l'.toNat) vs).flatten).toArray e)) ?_ rfl ⟨M1,ρ',r1.trans h5,h6,h7⟩;intro d ty pos aft g;simp[execOp,hkl,hkc,hr]
   .trivial
  .trivial
 .trivial
theorem Bt4.mono{M':Mem}(r1:Rle M M' ρ ρ):∀{ps:List (Nat×V)} {qs:List (Nat×Value)},Bt4 M ρ ps qs->Bt4 M' ρ ps qs
 |[],_,h=>h
 |(j,v)::ps,qs,h=>by
  simp only[Bt4]at h⊢;obtain⟨u,q2,rfl,h1,h2⟩:=h;exact⟨u,q2,rfl,B8.mono r1 _ h1,Bt4.mono r1 h2⟩
theorem Ow.garbage(h:Ow S wl M0 M ρ ob w)(o:Obj):Ow S wl M0 M ρ ob (w.alloc o):=by
 have old:∀b,b<w.heap.size->(w.alloc o).heap[b]? =w.heap[b]? :=fun b hb=>Below.heap_alloc _ _ _ hb
 have hsz:(w.alloc o).heap.size=w.heap.size+1:=by simp
 refine⟨by rw[hsz];have:=h.size;omega,h.os,h.tape,h.output,fun k hk hS=>by rw[old k (by have:=h.size;omega)];exact h.old k hk hS,fun b c hc=>by rw[old b (h.sits.lt hc)];exact h.sits b c hc,h.le,h.gl,h.new,?_,h.dom,h.inj,h.held⟩;intro r y hy;obtain⟨j,h1,h2⟩:=h.own r y hy;exact⟨j,h1,h2.mono (Rle.refl _ _) (fun _ _=>rfl) (fun _ hl=>old _ (E0 h2 hl).2)⟩
theorem Dt8{m:Nat}(h:Ow S wl M0 M ρ ob w){v:V}{u:Value}{x:Dat}{wr:Wr}(hv:B8 M ρ v u)(hd:ptD m ob v=some (x,wr)):∃M',Rle M M' ρ ρ/\Ow S wl M0 M' ρ (wrO ob wr) w/\T7 M' x u:=by
 unfold ptD at hd;split at hd
 .rename_i cs k wr1 ha;split at hd
  .rename_i hb;cases hd;have hl:=I1 hb;obtain⟨M',r1,o1,h1⟩:=Aq1 h hv ha;obtain⟨b,o,us,rfl,⟨c,hc,hcc⟩,hr⟩:=Ad1 (h1 ρ);refine⟨M',r1,o1,.pt _ b (o+k) ((us.drop k).take m) ⟨c,hc,fun j hj=> ?_⟩ ?_ ?_⟩
   .simp only[length_take,length_drop]at hj;rw[getElem?_take_of_lt (by omega),getElem?_drop,Nat.add_assoc];exact hcc (k+j) (by omega)
   .exact((hr.drop k).take m).len
   .exact fun j c u h2 h3=>((hr.drop k).take m).get h2 h3
  .cases hd
 .cases hd
theorem Ch3{m:Nat}(h:Ow S wl M0 M ρ ob w){vs:List V}{us:List Value}{xs:List Dat}{wr:Wr}(hv:B2 M ρ vs us)(hd:Fc5 m ob vs=some (xs,wr)):∃M',Rle M M' ρ ρ/\Ow S wl M0 M' ρ (wrO ob wr) w/\C9 M' xs us:=by
 unfold Fc5 at hd;split at hd
 .exact J9 h hv hd
 .split at hd
  .rename_i u;split at hd
   .rename_i x wr1 hx;cases hd;simp only[B2]at hv;obtain⟨u',us',rfl,h1,rfl⟩:=hv;obtain⟨M',r1,o1,h2⟩:=Dt8 h h1 hx;exact⟨M',r1,o1,u',[],rfl,h2,rfl⟩
   .exact J9 h hv hd
  .exact J9 h hv hd
theorem At1{m n:Nat}:∀{ps:List (Nat×V)} {qs:List (Nat×Value)} {ob:Nat->Option B9} {M:Mem} {i:Nat} {es:List (List Dat)} {wr:Wr} (_h:Ow S wl M0 M ρ ob w),Bt4 M ρ ps qs->Bx9 P m ob n i ps=some (es,wr)->
 ∃M',Rle M M' ρ ρ/\Ow S wl M0 M' ρ (wrO ob wr) w/\es.length=ps.length/\∃us,rL (rDs n) M' us es/\(∀cells:List Value,(i+ps.length)*n<=cells.length->Instr.fill (fun i=>some (i*n,n)) cells.toArray qs=some (D2 cells (i*n) us).toArray)
 |[],qs,ob,M,i,es,wr,h,hp,he=>by
  simp only[Bx9,Option.some.injEq,Prod.mk.injEq]at he;obtain⟨rfl,rfl⟩:=he;simp only[Bt4]at hp;subst hp;exact⟨M,Rle.refl _ _,h,rfl,[],Bc3,fun cells _=>by simp[Instr.fill,D2]⟩
 |(j,v)::ps,qs,ob,M,i,es,wr,h,hp,he=>by
  simp only[Bt4]at hp;obtain⟨u,qs',rfl,hv,hp⟩:=hp;unfold Bx9 at he;split at he
  .rename_i us hij hus;obtain rfl:=nB_ hij;split at he
   .rename_i xs wr1 hds;split at he
    .rename_i hxl;have hxl:=nB_ hxl;split at he
     .rename_i es' wr2 hlit;cases he;obtain⟨ws,hc,hrw,_⟩:=O2 hus hv;obtain⟨M1,r1,o1,d1⟩:=Ch3 h hrw hds;have hp1:=Bt4.mono r1 hp;obtain⟨M2,r2,o2,l2,vs,hr2,hf⟩:=At1 o1 hp1 hlit;have hwl:ws.length=n:=by rw[d1.len,hxl]
      refine⟨M2,r1.trans r2,by rw[H5];exact o2,by simp[l2],ws++vs,⟨ws,vs,rfl,⟨hxl,d1.mono r2.le⟩,hr2⟩,fun cells hcl=> ?_⟩;simp only[length_cons]at hcl;have e0:(i+(ps.length+1))*n=i*n+n+ps.length*n:=by rw[Nat.add_mul,Nat.add_mul];omega
      have e3:(i+1+ps.length)*n=i*n+n+ps.length*n:=by rw[Nat.add_mul,Nat.add_mul];omega
      rw[Az9 (off:=i*n) (us:=ws) (by rw[hwl]) hc (by rw[e0]at hcl;omega),hf _ (by rw[L9 _ _ _ (by rw[hwl];rw[e0]at hcl;omega),e3];rw[e0]at hcl;exact hcl)];congr 2;rw[e0]at hcl;unfold D2;have e1:(i+1)*n=(cells.take (i*n)++ws).length:=by rw[length_append,length_take,hwl,Nat.add_mul];omega
      rw[e1,bq_,<-az_,b1_,az_,length_append];simp only[List.append_assoc,Nat.add_assoc]
     .cases he
    .cases he
   .cases he
  .cases he
theorem Ag5{t e:TypeId}{n sz:Nat}{ps:Array (Nat×Operand)}{us:List Value}{v:Value}(ht:P.underlying t=some (.slice e))(hsz:F9 P e=some sz)(hzv:(zeroValue e).run P w= .ok v w)(h2:n*sz<=65536)(hfill:∀(cells:Array Value),cells.size=n*sz->Instr.fill (fun i=>some (i*sz,sz)) cells (ps.toList.map fun p=>(p.1,a.eval p.2))=some us.toArray):
 ∀(d:Option Tmp) (ty:TypeId) (pos:String) (aft:Array Edge) (g:Option (Nat×Bool)),(execOp a.eval ⟨d,.buildSlice t n ps,ty,pos,aft,g⟩).run P w= .ok (.value (.slice (some ⟨w.heap.size,0,none⟩) n n)) (w.alloc (.cells us.toArray e)):=fun d ty pos aft g=>by
 have hs2:¬16777216<n*sz:=by omega
 have hs3:(ps.map fun(i,x)=>(i,a.eval x)).toList=ps.toList.map fun p=>(p.1,a.eval p.2):=by rw[cv_]
 by_cases h0:n*sz=0
 .have h5:=hfill #[] (by simp[h0]);simp only[execOp,Instr.buildSlice,hs3,Sem.run_bind,run_underlying ht,Result.andThen_ok,H4 hsz,gt_iff_lt,Nat.reducePow,if_neg hs2,if_pos h0,Sem.run_pure];have h6:((Array.range (n*sz)).map fun x=>(#[]:Array Value)[x%(#[]:Array Value).size]!)= #[]:=by rw[h0];simp
  rw[h6,h5];simp[newRow]
 .have h5:=hfill ((Array.range (n*sz)).map (fun x=>v.cells[x%v.cells.size]!)) (by simp);simp only[execOp,Instr.buildSlice,hs3,Sem.run_bind,run_underlying ht,Result.andThen_ok,H4 hsz,gt_iff_lt,Nat.reducePow,if_neg hs2,if_neg h0,Sem.run_pure,hzv];rw[h5];simp[newRow]
theorem Be9{t:TypeId}{n:Nat}{ps:Array (Nat×Operand)}(h:Ow S wl M0 M ρ ob w)(hev:∀x,B8 M ρ (ev x) (a.eval x)):(Au9 P ob d t n ev ps.toList).Good (D5 r P a (.buildSlice t n ps) S wl M0 M ρ ob w):=by
 unfold Au9;split
 .rename_i e he;have ht:=K6 he;split
  .rename_i sz zs hsz hzt;split
   .rename_i es wr hlit hn h1 h2 h3;have hn:=nB_ hn;have h1:=I1 h1;have h2:=I1 h2;have h3:=nB_ h3;obtain⟨M1,r1,o1,l1,us,hr,hf⟩:=At1 h (Y5 (ev:=fun x=>Af4 P e (ev x)) (fun x=>T2 (hev x)) ps.toList) hlit;have hpl:(V3 (fun x=>Af4 P e (ev x)) ps.toList).length=n:=by
     rw[<-hn];have:∀l:List (Nat×Operand),(V3 (fun x=>Af4 P e (ev x)) l).length=l.length:=fun l=>by
      induction l with
      |nil=>rfl
      |cons p l ih=>obtain⟨i,x⟩:=p;simp[V3,ih]
     exact this _
    obtain⟨v,hzv,hzc⟩:=Bc9 (w:=w) hzt;have hul:us.length=n*sz:=by rw[Bj4 hr,l1,hpl];rfl
    have hfill:∀(cells:Array Value),cells.size=n*sz->Instr.fill (fun i=>some (i*sz,sz)) cells (ps.toList.map fun p=>(p.1,a.eval p.2))=some us.toArray:=fun cells hcl=>by
     have:=hf cells.toList (by rw[hpl,bi_,hcl];simp);rw[Array.toArray_toList]at this;rw[this];congr 2;unfold D2;rw[Nat.zero_mul,take_zero,Nat.zero_add,hul,ag_ (by rw[bi_];omega)];simp
    have hrun:=Ag5 (a:=a) ht hsz hzv h2 hfill;split
    .rename_i hd;split
     ·--no elements:nothing is looked at
      have:ps.toList=[]:=a1_ (by omega);rw[this]at hlit;refine Eff.of_run hrun rfl ⟨M,ρ,Rle.refl _ _,h.garbage _,?_⟩;simp only[B8];exact⟨_,rfl⟩
     .refine D5.after r1 ?_;obtain⟨ρ',h5,h6,h7⟩:=Dr9 o1 (e:=e) (tot:=n) (sp:=[]) hd hr (by simpa using hul) (by omega) (by have:n*1<=n*sz:=Nat.mul_le_mul_left _ h1;unfold maxLen;omega);rw[l1,hpl]at h7;exact Eff.of_run hrun rfl ⟨M1,ρ',h5,by simpa[wrO] using h6,h7⟩
    .trivial
   .trivial
  .trivial
 .trivial
end
end
section
section
variable {r:Option Nat} {P:Program} {a:Act} {w wl:World} {S:L8} {M0 M:Mem} {ρ:Rho} {ob:Nat->Option B9} {ev:Operand->V} {d:Nat} {ty:TypeId} {op:Op}
theorem G5{G:V->Wr->Prop}{x y:Res}(hx:x.Good G)(hy:y.Good G):(Z6 x y).Good G:=by cases x<;>first|exact hx|exact hy
theorem Ar9{e n:Nat}(h:F9 P e=some n):∃j,P.info? e=some j/\j.size=n:=by
 unfold F9 at h;cases hi:P.info? e with
 |none=>rw[hi]at h;cases h
 |some j=>rw[hi]at h;simp at h;exact⟨j,rfl,h⟩
theorem S8{t t':TypeId}{x y:Operand}{p q:Value}{b:Bool}(hx:a.eval x=p)(hy:a.eval y=q)(hg:∀o,(eqGuard o t x y p q).run P w= .ok () w)(he:∀d,(Op.equalIn (d+2) t p q).run P w= .ok b w)
 (h1:binOp .eql t p q=(do pure (.bool (<-Op.equal t p q)))) (h2:binOp .neq t p q=(do let e<-Op.equal t p q;pure (.bool (!e)))):
 Run P a (.binOp .eql t x y t') w (.bool b) w/\Run P a (.binOp .neq t x y t') w (.bool (!b)) w:=by
 have e:(Op.equal t p q).run P w= .ok b w:=he 9998;constructor
 .intro d ty pos aft g;simp[execOp,hx,hy,hg,h1,e]
 .intro d ty pos aft g;simp[execOp,hx,hy,hg,h2,e]
theorem R9{o:BinOp}{t t':TypeId}{x y:Operand}{b:Bool}(h:Ow S wl M0 M ρ ob w)(hr:Run P a (.binOp .eql t x y t') w (.bool b) w/\Run P a (.binOp .neq t x y t') w (.bool (!b)) w):
 (R7 o b).Good (D5 r P a (.binOp o t x y t') S wl M0 M ρ ob w):=by
 unfold R7;split
 .exact D5.val h hr.1 rfl S6
 .exact D5.val h hr.2 rfl S6
 .trivial
theorem Dp8{i:Nat}{vs us:List V}{b:Bool}(h:Bo6 P [] i vs us=some b):b=true:=by
 cases vs<;>cases us<;>simp[Bo6]at h;exact h
theorem Cz6{f:Field}{fs:List Field}{i:Nat}{vs us:List V}{b:Bool}(h:Bo6 P (f::fs) i vs us=some b):
 ∃k m n vs' us' r,vs= .d (.int k m)::vs'/\us= .d (.int k n)::us'/\f.offset=i/\P.underlying f.type=some (.int k)/\f.name≠ "_" /\Bo6 P fs (i+1) vs' us'=some r/\b=((m==n)&&r):=by
 match vs,us,h with
 | .d (.int a m)::vs',.d (.int a' n)::us',h=>
   simp only[Bo6]at h;split at h
   .rename_i k h1 h2 h3 h4;split at h
    .rename_i r h5 h6;cases h;obtain rfl:=Bx3 h3;obtain rfl:=Bx3 h5;exact⟨_,m,n,vs',us',r,rfl,rfl,nB_ h1,h2,by simpa using h4,h6,rfl⟩
    .cases h
   .cases h
theorem Ca3{xs ys:Array Value}:∀(fs:List Field) (i:Nat) {vs us:List V} {b:Bool},Bo6 P fs i vs us=some b->B2 M ρ vs (xs.toList.drop i)->B2 M ρ us (ys.toList.drop i)->∀d,(Op.eqFields (d+1) xs ys fs).run P w= .ok b w
 |[],i,vs,us,b,h,_,_,d=>by rw[Dp8 h];simp[Op.eqFields]
 |f'::fs',i,vs,us,b,h,hx,hy,d=>by
  obtain⟨k,m,n,vs',us',r,rfl,rfl,rfl,h2,hn,h6,rfl⟩:=Cz6 h;simp only[B2]at hx hy;obtain⟨u,us1,e1,q1,q2⟩:=hx;obtain⟨v,vs1,e2,q3,q4⟩:=hy;obtain rfl:=O9 q1;obtain rfl:=O9 q3;have g1:xs[f'.offset]? =some (.int k m):=by
   have:=congrArg (·[0]?) e1;simpa[getElem?_drop] using this
  have g2:ys[f'.offset]? =some (.int k n):=by
   have:=congrArg (·[0]?) e2;simpa[getElem?_drop] using this
  have e1':xs.toList.drop (f'.offset+1)=us1:=by rw[<-az_,e1];rfl
  have e2':ys.toList.drop (f'.offset+1)=vs1:=by rw[<-az_,e2];rfl
  have ih:=Ca3 fs' (f'.offset+1) h6 (by rw[e1'];exact q2) (by rw[e2'];exact q4) d;have hag:Di8 P f'.type=some false:=by unfold Di8;rw[h2]
  have hp1:(part f'.type xs f'.offset).run P w= .ok (.int k m) w:=by simp[part,U3 hag,g1]
  have hp2:(part f'.type ys f'.offset).run P w= .ok (.int k n) w:=by simp[part,U3 hag,g2]
  have he:(Op.equalIn (d+1) f'.type (.int k m) (.int k n)).run P w= .ok (m==n) w:=by simp[Op.equalIn,run_underlying h2]
  simp only[Op.eqFields,hn,ne_eq,not_false_eq_true,if_true,Sem.run_bind,hp1,hp2,he,Result.andThen_ok];cases hmn:(m==n) with
  |true=>simpa using ih
  |false=>simp
theorem Fc2{o:BinOp}{t t':TypeId}{x y:Operand}{b:Bool}{ms:Array (String×TypeId)}(h:Ow S wl M0 M ρ ob w)(hx:B8 M ρ (.d (.ife b)) (a.eval x))(hy:B8 M ρ (.d (.ife false)) (a.eval y))(ht:P.underlying t=some (.interface ms))(hc:Ac1 y=true):(R7 o (!b)).Good (D5 r P a (.binOp o t x y t') S wl M0 M ρ ob w):=by
 have e1:=I6 hx;have e2:=I6 hy;obtain⟨v,hv⟩:∃v,y= .const v:=by cases y with|const v=>exact⟨v,rfl⟩|_=>cases hc
 cases e2':a.eval y<;>rw[e2']at e2<;>cases e2;cases b with
 |false=>
  cases e1':a.eval x<;>rw[e1']at e1<;>cases e1;refine R9 h (S8 e1' e2' (fun o=>by subst hv;cases o<;>simp[eqGuard]) (fun d=> ?_) rfl rfl);simp[Op.equalIn,run_underlying ht]
 |true=>
  cases e1':a.eval x<;>rw[e1']at e1<;>cases e1;refine R9 h (S8 e1' e2' (fun o=>by cases o<;>rfl) (fun d=> ?_) rfl rfl);simp[Op.equalIn,run_underlying ht]
theorem Fc3{o:BinOp}{t t':TypeId}{x y:Operand}{xs ys:List V}{fs:Array Field}{b:Bool}(h:Ow S wl M0 M ρ ob w)(hx:B8 M ρ (.agg xs) (a.eval x))(hy:B8 M ρ (.agg ys) (a.eval y))(ht:P.underlying t=some (.struct fs))(h1:Bo6 P fs.toList 0 xs ys=some b)(h2:P.stoodInHeld t=false)(h3:P.eqGuardType P.depth t=false):(R7 o b).Good (D5 r P a (.binOp o t x y t') S wl M0 M ρ ob w):=by
 obtain⟨us,e1,r1⟩:=Ae8 hx;obtain⟨vs,e2,r2⟩:=Ae8 hy;have hfs:P.fieldsOf t=fs:=by simp[Program.fieldsOf,ht]
 refine R9 h (S8 e1 e2 (fun o=> ?_) ?_ rfl rfl)
 .cases o<;>first|rfl|simp[eqGuard,h3]
 .intro d;rw[run_equalIn_struct w (d+1) t _ _ (by rw[hfs];exact ht) h2,hfs];exact Ca3 fs.toList 0 h1 (by simpa using r1) (by simpa using r2) d
theorem Ft6{o:BinOp}{t t':TypeId}{x y:Operand}(h:Ow S wl M0 M ρ ob w)(hev:∀x,B8 M ρ (ev x) (a.eval x)):(Ft8 P o t (ev x) (ev y) (Ac1 y)).Good (D5 r P a (.binOp o t x y t') S wl M0 M ρ ob w):=by
 have hx:=hev x;have hy:=hev y;generalize ev x=vx at*;generalize ev y=vy at*;unfold Ft8;split
 .rename_i e ht;split
  .rename_i b hb;have key:∀{p q:Option Addr} {b:Bool},a.eval x= .pointer p->a.eval y= .pointer q->(p=none/\q=none/\b=true\/(∃z,p=some z)/\q=none/\b=false)->(R7 o b).Good (D5 r P a (.binOp o t x y t') S wl M0 M ρ ob w):=fun{p q b} e1 e2 hc=>by
    refine R9 h (S8 e1 e2 (fun o=>by cases o<;>rfl) (fun d=> ?_) rfl rfl);rcases hc with⟨rfl,rfl,rfl⟩|⟨⟨z,rfl⟩,rfl,rfl⟩<;>simp[Op.equalIn,run_underlying ht]
   unfold Fv8 at hb;split at hb
   .cases hb;have e1:=I6 hx;have e2:=I6 hy;cases e1':a.eval x<;>rw[e1']at e1<;>cases e1;cases e2':a.eval y<;>rw[e2']at e2<;>cases e2;exact key e1' e2' (.inl ⟨rfl,rfl,rfl⟩)
   .cases hb;obtain⟨i,_,_,hp⟩:=J6 hx;have e2:=I6 hy;cases e2':a.eval y<;>rw[e2']at e2<;>cases e2;exact key hp e2' (.inr ⟨⟨_,rfl⟩,rfl,rfl⟩)
   .cases hb;simp only[B8]at hx;obtain⟨b,o',us,hp,_⟩:=hx;have e2:=I6 hy;cases e2':a.eval y<;>rw[e2']at e2<;>cases e2;exact key hp e2' (.inr ⟨⟨_,rfl⟩,rfl,rfl⟩)
   .cases hb;have e1:=I6 hx;have e2:=I6 hy;cases e1':a.eval x<;>rw[e1']at e1<;>cases e1;cases e2':a.eval y<;>rw[e2']at e2<;>cases e2;exact key e1' e2' (.inr ⟨⟨_,rfl⟩,rfl,rfl⟩)
   .cases hb
  .split
   .rename_i n hs hsz;unfold Fx4 at hs;split at hs
    .rename_i q k q' k';split at hs
     .rename_i hb;obtain rfl:=nB_ hb;obtain rfl:=nB_ hs;obtain⟨i,hi,_,hp⟩:=J6 hx;obtain⟨i',hi',_,hp'⟩:=J6 hy;rw[hi]at hi';cases hi';obtain⟨j,hj,hjs⟩:=Ar9 hsz;refine R9 h (S8 hp hp' (fun o=>by cases o<;>rfl) (fun d=> ?_) rfl rfl);simp[Op.equalIn,run_underlying ht,sizeOf,typeInfo,hj,sameAddr]
     .cases hs
    .cases hs
   .trivial
 .rename_i ms ht;split
  .rename_i b c;split
   .rename_i hc;exact Fc2 h hx hy ht hc
   .trivial
  .trivial
 .rename_i fs ht;split
  .rename_i xs ys;split
   .rename_i b h1 h2 h3;exact Fc3 h hx hy ht h1 h2 h3
   .trivial
  .trivial
 .trivial
theorem Bv6{o:BinOp}{t t':TypeId}{x y:Operand}{n:Nat}(h:Ow S wl M0 M ρ ob w)(key:decide (0<n)=true->Run P a (.binOp .eql t x y t') w (.bool false) w/\Run P a (.binOp .neq t x y t') w (.bool (!false)) w):(Da4 o n).Good (D5 r P a (.binOp o t x y t') S wl M0 M ρ ob w):=by
 unfold Da4;split
 .intro z hz;exact D5.val h (key (J5 hz)).1 rfl S6
 .intro z hz;exact D5.val h (key (J5 hz)).2 rfl S6
 .trivial
theorem Ed9{o:BinOp}{t t':TypeId}{x y:Operand}(h:Ow S wl M0 M ρ ob w)(hev:∀x,B8 M ρ (ev x) (a.eval x)):(Bv8 P ob o t (ev x) (Cr4 y)).Good (D5 r P a (.binOp o t x y t') S wl M0 M ρ ob w):=by
 have hx:=hev x;generalize ev x=vx at*;have hyn:Cr4 y=true->∃n c,y= .const (.slice none n c):=fun hn=>by
  unfold Cr4 at hn;split at hn
  .exact⟨_,_,rfl⟩
  .cases hn
 unfold Bv8;split
 .rename_i e sz es hn ht;obtain⟨n,c,hy⟩:=hyn hn;refine Bv6 h fun hl=> ?_
  have hl:=of_decide_eq_true hl;have hd:=I6 hx;generalize hu:a.eval x=u at hd;cases hd with
  |sl _ _ p cap b o' us hcap ha _ _ _=>
   have hp:=ha (fun e=>by rw[e]at hl;simp at hl);subst hp;refine S8 hu (q:= .slice none n c) (by rw[hy];rfl) (fun o=>by cases o<;>rfl) (fun d=> ?_) rfl rfl;simp[Op.equalIn,run_underlying ht]
 .rename_i e q g off hn ht;split
  .rename_i g' te sz es hr;split
   .rename_i hg;obtain rfl:=nB_ hg;obtain⟨n,c,hy⟩:=hyn hn;refine Bv6 h fun hl=> ?_
    have hl:=of_decide_eq_true hl;rw[length_drop]at hl;obtain⟨i,hi,_,hu⟩:=J7 hx;obtain⟨-,hg',-,hnn,htot,-,-⟩:=h.buf_heap hr hi;obtain⟨ho,p,hu,hp⟩:=hu hg'.symm;have hp:=hp (by omega);subst hp;refine S8 hu (q:= .slice none n c) (by rw[hy];rfl) (fun o=>by cases o<;>rfl) (fun d=> ?_) rfl rfl;simp[Op.equalIn,run_underlying ht]
   .trivial
  .trivial
 .trivial
theorem Cy7{o:BinOp}{t t':TypeId}{x y:Operand}(h:Ow S wl M0 M ρ ob w)(hev:∀x,B8 M ρ (ev x) (a.eval x)):(L3 P ob d ty ev (.binOp o t x y t')).Good (D5 r P a (.binOp o t x y t') S wl M0 M ρ ob w):=by
 simp only[L3];exact G5 (Dm2 h hev) (G5 (Ft6 h hev) (Ed9 h hev))
theorem Bu2{te:TypeId}{cs:List V}{q:Nat}{i:Inf}(h:Ow S wl M0 M ρ ob w)(hr:ob q=some (.box te cs))(hi:ρ q=some i):w.shape? i.b=some (te,cs.length):=by
 obtain⟨us,e,hw,hrel,_,rfl⟩:=h.box_heap hr hi;simp[World.shape?,hw,hrel.len]
theorem Y9{s t:TypeId}{x:Operand}{v u:Value}(hx:a.eval x=v)(hr:(convert s t v).run P w= .ok u w):Run P a (.convert s t x) w u w:=by
 intro d ty pos aft g;simp[execOp,hx,hr]
theorem Dm5{s t e:TypeId}{x:Operand}{str:List UInt8}{sd:TypeDesc}(h:Ow S wl M0 M ρ ob w)(hx:B8 M ρ (.d (.str str)) (a.eval x))(hs:P.underlying s=some sd)(ht:P.underlying t=some (.slice e))(he:P.underlying e=some (.int .u8)):
 D5 r P a (.convert s t x) S wl M0 M ρ ob w (.d (.sl 1 (str.map Aj9))) []:=by
 have hp:=P0 hx;have hlt:∀b c,M b=some c->b≠w.heap.size:=fun b c hb=>by have:=h.sits.lt hb;omega
 let M':Mem:=fun b=>if b=w.heap.size then some (Lib.bytesCells w e ⟨str.toArray⟩) else M b
 have hMn:M' w.heap.size=some (Lib.bytesCells w e ⟨str.toArray⟩):=if_pos rfl;have hMo:∀b,b≠w.heap.size->M' b=M b:=fun b hb=>if_neg hb
 have hle:M.le M':=fun b c hc=>⟨c,by rw[hMo b (hlt b c hc)];exact hc,Pre.refl c⟩
 have hold:∀k,k<w.heap.size->(Lib.bytesWorld w e ⟨str.toArray⟩).heap[k]? =w.heap[k]? :=fun k hk=>Lib.bytesWorld_at_old w e _ k hk
 have hR:Rle M M' ρ ρ:=⟨hle,fun _ j hj=>⟨j,hj,Ile.refl j⟩⟩
 have hrun:Run P a (.convert s t x) w (.slice (some ⟨w.heap.size,0,none⟩) str.length (grownCap w str.length 0 e)) (Lib.bytesWorld w e ⟨str.toArray⟩):=by
  intro d ty pos aft g;have:=Lib.run_convert_string_bytes (P:=P) w s t e ⟨str.toArray⟩ hs ht he;simp only[show ByteArray.size ⟨str.toArray⟩=str.length from rfl]at this;simp[execOp,hp,Z9,this]
 refine Eff.of_run hrun rfl ⟨M',ρ,hR,⟨?_,h.os,h.tape,h.output,fun k hk hS=> ?_,fun b c hb=> ?_,Mem.le_trans h.le hle,h.gl.mono hle,fun b c hb hlt'=> ?_,fun q o hq=> ?_,h.dom,h.inj,h.held⟩,?_⟩
 .rw[Lib.bytesWorld_size];exact Nat.le_succ_of_le h.size
 .rw[hold k (a0_ hk h.size)];exact h.old k hk hS
 .by_cases e1:b=w.heap.size
  .subst e1;rw[hMn]at hb;cases hb;exact⟨_,_,_,Lib.bytesWorld_at_new w e _,Pre.refl _⟩
  .rw[hMo b e1]at hb;rw[hold b (h.sits.lt hb)];exact h.sits b c hb
 .have e1:b≠w.heap.size:=by have:=h.size;omega
  rw[hMo b e1]at hb;exact h.new b c hb hlt'
 .obtain⟨i,h1,h2⟩:=h.own q o hq;exact⟨i,h1,h2.mono hR (fun _ hl=>hMo _ (Nat.ne_of_lt (E0 h2 hl).2)) (fun _ hl=>hold _ (E0 h2 hl).2)⟩
 .simp only[B8];have hcap:str.length<=grownCap w str.length 0 e:=grownCap_ge w str.length 0 e;have hcell:∀(i:Nat) (b:UInt8),str[i]? =some b->(Lib.bytesCells w e ⟨str.toArray⟩)[i]? =some (Value.int .u8 b.toNat):=fun i b hb=>by
   have hi:=(ac_.1 hb)
   obtain⟨hi,rfl⟩:=hi;unfold Lib.bytesCells;rw[Array.getElem?_append_left (by simpa using hi)];simp[hi]
  have key:=T7.sl (M:=M') 1 (str.map Aj9) (some ⟨w.heap.size,0,none⟩) (grownCap w str.length 0 e) w.heap.size 0 (fun(i:Nat)=>match(str[i]? :Option UInt8) with|some b=>[Value.int .u8 (b.toNat:Int)]|none=>([]:List Value)) (by rw[length_map];exact hcap) (fun _=>rfl)
   (fun i hi=>by
    rw[length_map]at hi;have hb:str[i]? =some str[i]:=aa_ hi;refine⟨_,hMn,fun j hj=> ?_⟩;simp only[hb]at hj⊢;have:j=0:=by simp at hj;omega
    subst this;rw[show 0+i*1+0=i by omega,hcell i _ hb];rfl)
   (fun i cs hc=>by
    rw[List.getElem?_map]at hc;cases hb:str[i]? with
    |none=>rw[hb]at hc;cases hc
    |some b=>rw[hb]at hc;cases hc;exact⟨rfl,rfl⟩)
   (fun i j cs c u hc hj hu=>by
    rw[List.getElem?_map]at hc;cases hb:str[i]? with
    |none=>rw[hb]at hc;cases hc
    |some b=>
     rw[hb]at hc;cases hc;simp only[hb]at hu
     match j with
     |0=>cases hj;cases hu;exact .int _ _
     |j+1=>simp[Aj9]at hj)
  rw[length_map]at key;exact key
theorem Bd4:∀{ls:List (List Dat)} {s:List UInt8},Es2 ls=some s->∃ints:List Int,ls=ints.map (fun n=>[.int .u8 n])/\s=ints.map fun x=>x.toNat.toUInt8
 |[],s,h=>by simp only[Es2,Option.some.injEq]at h;exact⟨[],rfl,h.symm⟩
 |x::l,s,h=>by
  unfold Es2 at h;split at h
  .cases‹x::l=[]›
  .rename_i n l' heq;cases heq;split at h
   .rename_i s' hs';cases h;obtain⟨ints,rfl,rfl⟩:=Bd4 hs';exact⟨n::ints,rfl,rfl⟩
   .cases h
  .cases h
theorem Bi9:∀(ints:List Int) (r:ByteArray),ints.foldl (fun r n=>r.push (UInt8.ofNat n.toNat)) r=⟨r.data++(ints.map fun x=>x.toNat.toUInt8).toArray⟩
 |[],r=>by simp
 |n::l,r=>by
  simp only[foldl_cons,map_cons];rw[Bi9 l];simp[ByteArray.push]
theorem Dn5{s t e:TypeId}{x:Operand}{ints:List Int}{M1:Mem}{wr:Wr}(h1:Rle M M1 ρ ρ)(o1:Ow S wl M0 M1 ρ (wrO ob wr) w)(hd:T7 M1 (.sl 1 (ints.map fun n=>[.int .u8 n])) (a.eval x))(hs:P.underlying s=some (.slice e))(he:P.underlying e=some (.int .u8))(ht:P.underlying t=some .string):
 D5 r P a (.convert s t x) S wl M0 M ρ ob w (.d (.str (ints.map fun x=>x.toNat.toUInt8))) wr:=by
 have hrun:(convert s t (a.eval x)).run P w= .ok (Z9 (ints.map fun x=>x.toNat.toUInt8)) w:=by
  have key:∀(p:Addr) (cap:Nat),(∀j v,ints[j]? =some v->w.cell? (p.add j)=some (.int .u8 v))->(convert s t (.slice (some p) ints.length cap)).run P w= .ok (Z9 (ints.map fun x=>x.toNat.toUInt8)) w:=fun p cap hc=>by
   have hl:=run_loadCells_list (P:=P) w p (ints.map (Value.int .u8)) (fun j v hj=>by
    rw[List.getElem?_map]at hj;cases hi:ints[j]? with
    |none=>rw[hi]at hj;cases hj
    |some n=>rw[hi]at hj;cases hj;exact hc j n hi)
   rw[length_map]at hl;rw[run_convert_bytes_string w s t e (some p) ints.length cap hs he ht,run_bytesToString w p ints.length cap ints hl,Bi9];have he0:ByteArray.empty.data= #[]:=rfl;rw[he0];simp[Z9]
  generalize a.eval x=u at hd;have hes:(ints.map fun n=>[Dat.int .u8 n]).length=ints.length:=length_map _;cases hd with
  |sl _ _ p cap b o us hcap ha hc hsz hr=>
   rw[hes];cases ints with
   |nil=>
    cases p with
    |none=>
     show(convert s t (.slice none 0 cap)).run P w=_;rw[run_convert_bytes_string w s t e none 0 cap hs he ht];rfl
    |some p=>exact key p cap (fun j v hj=>by cases hj)
   |cons n l=>
    rw[ha (by simp)];refine key ⟨b,o,none⟩ cap (fun j v hj=> ?_);have hjl:=(ac_.1 hj).1;have hej:((n::l).map fun n=>[Dat.int .u8 n])[j]? =some [.int .u8 v]:=by rw[List.getElem?_map,hj];rfl
    obtain⟨c,hb,hcc⟩:=hc j (by rw[hes];exact hjl);have hl1:=(hsz j _ hej).2;obtain⟨y,hy⟩:∃y,us j=[y]:=length_eq_one_iff.1 hl1;have hry:=hr j 0 _ _ y hej rfl (by rw[hy];rfl);have hc0:=hcc 0 (by rw[hy];exact Nat.zero_lt_one);rw[hy]at hc0;have hyv:y= .int .u8 v:=by cases hry;rfl
    rw[hyv]at hc0;have:w.cell? ⟨b,o+j,none⟩=some (.int .u8 v):=o1.sits.cell hb (by rw[ch_,Nat.add_zero]at hc0;exact hc0);have e1:(⟨b,o,none⟩:Addr).add j=⟨b,o+j,none⟩:=by simp only[Addr.add];split<;>simp_all
    rw[e1];exact this
 exact Eff.of_run (Y9 rfl hrun) rfl ⟨M1,ρ,h1,o1,By5⟩
theorem Ed5{s t:TypeId}{x:Operand}(h:Ow S wl M0 M ρ ob w)(hev:∀x,B8 M ρ (ev x) (a.eval x)):(Bv7 P ob s t (ev x)).Good (D5 r P a (.convert s t x) S wl M0 M ρ ob w):=by
 have hx:=hev x;generalize ev x=vx at*;unfold Bv7;split
 .rename_i q k;obtain⟨i,hi,hf,hp⟩:=J6 hx;have back:B8 M ρ (.ptr q k) (.pointer (some ⟨i.b,k,none⟩)):=by simp only[B8];exact⟨i,hi,hf,rfl⟩
  split
  .rename_i te cs e hr hs ht;split
   .rename_i n hsz hk;obtain⟨j,hj,hjs⟩:=Ar9 hsz;exact D5.val h (Y9 hp (Lib.run_to_unsafe w (P:=P) ⟨i.b,k,none⟩ hs ht hj (by rw[hjs];omega) (Bu2 h hr hi) (Ac8 hk))) rfl back
   .trivial
  .rename_i te cs e hr hs ht;split
   .rename_i n hsz hl;obtain⟨j,hj,hjs⟩:=Ar9 hsz;exact D5.val h (Y9 hp (Lib.run_from_unsafe w (P:=P) ⟨i.b,k,none⟩ hs ht hj (Bu2 h hr hi) hl)) rfl back
   .trivial
  .trivial
 .split
  .rename_i sd e hs ht;split
   .rename_i he;intro es hes;cases hes;exact Dm5 h hx hs ht he
   .trivial
  .trivial
 .split
  .rename_i e hs ht;split
   .rename_i sz es wr he hdt;split
    .rename_i hz;obtain rfl:=nB_ hz;obtain⟨M1,r1,o1,hd⟩:=R8 h hx hdt;intro z hz;unfold Fl5 at hz;split at hz
     .rename_i str hstr;cases hz;obtain⟨ints,rfl,rfl⟩:=Bd4 hstr;exact Dn5 r1 o1 hd hs he ht
     .cases hz
    .trivial
   .trivial
  .trivial
theorem Bv2{s t:TypeId}{x:Operand}(h:Ow S wl M0 M ρ ob w)(hev:∀x,B8 M ρ (ev x) (a.eval x)):(L3 P ob d ty ev (.convert s t x)).Good (D5 r P a (.convert s t x) S wl M0 M ρ ob w):=by
 simp only[L3];exact G5 (Ch0 h hev) (Ed5 h hev)
theorem Bn6{t:TypeId}{x:Operand}(h:Ow S wl M0 M ρ ob w):(L3 P ob d ty ev (.makeInterface t x)).Good (D5 r P a (.makeInterface t x) S wl M0 M ρ ob w):=by
 simp only[L3];split
 .trivial
 .rename_i u hni hu;refine D5.val h (u:= .iface t (a.eval x)) ?_ rfl (V5 (.ifc _ _));intro d ty pos aft g;cases u<;>first|(exact absurd rfl (hni _))|simp[execOp,Instr.makeInterface,run_underlying hu]
 .trivial
theorem Ac0(w:World)(a:Addr)(n:Nat){k:Nat}(hk:k≠a.block):(w.freeze a n).heap[k]? =w.heap[k]? :=by
 unfold World.freeze;split
 .rfl
 .simp[Array.getElem?_modify,Ne.symm hk]
theorem Bw5(w:World)(a:Addr)(n:Nat){c:Array Value}{e:TypeId}{z:Nat×Nat}(h:w.heap[a.block]? =some (.cells c e z)):∃z',(w.freeze a n).heap[a.block]? =some (.cells c e z'):=by
 unfold World.freeze;split
 .exact⟨z,h⟩
 .obtain⟨lo,hi⟩:=z;simp[Array.getElem?_modify,h]
theorem Ci2(w:World)(a:Addr)(n:Nat):(w.freeze a n).heap.size=w.heap.size/\(w.freeze a n).os=w.os/\(w.freeze a n).tape=w.tape/\(w.freeze a n).output=w.output:=by
 unfold World.freeze;split
 .exact⟨rfl,rfl,rfl,rfl⟩
 .exact⟨by simp,rfl,rfl,rfl⟩
theorem Ow.froze(h:Ow S wl M0 M ρ ob w)(a:Addr)(n:Nat)(hb:S a.block\/wl.heap.size<=a.block)(hn:∀r o i,ob r=some o->ρ r=some i->¬blk i o a.block):Ow S wl M0 M ρ ob (w.freeze a n):=by
 obtain⟨z1,z2,z3,z4⟩:=Ci2 w a n;refine⟨by rw[z1];exact h.size,z2.trans h.os,z3.trans h.tape,z4.trans h.output,fun k hk hS=> ?_,fun b c hc=> ?_,h.le,h.gl,h.new,fun r o hr=> ?_,h.dom,h.inj,h.held⟩
 .rw[Ac0 w a n (fun e=>by subst e;rcases hb with hb|hb;exact hS hb;omega)];exact h.old k hk hS
 .obtain⟨c',e',z',h1,h2⟩:=h.sits b c hc;by_cases e:b=a.block
  .subst e;obtain⟨z'',h3⟩:=Bw5 w a n h1;exact⟨c',e',z'',h3,h2⟩
  .exact⟨c',e',z',by rw[Ac0 w a n e];exact h1,h2⟩
 .obtain⟨i,h1,h2⟩:=h.own r o hr;exact⟨i,h1,h2.mono (Rle.refl _ _) (fun _ _=>rfl) (fun b hl=>Ac0 w a n (fun e=>hn r o i hr h1 (e▸hl)))⟩
theorem At5:∀(l:List Int) (a:Addr) (acc:ByteArray),(∀j x,l[j]? =some x->w.cell? (a.add j)=some (.int .u8 x))->
 (loadBytes a acc l.length).run P w= .ok ⟨acc.data++(l.map fun x=>x.toNat.toUInt8).toArray⟩ w
 |[],a,acc,_=>by simp[loadBytes]
 |x::l,a,acc,h=>by
  have h0:w.cell? a=some (.int .u8 x):=by
   have:=h 0 x rfl;simpa[Addr.add] using this
  have ih:=At5 l (a.add 1) (acc.push x.toNat.toUInt8) (fun j y hy=>by
   have:=h (j+1) y (by simpa using hy);have e:(a.add 1).add j=a.add (j+1):=by
    unfold Addr.add;by_cases hj:j=0
    .subst hj;simp
    .simp[hj];omega
   rw[e];exact this)
  have hl:(load a).run P w= .ok (.int .u8 x) w:=by rw[Go.run_load,h0]
  simp only[length_cons,loadBytes,Sem.run_bind,hl,Result.andThen];rw[ih];simp
theorem Cz9{e:TypeId}(hc:P.cellsOf e=1)(count off n:Nat)(hn:off+n<=count):liesAt P P.depth e count off e n=true:=by
 have hd:P.depth=(2*(P.types.size+Made.depth)+1)+1:=rfl;rw[hd];simp only[liesAt,Bool.or_eq_true];left;rw[hd];simp[rowAt,hc,hn,sameLayout,Nat.mod_one]
theorem Dn2{x:Operand}{ts:Array TypeId}(h:Ow S wl M0 M ρ ob w)(hev:∀x,B8 M ρ (ev x) (a.eval x)):
 (Az8 ob (ev x)).Good (D5 r P a (.call {callee:= .builtin .unsafeSliceData,args:= #[x],argTypes:=ts}) S wl M0 M ρ ob w):=by
 have hx:=hev x;generalize ev x=vx at*;unfold Az8;split
 .rename_i q g off;split
  .rename_i g' e sz es hr;split
   .rename_i hg;obtain rfl:=nB_ hg;intro z hz;have hlt:=of_decide_eq_true (J5 hz);obtain⟨i,hi,hge,hu⟩:=J7 hx;obtain⟨hfix,hg',hsz,hnn,ht,hmax,hh⟩:=h.buf_heap hr hi;obtain⟨ho,p,hu,hp⟩:=hu hg'.symm;have hp:=hp (by omega);subst hp;refine D5.val h (u:= .pointer (some ⟨i.b,(i.base+off)*i.sz,none⟩)) ?_ rfl ?_
    .intro d ty pos aft g;simp[execOp,resolve,invoke,builtin,hu,Lib.run_unsafeSliceData_row (P:=P) (w:=w) ts ty ⟨i.b,(i.base+off)*i.sz,none⟩ (i.n-off) (i.tot-off) (by omega)]
    .simp only[B8];exact⟨i,hi,by omega,rfl,fun _=>⟨by omega,by simp⟩⟩
   .trivial
  .trivial
 .trivial
theorem Ee2{x y:Operand}{pt it:TypeId}(h:Ow S wl M0 M ρ ob w)(hev:∀x,B8 M ρ (ev x) (a.eval x)):
 (Bw0 P ob pt (ev x) (ev y)).Good (D5 r P a (.call {callee:= .builtin .unsafeString,args:= #[x,y],argTypes:= #[pt,it]}) S wl M0 M ρ ob w):=by
 have hx:=hev x;have hy:=hev y;generalize ev x=vx at*;generalize ev y=vy at*;unfold Bw0;split
 .rename_i q g j k m e hm hpt;split
  .rename_i g' e' sz es hr;split
   .rename_i b1 b2 b3 b4 b5;obtain rfl:=nB_ b1;obtain rfl:=nB_ b2;obtain rfl:=nB_ b3;obtain rfl:=nB_ b4;have hc:=nB_ b5;intro z hz;unfold usd at hz;cases hb:(decide (0<m)&&decide (j+m.toNat<=es.length)&&decide (m<=2147483648)) with
    |false=>rw[hb]at hz;cases hz
    |true=>
     rw[hb,cond_true]at hz;simp only[Bool.and_eq_true,decide_eq_true_eq]at hb;obtain⟨⟨m0,m1⟩,m2⟩:=hb;split at hz
     .rename_i s hs;cases hz;obtain⟨ints,h1,h2⟩:=Bd4 hs;have hil:ints.length=m.toNat:=by
       have:=congrArg List.length h1;simp only[length_take,length_drop,length_map]at this;omega
      obtain⟨kk,hk⟩:=N1 hm hy;obtain⟨i,hi,hge,hu⟩:=Am1 hx;obtain⟨hfix,hg',hsz,hnn,ht,hmax,hh⟩:=h.buf_heap hr hi;obtain⟨hjn,hp⟩:=hu hg'.symm;obtain⟨hmn,pre,us,sp,hw,hpre,hlen,hrl⟩:=hh (by omega);have hul:us.length=es.length*1:=Bj4 hrl;rw[hsz,ch_,Nat.add_zero]at hp;rw[ch_]at hpre hul hlen;have hcell:∀q v,ints[q]? =some v->w.cell? ((⟨i.b,i.base+j,none⟩:Addr).add q)=some (.int .u8 v):=fun q v hq=>by
       have hql:=(ac_.1 hq).1;have he:es[j+q]? =some [.int .u8 v]:=by
        have:=congrArg (·[q]?) h1;simp only[List.getElem?_map,hq,Option.map_some]at this;rw[getElem?_take_of_lt (by omega),getElem?_drop]at this;exact this
       obtain⟨p1,p2,p3⟩:=Av5 hrl he;rw[ch_]at p3;obtain⟨u,us',e1,e2,e3⟩:=p3;have hu:us[j+q]? =some u:=by
        have:=congrArg (·[0]?) e1;simpa[getElem?_take,getElem?_drop] using this
       have eu:u= .int .u8 v:=by cases e2;rfl
       subst eu;unfold World.cell? Addr.add;have:(if q=0 then(⟨i.b,i.base+j,none⟩:Addr) else⟨i.b,i.base+j+q,none⟩)=⟨i.b,i.base+j+q,none⟩:=by
        split
        .rename_i h0;subst h0;rfl
        .rfl
       simp only at this⊢;rw[this];simp only[hw,Option.isSome_none,Bool.false_eq_true,if_false,getElem?_toArray];rw[show i.base+j+q=pre.length+(j+q) by omega,au_ (by omega),Nat.add_sub_cancel_left,an_ (by omega)];exact hu
      have hsh:w.shape? i.b=some (e,(pre++(us++sp)).length):=by simp[World.shape?,hw]
      have hlb:=At5 (P:=P) (w:=w) ints ⟨i.b,i.base+j,none⟩ .empty hcell;have hlies:=Cz9 (P:=P) hc ((pre++(us++sp)).length/P.cellsOf e) (i.base+j) m.toNat (by rw[hc,Nat.div_one];simp only[length_append];omega);obtain⟨M1,r1,o1⟩:=h.freeze hr;have hmine:S i.b\/wl.heap.size<=i.b:=hmn.1;have o2:=o1.froze ⟨i.b,i.base+j,none⟩ m.toNat hmine (fun r' o' i' h3 h4 h5=>by
       by_cases er:r'=q
       .subst er;rw[B3]at h3;cases h3;exact Aj8 rfl rfl h5
       .rw[C5 _ _ er]at h3;exact er (h.inj r' q o' _ i' i _ h3 hr h4 hi h5 (.inl ⟨by simp only[Aj1];omega,rfl⟩)))
      refine Eff.of_run (v:=Z9 s) (w':=w.freeze ⟨i.b,i.base+j,none⟩ m.toNat) ?_ rfl ⟨M1,ρ,r1,o2,By5⟩;intro d ty pos aft g;have hm0:¬m<0:=by omega
      have hm1:¬(9223372036854775807<m):=by omega
      have hm2:m≠0:=by omega
      rw[hil]at hlb;generalize (pre++(us++sp)).length=L at hsh hlies;have hdef:Builtin.unsafeString_ #[pt,it] ty #[.pointer (some ⟨i.b,i.base+j,none⟩),.int kk m]=
       (do
        let n<-asInt (.int kk m)
        if n<0 then runtimePanic (.error "unsafe.String: len out of range")
        if n>i64.max then unsupported (.unsafePointer "String: a length above the largest int")
        if n=0 then pure (.string .empty)
        else if<-variablesAt ⟨i.b,i.base+j,none⟩ (<-elemOf pt) n.toNat then do
         let s<-loadBytes ⟨i.b,i.base+j,none⟩ .empty n.toNat
         freeze ⟨i.b,i.base+j,none⟩ n.toNat
         pure (.string s)
        else unsupported (.unsafePointer "String: not so many bytes at ptr")):=rfl
      have hmx:i64.max=9223372036854775807:=rfl;simp[execOp,resolve,invoke,builtin,hp,hk,hdef,asInt,asIntOf,hmx,hm0,hm1,hm2,variablesAt,elemOf,run_underlying hpt,hsh,hlies,hlb,h2,Z9]
     .cases hz
   .trivial
  .trivial
 .trivial
end
end
section
theorem J1.mono'{R R':Nat->List Dat->List Value->List Nat->Prop}{sz:Nat}:∀{es:List (List Dat)} {us:List Value} {bs:List Nat} {j:Nat},J1 R sz j es us bs->(∀i x u b,j<=i->(∀c,c∈b->c∈bs)->R i x u b->R' i x u b)->J1 R' sz j es us bs
 |[],_,_,_,h,_=>h
 |x::es,us,bs,j,⟨u,us',b1,b2,e1,e2,e3,e4,e5⟩,hR=>by
  subst e2;exact⟨u,us',b1,b2,e1,rfl,e3,hR _ _ _ _ (ad_ _) (fun c hc=>am_ _ hc) e4,e5.mono' (fun j x u b hj hb=>hR j x u b (by omega) (fun c hc=>al_ _ (hb c hc)))⟩
theorem Bd0{us u:List Value}{o k n:Nat}{xs:List Value}(hu:u=(us.drop o).take n)(hl:o+n<=us.length)(hk:k+xs.length<=n):D2 us (o+k) xs=D2 us o (D2 u k xs):=by
 have hul:u.length=n:=by rw[hu];simp;omega
 have e1:(D2 u k xs).length=n:=by rw[L9 _ _ _ (by omega),hul]
 have e2:us=us.take o++(u++us.drop (o+n)):=by rw[hu,<-az_,ao_,ao_]
 apply b6_;intro j;have f:∀(l ys:List Value) (p j:Nat),p+ys.length<=l.length->(D2 l p ys)[j]? =if j<p then l[j]? else if j<p+ys.length then ys[j-p]? else l[j]? :=fun l ys p j hp=>by
  unfold D2;rw[List.append_assoc];split
  .rw[an_ (by simp;omega),getElem?_take_of_lt (by assumption)]
  .rw[au_ (by simp;omega),length_take,bv_ (by omega)];split
   .rw[an_ (by omega)]
   .rw[au_ (by omega),getElem?_drop];congr 1;omega
 rw[f _ _ _ _ (by omega),f _ _ _ _ (by omega),e1,f u xs k (j-o) (by omega)];have g:∀j,o<=j->j<o+n->u[j-o]? =us[j]? :=fun j h1 h2=>by
  rw[hu,getElem?_take_of_lt (by omega),getElem?_drop];congr 1;omega
 by_cases h1:j<o
 .rw[if_pos (show j<o+k by omega),if_pos h1]
 .rw[if_neg h1];by_cases h2:j<o+n
  .rw[if_pos h2];by_cases h3:j<o+k
   .rw[if_pos h3,if_pos (show j-o<k by omega),g j (by omega) h2]
   .rw[if_neg h3,if_neg (show¬j-o<k by omega)];by_cases h4:j<o+k+xs.length
    .rw[if_pos h4,if_pos (show j-o<k+xs.length by omega)];congr 1;omega
    .rw[if_neg h4,if_neg (show¬j-o<k+xs.length by omega),g j (by omega) h2]
  .rw[if_neg h2,if_neg (show¬j<o+k by omega),if_neg (show¬j<o+k+xs.length by omega)]
theorem N2{pre us xs:List Value}{o:Nat}:D2 (pre++us) (pre.length+o) xs=pre++D2 us o xs:=by
 unfold D2;rw[take_append,ap_ (by omega),Nat.add_sub_cancel_left,Nat.add_assoc,drop_append,ag_ (by omega),Nat.add_sub_cancel_left];simp
theorem X1{us sp xs:List Value}{o:Nat}(h:o+xs.length<=us.length):D2 (us++sp) o xs=D2 us o xs++sp:=by
 unfold D2;rw[take_append_of_le_length (by omega),drop_append_of_le_length (by omega)];simp
theorem J1.len{R:Nat->List Dat->List Value->List Nat->Prop}{sz:Nat}:∀{es:List (List Dat)} {us:List Value} {bs:List Nat} {j:Nat},J1 R sz j es us bs->us.length=es.length*sz
 |[],us,_,_,h=>by rw[h.1];simp
 |x::es,_,_,j,⟨u,us',b1,b2,e1,e2,e3,e4,e5⟩=>by
  rw[e1,length_append,e3,e5.len,length_cons,Nat.add_mul,bj_,cs_]
theorem J1.get{R:Nat->List Dat->List Value->List Nat->Prop}{sz:Nat}:∀{es:List (List Dat)} {us:List Value} {bs:List Nat} {j q:Nat},J1 R sz j es us bs->(hq:q<es.length)->
 ∃b,R (j+q) es[q] ((us.drop (q*sz)).take sz) b/\((us.drop (q*sz)).take sz).length=sz/\∃b1 b2,bs=b1++(b++b2)/\
  ∀(R':Nat->List Dat->List Value->List Nat->Prop) (x':List Dat) (u':List Value) (b':List Nat),(∀i x u c,i≠j+q->(∀y,y∈c->y∈b1++b2)->R i x u c->R' i x u c)->u'.length=sz->R' (j+q) x' u' b'->J1 R' sz j (es.set q x') (D2 us (q*sz) u') (b1++(b'++b2))
 |[],_,_,_,q,_,hq=>by simp at hq
 |x::es,us,bs,j,0,⟨u,us',b1,b2,e1,e2,e3,e4,e5⟩,_=>by
  subst e1 e2;have ht:((u++us').drop (0*sz)).take sz=u:=by rw[Nat.zero_mul,drop_zero,<-e3,bq_]
  refine⟨b1,by rw[ht];exact e4,by rw[ht];exact e3,[],b2,rfl,fun R' x' u' b' hR hl h'=> ?_⟩;refine⟨u',us',b',b2,?_,rfl,hl,h',e5.mono' (fun i x u c hi hc hr=>hR i x u c (by omega) (fun y hy=>by simpa using hc y hy) hr)⟩;unfold D2;rw[Nat.zero_mul,take_zero,Nat.zero_add,hl,<-e3,b1_];rfl
 |x::es,us,bs,j,q+1,⟨u,us',b1,b2,e1,e2,e3,e4,e5⟩,hq=>by
  subst e1 e2;obtain⟨b,h1,h2,c1,c2,h3,h4⟩:=e5.get (q:=q) (by simpa using hq);have hs:(q+1)*sz=u.length+q*sz:=by rw[Nat.add_mul,bj_,e3,cs_]
  have ht:(((u++us').drop ((q+1)*sz)).take sz)=((us'.drop (q*sz)).take sz):=by
   rw[hs,drop_append,ag_ (by omega),Nat.add_sub_cancel_left,nil_append]
  refine⟨b,?_,by rw[ht];exact h2,b1++c1,c2,by rw[h3];simp,fun R' x' u' b' hR hl h'=> ?_⟩
  .rw[ht,getElem_cons_succ,show j+(q+1)=j+1+q by omega];exact h1
  .have:=h4 R' x' u' b' (fun i x u c hi hc hr=>hR i x u c (by omega) (fun y hy=>by
    have:=hc y hy;simp only[List.append_assoc,List.mem_append]at this⊢;exact .inr this) hr) hl (by rw[show j+1+q=j+(q+1) by omega];exact h')
   refine⟨u,D2 us' (q*sz) u',b1,c1++(b'++c2),?_,by simp,e3,hR _ _ _ _ (by omega) (fun y hy=>by simp[hy]) e4,this⟩;rw[hs,N2]
section
variable {r:Option Nat} {P:Program} {a:Act} {w wl:World} {S:L8} {M0 M:Mem} {ρ:Rho} {ob:Nat->Option B9} {ev:Operand->V} {d:Nat} {ty:TypeId} {op:Op}
theorem Ed6{c:Call}(h:Ow S wl M0 M ρ ob w)(hev:∀x,B8 M ρ (ev x) (a.eval x)){x:Operand}{t:TypeId}(hc:c={callee:= .builtin .len,args:= #[x],argTypes:= #[t]}):(Cp9 ob P t (ev x)).Good (D5 r P a (.call c) S wl M0 M ρ ob w):=by
 subst hc;have hx:=hev x;generalize ev x=vx at*;unfold Cp9;split
 .rename_i e q g off ht;split
  .rename_i g' e' sz shs es hh hr;split
   .rename_i hg;obtain rfl:=nB_ hg;obtain⟨i,hi,_,hu⟩:=J7 hx;obtain⟨i',hi',hok⟩:=h.own q _ hr;rw[hi]at hi';cases hi';obtain⟨_,hg',_,hn,_⟩:=hok;obtain⟨ho,p,hu,_⟩:=hu hg'.symm;exact D5.val h (I2 hu ht) rfl (by rw[length_drop,hn];exact K9)
   .trivial
  .trivial
 .trivial
theorem Cy9{t:TypeId}{x i:Operand}(h:Ow S wl M0 M ρ ob w)(hev:∀x,B8 M ρ (ev x) (a.eval x)):(Av1 P ob t (ev x) (ev i)).Good (D5 r P a (.indexAddr t x i) S wl M0 M ρ ob w):=by
 have hx:=hev x;have hi:=hev i;generalize ev x=vx at*;generalize ev i=vi at*;unfold Av1;split
 .rename_i j q g off hj;obtain⟨k,hk⟩:=N1 hj hi;split
  .rename_i e he;split
   .rename_i n g' e' sz shs es jj cs hs hr;split
    .rename_i hg hn;obtain rfl:=nB_ hg;obtain rfl:=nB_ hn;intro z hz;have hc:=J5 hz;simp only[Bool.and_eq_true,decide_eq_true_eq]at hc;obtain⟨h0,rfl,h2⟩:=hc;obtain⟨f,hf,_,hu⟩:=J7 hx;obtain⟨f',hf',hok⟩:=h.own q _ hr;rw[hf]at hf';cases hf';obtain⟨_,hg',hsz,hn',htot,_⟩:=hok;obtain⟨ho,p,hu,hp⟩:=hu hg'.symm;have hp:=hp (a0_ (cc_ (Nat.le_add_right _ _) h2) (hn'▸htot));subst hp;refine D5.val h (Z0 (i:=j.toNat) hu (by rw[hk,cj_ h0]) (K6 he) hs (by omega)) rfl ?_;have hjt:j.toNat=j.toNat:=rfl;generalize j.toNat=jn at*;simp only[B8];exact⟨f,hf,by omega,rfl,fun _=>⟨by omega,by rw[hsz];simp only[Nat.add_mul,Nat.add_zero];congr 3;omega⟩⟩
    .trivial
   .trivial
  .trivial
 .trivial
theorem Cb4(h:Ow S wl M0 M ρ ob w){q g sz jj:Nat}{e:TypeId}{shs:List Sh}{es:List (List Dat)}{cs:List V}(hr:ob q=some (.tree g e sz shs es (some (jj,cs)))){i:Inf}(hi:ρ q=some i)(hj:jj<es.length):
 i.fix=false/\i.g=g/\i.sz=sz/\i.n=es.length/\i.n<=i.tot/\Gb6 S wl M i/\∃(pre us sp:List Value),w.heap[i.b]? =some (.cells (pre++(us++sp)).toArray e (0,0))/\pre.length=i.base*sz/\(us++sp).length=i.tot*sz/\us.length=es.length*sz/\
  ((us.drop (jj*sz)).take sz).length=sz/\B2 M ρ cs ((us.drop (jj*sz)).take sz)/\(∀v∈(us.drop (jj*sz)).take sz,v.oneCell'=true):=by
 obtain⟨i',hi',hok⟩:=h.own q _ hr;rw[hi]at hi';cases hi';obtain⟨a1,a2,a3,a4,a5,a6,a7,a8,a9,a10⟩:=hok;obtain⟨b1,b2,pre,us,sp,b3,b4,b5,b6⟩:=a10 (by omega);obtain⟨b,h1,h2,_⟩:=b6.get hj;rw[Nat.zero_add]at h1;obtain⟨_,h3,h4⟩:=h1.1 rfl;exact⟨a1,a2,a3,a4,a5,⟨b1.1,b1.2.1 (a2▸b2)⟩,pre,us,sp,b3,b4,b5,b6.len,h2,h3,h4⟩
theorem Dn0{t:TypeId}{x:Operand}(h:Ow S wl M0 M ρ ob w)(hev:∀x,B8 M ρ (ev x) (a.eval x)):(Bn7 P ob t (ev x)).Good (D5 r P a (.load t x) S wl M0 M ρ ob w):=by
 have hx:=hev x;generalize ev x=vx at*;unfold Bn7;split
 .rename_i n ag q g j k hz;split
  .rename_i g' e sz shs es jj cs hr;split
   .rename_i hg hl hcs;obtain rfl:=nB_ hg;have hl:=I1 hl;have hcs:=nB_ hcs;intro z hzc;have hc:=J5 hzc;simp only[Bool.and_eq_true,decide_eq_true_eq]at hc;obtain⟨rfl,hj⟩:=hc;obtain⟨hs,ha,h1⟩:=U4 hz;obtain⟨i,hi,hg,hp⟩:=Am1 hx;obtain⟨_,hg',hsz,hn,ht,hm,pre,us,sp,hw,hpre,hlen,hul,hu,hrel,_⟩:=Cb4 h hr hi hj;obtain⟨hjn,hp⟩:=hp hg'.symm;generalize hu0:(us.drop (j*sz)).take sz=u at hu hrel;have hu':((u.drop k).take n).length=n:=P2 (by omega);refine D5.val h (run_load (vs:=(u.drop k).take n) hp ha (by rw[hu'];exact hs) (fun e=>by rw[hu'];exact h1 e) (fun q v hq=> ?_)) rfl (Y7 (_n:=n) ((hrel.drop k).take n) (fun e=>by rw[hu'];exact h1 e));have h3:=W6 rfl hq;have h4:k+q<u.length:=(ac_.1 h3).1;rw[<-hu0,getElem?_take_of_lt (by omega),getElem?_drop]at h3;have h6:=(ac_.1 h3).1;simp only[World.cell?,hw];simp;have e2:(i.base+j)*i.sz+k+q=pre.length+(j*sz+(k+q)):=by rw[hpre,hsz,Nat.add_mul];omega
    rw[e2,au_ (by omega),Nat.add_sub_cancel_left,an_ h6,h3]
   .trivial
  .trivial
 .trivial
theorem Cz1{t:TypeId}{x y:Operand}(h:Ow S wl M0 M ρ ob w)(hev:∀x,B8 M ρ (ev x) (a.eval x)):(Av2 P ob t (ev x) (Af4 P t (ev y))).Good (D5 r P a (.store t x y) S wl M0 M ρ ob w):=by
 have hx:=hev x;have hy:=T2 (P:=P) (t:=t) (hev y);generalize ev x=vx at*;generalize Af4 P t (ev y)=vy at*;unfold Av2;split
 .rename_i n rr g j k us0 hs hus;split
  .rename_i g' e sz shs es jj cs hr;split
   .rename_i hg hl hcs hun;obtain rfl:=nB_ hg;have hl:=I1 hl;have hcs:=nB_ hcs;have hun:=nB_ hun;intro z hzc;have hc:=J5 hzc;simp only[Bool.and_eq_true,decide_eq_true_eq]at hc;obtain⟨rfl,hj⟩:=hc;obtain⟨i,hi,hg,hp⟩:=Am1 hx;obtain⟨i',hi',hok⟩:=h.own rr _ hr;rw[hi]at hi';cases hi';obtain⟨a1,a2,a3,a4,a5,a6,a7,a8,a9,a10⟩:=hok;obtain⟨b1,b2,pre,us,sp,hw,hpre,hlen,b6⟩:=a10 (by omega);obtain⟨hjn,hp⟩:=hp a2.symm;have hul:=b6.len;obtain⟨b,g1,hu,c1,c2,hbs,hset⟩:=b6.get hj;rw[Nat.zero_add]at g1 hset;obtain⟨rfl,hrel,hone⟩:=g1.1 rfl;obtain⟨ws,hcw,hrw,hw1⟩:=O2 hus hy;have hwl:ws.length=n:=by rw[hrw.len,hun]
    have hmul:j*sz+sz<=us.length:=by rw[hul,<-Nat.succ_mul];exact be_ _ hj
    have hoff:(i.base+j)*i.sz+k=pre.length+(j*sz+k):=by rw[hpre,a3,Nat.add_mul];omega
    have hst:=S9 (P:=P) (k:=(i.base+j)*i.sz+k) hw hcw (by rw[hwl];exact hs) hw1 (by rw[hoff];simp;omega);have hnew:D2 (pre++(us++sp)).toArray.toList ((i.base+j)*i.sz+k) ws=pre++(D2 us (j*sz) (D2 ((us.drop (j*sz)).take sz) k ws)++sp):=by
     rw[hoff];simp only;rw[N2,X1 (by omega),Bd0 (n:=sz) rfl (by omega) (by omega)]
    rw[hnew]at hst;have hM:M i.b=none:=b1.2.1 (a2▸b2);have hul2:(D2 ((us.drop (j*sz)).take sz) k ws).length=sz:=by rw[L9 _ _ _ (by omega),hu]
    have hsub:i.subs=c1++c2:=by rw[hbs];simp
    have hset':=fun(w':World) (ρ':Rho) (hle:Rle M M ρ ρ') (hww:∀y,y∈i.subs->w'.heap[y]? =w.heap[y]?)=>hset (R5 w' M ρ' sz shs (some (j,Ei7 cs k us0))) (es[j]) (D2 ((us.drop (j*sz)).take sz) k ws) []
     (fun i0 x u c hi0 hc0 hr0=>by
      have:=hr0.2 hi0;exact⟨fun e=>absurd e hi0,fun _=>⟨this.1,this.2.mono hle.le _ (fun y hy=>hww y (by rw[hsub];exact hc0 y hy))⟩⟩)
     hul2 ⟨fun _=>⟨rfl,Bq3 (B2.mono hle _ hrel) (B2.mono hle _ hrw),Ca9 hone hw1⟩,fun e=>absurd rfl e⟩
    rw[List.set_getElem_self]at hset';obtain⟨h5,h6⟩:=h.turn (w':=w.setRow i.b (pre++(D2 us (j*sz) (D2 ((us.drop (j*sz)).take sz) k ws)++sp)).toArray) hr hi i (.tree g e sz shs es (some (j,Ei7 cs k us0))) (fun q _ hq=>setRow_other w i.b q _ (hq (by simp only[Aj1];omega))) (by simp) rfl rfl rfl (fun _ c hc=>by rw[hM]at hc;cases hc) ⟨ad_ _,fun _=>rfl,fun _=>rfl⟩ (fun hl=> .inl ⟨hl,rfl⟩)
     (fun ρ' hle _=>by
      have hother:∀y,y∈i.subs->(w.setRow i.b (pre++(D2 us (j*sz) (D2 ((us.drop (j*sz)).take sz) k ws)++sp)).toArray).heap[y]? =w.heap[y]? :=fun y hy=>setRow_other w i.b y _ (fun e=>by rw[e]at hy;exact(nodup_cons.1 a8).1 hy)
      refine⟨a1,a2,a3,a4,a5,a6,a7,a8,fun y hy=>⟨(a9 y hy).1,(a9 y hy).2.1,by simpa using (a9 y hy).2.2⟩,fun _=>⟨b1,b2,pre,_,sp,setRow_heap w i.b _ _ e _ hw,hpre,?_,?_⟩⟩
      .rw[length_append,L9 _ _ _ (by rw[hul2];exact hmul)];rw[length_append]at hlen;exact hlen
      .have:=hset' _ ρ' hle hother;rw[hsub];simpa using this)
     (fun y hy _=> .inl (.inr ⟨rfl,hy⟩))
    refine Eff.of_runU (w':=w.setRow i.b (pre++(D2 us (j*sz) (D2 ((us.drop (j*sz)).take sz) k ws)++sp)).toArray) ?_ rfl ⟨M,_,h5,h6,C4 _⟩;intro d ty pos aft g;simp[execOp,Instr.storeAt,Instr.sureAddr,hp,hst]
   .trivial
  .trivial
 .trivial
theorem Cs2{w:World}{M:Mem}{ρ:Rho}{e2:TypeId}{n:Nat}{v:Value}(hv:∃a,v= .slice a 0 0):∀(k j:Nat),J1 (R5 w M ρ 1 [.o e2 n (List.replicate n .z)] none) 1 j (List.replicate k [.sl n []]) (List.replicate k [v]).flatten []
 |0,_=>⟨rfl,rfl⟩
 |k+1,j=>by
  obtain⟨a,rfl⟩:=hv;rw[List.replicate_succ,List.replicate_succ,flatten_cons];refine⟨_,_,[],[],rfl,rfl,rfl,⟨rfl,?_⟩,Cs2 ⟨a,rfl⟩ k (j+1)⟩;simp only[F7,Ad5];exact⟨_,[],_,[],[],[],rfl,rfl,rfl,⟨[],a,0,rfl,rfl,ad_ _,at_ _,.inl ⟨rfl,rfl⟩⟩,rfl,rfl,rfl⟩
theorem Dn1{t:TypeId}{l c:Operand}(h:Ow S wl M0 M ρ ob w)(hev:∀x,B8 M ρ (ev x) (a.eval x)):(Bn8 P ob d t (ev l) (ev c)).Good (D5 r P a (.makeSlice t l c) S wl M0 M ρ ob w):=by
 have hl:=hev l;have hc:=hev c;generalize ev l=vl at*;generalize ev c=vc at*;unfold Bn8;split
 .rename_i e l' c' he hl' hc';obtain⟨kl,hkl⟩:=N1 hl' hl;obtain⟨kc,hkc⟩:=N1 hc' hc;have ht:=K6 he;split
  .rename_i by_ n e2 hsz hby hzv hue hd;split
   .rename_i h4;have h4:=I1 h4;intro es hes;obtain⟨hb0,hb1,hb2,rfl⟩:=Cs1 hes;obtain⟨vs,hzt,hzr,_⟩:=Af2 hzv;obtain⟨i,hi,hsize,hbytes,z',hz,hzc⟩:=Bo5 hsz hby hzt;subst hbytes;obtain⟨v,rfl,hv⟩:∃v,vs=[v]/\∃a,v= .slice a 0 0:=by
     have:=hzr M ρ;simp only[B2,B8]at this;obtain⟨u,us',e1,⟨a,e2⟩,e3⟩:=this;subst e3;exact⟨u,e1,a,e2⟩
    have hzz:z'.cells=[v].toArray:=by rw[<-hzc]
    have hbb:(i.bytes:Int)*c'<=281474976710656:=by
     have h5:i.bytes*c'.toNat<=4096*2147483648:=a7_ h4 (by omega);have h6:((i.bytes*c'.toNat:Nat):Int)=(i.bytes:Int)*c':=by rw[b4_];congr 1;omega
     omega
    have hr:=run_make (P:=P) w t e i z' ht hi hz kl kc l' c' hb0 hb1 hbb (by omega);rw[hsize]at hr;have hflat:(madeCells [v].toArray (c'.toNat*1))=((List.replicate l'.toNat [v]).flatten++(List.replicate (c'.toNat-l'.toNat) [v]).flatten).toArray:=by
     apply bh_;rw[Ag2 (zs:=[v]) (n:=1) rfl,<-c2_,b3_];congr 2;omega
    rw[hzz,hflat]at hr;obtain⟨h5,h6⟩:=h.alloc hd (.cells ((List.replicate l'.toNat [v]).flatten++(List.replicate (c'.toNat-l'.toNat) [v]).flatten).toArray e) ⟨w.heap.size,0,c'.toNat,1,l'.toNat,0,false,[]⟩ (.tree 0 e 1 [.o e2 n (List.replicate n .z)] (List.replicate l'.toNat [.sl n []]) none) rfl
     (fun ρ' _ hM=>⟨rfl,rfl,rfl,by simp,by show l'.toNat<=c'.toNat;omega,by show c'.toNat<=maxLen;unfold maxLen;omega,fun _=>rfl,nodup_cons.2 ⟨not_mem_nil,nodup_nil⟩,(fun _ hb=>by cases hb),fun _=>⟨⟨.inr h.size,fun _=>hM,fun c hc=>by rw[show M w.heap.size=none from hM]at hc;cases hc⟩,rfl,[],_,_,World.alloc_heap_new w _,by simp,by
      rw[<-c2_,b3_,length_flatten,cb_,List.sum_replicate_nat];show(l'.toNat+(c'.toNat-l'.toNat))*1=c'.toNat*1;omega,Cs2 hv _ 0⟩⟩) (fun b hb=>by cases hb)
    have h7:=P6 (M:=M) (p:=some ⟨w.heap.size,0,none⟩) (off:=0) (B3 ρ d ⟨w.heap.size,0,c'.toNat,1,l'.toNat,0,false,[]⟩) rfl (at_ _) (fun _=>by simp);refine Eff.of_run ?_ rfl ⟨M,_,h5,h6,h7⟩;intro dd ty pos aft g;simp[execOp,hkl,hkc,hr]
   .trivial
  .trivial
 .trivial
end
end
section
theorem J1.snoc{R:Nat->List Dat->List Value->List Nat->Prop}{sz:Nat}{x:List Dat}{u:List Value}{b:List Nat}:∀{es:List (List Dat)} {us:List Value} {bs:List Nat} {j:Nat},J1 R sz j es us bs->R (j+es.length) x u b->u.length=sz->J1 R sz j (es++[x]) (us++u) (bs++b)
 |[],us,bs,j,h,hr,hu=>by
  obtain⟨rfl,rfl⟩:=h;exact⟨u,[],b,[],by simp,by simp,hu,hr,rfl,rfl⟩
 |y::es,_,_,j,⟨v,us',b1,b2,e1,e2,e3,e4,e5⟩,hr,hu=>by
  subst e1 e2;exact⟨v,us'++u,b1,b2++b,by simp,by simp,e3,e4,e5.snoc (by rw[length_cons]at hr;rw[show j+1+es.length=j+(es.length+1) by omega];exact hr) hu⟩
theorem J1.hole{w:World}{M:Mem}{ρ:Rho}{sz:Nat}{shs:List Sh}{k:Nat}{cs:List V}:∀{es:List (List Dat)} {us:List Value} {bs:List Nat} {j:Nat},J1 (R5 w M ρ sz shs none) sz j es us bs->j+es.length<=k->J1 (R5 w M ρ sz shs (some (k,cs))) sz j es us bs
 |[],_,_,_,h,_=>h
 |x::es,_,_,j,⟨v,us',b1,b2,e1,e2,e3,e4,e5⟩,hk=>by
  simp only[length_cons]at hk;exact⟨v,us',b1,b2,e1,e2,e3,⟨fun e=>absurd e (by omega),fun _=>e4⟩,e5.hole (by omega)⟩
section
variable {r:Option Nat} {P:Program} {a:Act} {w wl:World} {S:L8} {M0 M:Mem} {ρ:Rho} {ob:Nat->Option B9} {ev:Operand->V} {d:Nat} {ty:TypeId} {op:Op}
theorem Cy8{t:TypeId}{n:Nat}{ps:Array (Nat×Operand)}(h:Ow S wl M0 M ρ ob w)(hev:∀x,B8 M ρ (ev x) (a.eval x)):(Av0 P ob d t n ev ps.toList).Good (D5 r P a (.buildSlice t n ps) S wl M0 M ρ ob w):=by
 unfold Av0;split
 .rename_i e he;have ht:=K6 he;split
  .rename_i sz zs v hsz hzt hps;split
   .rename_i cs hcs hd;split
    .rename_i h1 h2 h3;have h1:=nB_ h1;have h2:=I1 h2;have h3:=I1 h3;have hp:=Y5 (ρ:=ρ) (M:=M) (ev:=fun x=>Af4 P e (ev x)) (fun x=>T2 (hev x)) ps.toList;rw[hps]at hp;simp only[Bt4]at hp;obtain⟨u,_,hq,hv,rfl⟩:=hp;obtain⟨ws,hc,hrw,hone⟩:=O2 hcs hv;have hwl:ws.length=sz:=by rw[hrw.len,h1]
     obtain⟨z,hzv,hzc⟩:=Bc9 (w:=w) hzt;have hrun:=Ag5 (a:=a) (ps:=ps) (n:=1) (us:=ws) ht hsz hzv (by omega) (fun cells hcl=>by
      have hcl':cells.toList.length=sz:=by rw[bi_,hcl];omega
      rw[hq];have:=Az9 (pl:=fun i=>some (i*sz,sz)) (cells:=cells.toList) (us:=ws) (i:=0) (off:=0*sz) (v:=u) (rest:=[]) (by rw[hwl]) hc (by rw[hwl,hcl'];omega);rw[Array.toArray_toList]at this;rw[this];unfold D2;rw[Nat.zero_mul,take_zero,Nat.zero_add,hwl,ag_ (by rw[hcl'];omega)];simp[Instr.fill])
     obtain⟨h5,h6⟩:=h.alloc (d:=d) hd (.cells ws.toArray e) ⟨w.heap.size,0,1,sz,1,0,false,[]⟩ (.tree 0 e sz [] [[]] (some (0,cs))) rfl (fun ρ' hle hm=>by
      refine⟨rfl,rfl,rfl,rfl,ad_ _,by show 1<=maxLen;unfold maxLen;omega,fun _=>rfl,by simp,fun b hb=>(by cases hb),fun _=>⟨⟨.inr h.size,fun _=>hm,fun c hc=>by rw[show M w.heap.size=none from hm]at hc;cases hc⟩,rfl,[],ws,[],?_,by simp,by simp;exact hwl,?_⟩⟩
      .rw[nil_append,append_nil];exact World.alloc_heap_new _ _
      .exact⟨ws,[],[],[],by simp,rfl,hwl,⟨fun _=>⟨rfl,B2.mono hle _ hrw,hone⟩,fun e=>absurd rfl e⟩,rfl,rfl⟩)
     refine Eff.of_run hrun rfl ⟨M,_,h5,h6,?_⟩;have:=P6 (M:=M) (p:=some ⟨w.heap.size,0,none⟩) (off:=0) (B3 ρ d ⟨w.heap.size,0,1,sz,1,0,false,[]⟩) rfl (at_ _) (fun _=>by simp);simpa using this
    .trivial
   .trivial
  .trivial
 .trivial
theorem Dx7(h:Ow S wl M0 M ρ ob w){q g sz:Nat}{e:TypeId}{shs:List Sh}{es:List (List Dat)}{hh:Option (Nat×List V)}(hr:ob q=some (.tree g e sz shs es hh)){i:Inf}(hi:ρ q=some i):J0 S wl M ρ w i (.tree g e sz shs es hh):=by
 obtain⟨i',hi',hok⟩:=h.own q _ hr;rw[hi]at hi';cases hi';exact hok
theorem Cg9{c:Call}{s x:Operand}{t t2:TypeId}(h:Ow S wl M0 M ρ ob w)(hev:∀x,B8 M ρ (ev x) (a.eval x))(hc:c={callee:= .builtin .append,args:= #[s,x],argTypes:= #[t,t2]}):
 (Ak4 P ob d t t2 (ev s) (ev x)).Good (D5 r P a (.call c) S wl M0 M ρ ob w):=by
 subst hc;have hs0:=hev s;have hx:=hev x;generalize ev s=vs at*;generalize ev x=vx at*;unfold Ak4;split
 .rename_i e rt gt he;have ht:=K6 he;split
  .rename_i n by_ zs gt' e2 sz2 shs2 x0 cs hsz hby hzt hrt;split
   .rename_i b1 b2 b3 b4 b5 b6 b7;obtain rfl:=nB_ b1;obtain rfl:=nB_ b2;obtain rfl:=nB_ b3;obtain rfl:=nB_ b4;have h1:=I1 b5;have hb:=I1 b6;have h3:=nB_ b7;obtain⟨i,hi,hsize,hbytes,z,hz,hzc⟩:=Bo5 hsz hby hzt;have hzs:z.cells.size=sz2:=by rw[<-bi_,hzc,h3]
    subst hsize;subst hbytes
    obtain⟨k,hk,_,hku⟩:=J7 hx;obtain⟨a1,a2,a3,a4,a5,a6,pre2,us2,sp2,hw2,hp2,hl2,hul2,hu2,hr2,hone2⟩:=Cb4 h hrt hk (Nat.lt_succ_self 0);obtain⟨_,p2,hxe,hxp⟩:=hku a2.symm;have hxp:=hxp (by rw[length_singleton]at a4;omega);subst hxp;rw[length_singleton]at a4;generalize hnews:(us2.drop (0*i.size)).take i.size=news at*;rw[a4,a8_,a8_]at hxe;have hxl:Builtin.lenOf (.slice (some ⟨k.b,(k.base+0)*k.sz,none⟩) 1 k.tot)=pure 1:=rfl;have hfc:∀w',w'.heap=w.heap->(Builtin.firstCells i.size 1 (.slice (some ⟨k.b,(k.base+0)*k.sz,none⟩) 1 k.tot)).run P w'= .ok (List.toArray news) w':=fun w' hw'=>
     run_firstCells_some (P:=P) w' i.size 1 _ _ _ _ (by rw[hu2];omega) (fun j v hj=>by
      rw[E2];unfold World.cell?;rw[hw',hw2];have hjl:=(ac_.1 hj).1;rw[<-hnews,getElem?_take_of_lt (by omega),getElem?_drop]at hj;have hjl2:=(ac_.1 hj).1;have e6:(k.base+0)*k.sz+j=pre2.length+j:=by rw[hp2,a3,Nat.add_zero]
      simp only[Option.isSome_none,Bool.false_eq_true,if_false,getElem?_toArray];rw[e6,au_ (by omega),Nat.add_sub_cancel_left,an_ (by omega)];rw[Nat.zero_mul,Nat.zero_add]at hj;exact hj)
    split
    .split
     .rename_i hd;simp only[B8]at hs0;obtain⟨p,hp⟩:=hs0;have hgr:∀ty,_:=fun ty=>Au5 (ty:=ty) (P:=P) t t e i z ht (.inl ht) hi hz (p:=p) (xv:= .slice (some ⟨k.b,(k.base+0)*k.sz,none⟩) 1 k.tot) (n:=0) (cap:=0) (m:=1) (olds:=[]) (news:=news) (w:=w) hxl (by cases p<;>simp[Builtin.firstCells,loadCells,loadCellsFrom]) (hfc _ rfl) (by omega) (by omega) (by rw[Nat.zero_add];exact Au4 hb (by omega) (by omega))
      have hG:=grownCap_ge w (0+1) 0 e;have hm:grownCap w (0+1) 0 e<=maxLen:=grownCap_le_maxLen w _ _ _ (by unfold maxLen;omega);obtain⟨h5,h6⟩:=h.drew.alloc hd (.cells ([]++(([]++news)++(Builtin.zeroCells z.cells (grownCap w (0+1) 0 e-(0+1))).toList)).toArray e) ⟨w.heap.size,0,grownCap w (0+1) 0 e,i.size,0+1,0,false,[]⟩ (.tree 0 e i.size (Gl3 ob cs) [[]] (some (0,cs))) (by simp) (fun ρ' hle hM=>by
       have hM:M w.heap.size=none:=by simpa using hM
       refine⟨rfl,rfl,rfl,rfl,hG,hm,fun _=>rfl,by simp,fun b hb=>(by cases hb),fun _=>⟨⟨.inr h.size,fun _=>hM,fun c hc=>by rw[show M w.heap.size=none from hM]at hc;cases hc⟩,rfl,[],[]++news,_,World.alloc_heap_new w.drew _,by simp,?_,?_⟩⟩
       .rw[length_append,nil_append,hu2,Y6 i hzs];show i.size+(grownCap w (0+1) 0 e-(0+1))*i.size=grownCap w (0+1) 0 e*i.size;rw[cs_,<-Nat.succ_mul];congr 1;omega
       .exact⟨news,[],[],[],by simp,rfl,hu2,⟨fun _=>⟨rfl,B2.mono hle _ hr2,hone2⟩,fun e=>absurd rfl e⟩,rfl,rfl⟩)
      refine Eff.of_run (H7 hp hxe hgr) rfl ⟨M,_,h5,h6,?_⟩;have:=P6 (M:=M) (p:=some ⟨w.heap.size,0,none⟩) (off:=0) (B3 ρ d ⟨w.heap.size,0,grownCap w (0+1) 0 e,i.size,0+1,0,false,[]⟩) rfl (at_ _) (fun _=>by simp);simpa using this
     .trivial
    .rename_i rr g;split
     .rename_i g' e' sz shs es hr hne;split
      .rename_i c1 c2 c3 c4;obtain rfl:=nB_ c1;obtain rfl:=nB_ c2;obtain rfl:=nB_ c3;have hne:rr≠rt:=fun e=>by subst e;rw[Nat.beq_refl]at hne;cases hne
       intro zz hzz;have hbnd:=of_decide_eq_true (J5 hzz);obtain⟨f,hf,_,hu⟩:=J7 hs0;obtain⟨d1,d2,d3,d4,d5,d6,d7,d8,d9,d10⟩:=Dx7 h hr hf;obtain⟨_,p,hu,hp⟩:=hu d2.symm;rw[a8_,a8_]at hu;have hg0:Nat.blt g 1000000=true:=by simp only[Nat.blt_eq]at c4⊢;omega
       by_cases hroom:f.n+1<=f.tot
       .obtain⟨hm,_,pre,us,sp,hw,hpre,hl,hrel⟩:=d10 (by omega);have hul:=hrel.len;have hp:=hp (by omega);subst hp;have e3:(f.base+0)*f.sz+f.n*i.size=(pre++us).length:=by rw[length_append,hpre,hul,d4,d3,Nat.add_zero]
        have e4:news.length<=sp.length:=by
         rw[length_append,hul,<-d4]at hl;have:(f.n+1)*i.size<=f.tot*i.size:=be_ _ hroom;rw[Nat.add_mul,bj_]at this;omega
        have hrun:∀ty,_:=fun ty=>Cn7 (ty:=ty) (P:=P) t t e i ht (.inl ht) hi (xv:= .slice (some ⟨k.b,(k.base+0)*k.sz,none⟩) 1 k.tot) (m:=1) hw hxl (hfc w rfl) hone2 hroom (o:=(f.base+0)*f.sz) (by rw[e3];simp;omega)
        have e5:D2 (pre++(us++sp)).toArray.toList ((f.base+0)*f.sz+f.n*i.size) news=pre++((us++news)++sp.drop news.length):=by
         rw[e3];unfold D2;simp only;rw[<-List.append_assoc pre us sp,bq_,<-az_,b1_];simp only[List.append_assoc]
        have hM:M f.b=none:=hm.2.1 hg0;have hoth:∀y,y∈f.subs->(w.setRow f.b (D2 (pre++(us++sp)).toArray.toList ((f.base+0)*f.sz+f.n*i.size) news).toArray).heap[y]? =w.heap[y]? :=fun y hy=>setRow_other w f.b y _ (fun e=>by rw[e]at hy;exact(nodup_cons.1 d8).1 hy)
        obtain⟨h5,h6⟩:=h.turn (w':=w.setRow f.b (D2 (pre++(us++sp)).toArray.toList ((f.base+0)*f.sz+f.n*i.size) news).toArray) hr hf ⟨f.b,f.base,f.tot,f.sz,f.n+1,g+1,false,f.subs⟩ (.tree (g+1) e i.size shs (es++[[]]) (some (es.length,cs)))
         (fun k _ hk=>setRow_other w f.b k _ (hk (by simp only[Aj1];omega))) (by simp) rfl rfl rfl (fun _ c hc=>by rw[hM]at hc;cases hc) ⟨by simp only;omega,fun e=>by simp only at e;omega,fun e=>by rw[d1]at e;cases e⟩ (fun hl=> .inl ⟨by simp only[Aj1]at hl⊢;omega,rfl⟩) (fun ρ' hle _=>by
         refine⟨rfl,rfl,d3,by rw[length_append,d4];rfl,hroom,d6,fun h=>absurd h (by show f.tot≠0;omega),d8,fun y hy=>⟨(d9 y hy).1,(d9 y hy).2.1,by simpa using (d9 y hy).2.2⟩,fun hp0=> ?_⟩;refine⟨Ar3 hm d3 (by simp only;omega),c4,pre,us++news,sp.drop news.length,by rw[<-e5];exact setRow_heap w f.b _ _ e _ hw,hpre,?_,?_⟩
         .simp only[length_append,length_drop];rw[length_append]at hl;omega
         .have:=((hrel.mono (fun _ _ _ _ hc k=>k.mono hle (fun y hy=>hoth y (hc y hy)))).hole (k:=es.length) (cs:=cs) (by omega)).snoc (x:=[]) (u:=news) (b:=[]) ⟨fun _=>⟨rfl,B2.mono hle _ hr2,hone2⟩,fun e=>absurd (Nat.zero_add _) e⟩ hu2
          rwa [append_nil]at this) (fun y hy _=> .inl (.inr ⟨rfl,hy⟩))
        refine Eff.of_run (H7 hu hxe hrun) rfl ⟨M,_,h5,by simpa[wrO] using h6,?_⟩;have:=P6 (M:=M) (p:=some ⟨f.b,(f.base+0)*f.sz,none⟩) (off:=0) (B3 ρ rr ⟨f.b,f.base,f.tot,f.sz,f.n+1,g+1,false,f.subs⟩) rfl (at_ _) (fun _=>rfl);simpa using this
       .obtain⟨olds,ho1,hM,ho2⟩:∃olds,(Builtin.firstCells i.size f.n (.slice p f.n f.tot)).run P w.drew= .ok (List.toArray olds) w.drew/\(∀y,y∈f.subs->y<w.heap.size)/\J1 (R5 w M ρ i.size shs none) i.size 0 es olds f.subs:=by
         by_cases hlt:0<f.tot
         .obtain⟨hm,_,pre,us,sp,hw,hpre,hl,hrel⟩:=d10 hlt;have hul:=hrel.len;rw[hp hlt];refine⟨us,run_firstCells_some (P:=P) w.drew i.size f.n _ _ _ _ (by rw[hul,d4]) (fun j v hj=> ?_),fun y hy=>(d9 y hy).2.2,hrel⟩;rw[E2];unfold World.cell?;rw[show w.drew.heap=w.heap from rfl,hw];have hjl:=(ac_.1 hj).1;have e6:(f.base+0)*f.sz+j=pre.length+j:=by rw[hpre,d3,Nat.add_zero]
          simp only[Option.isSome_none,Bool.false_eq_true,if_false,getElem?_toArray];rw[e6,au_ (by omega),Nat.add_sub_cancel_left,an_ hjl];exact hj
         .have h0:f.n=0:=by omega
          have:es=[]:=a1_ (by omega);subst this;have hs:=d7 (by omega);refine⟨[],?_,fun y hy=>(by rw[hs]at hy;cases hy),rfl,hs⟩;rw[h0];cases p<;>simp[Builtin.firstCells,loadCells,loadCellsFrom]
        have hol:=ho2.len;have hbnd':f.n+1<=2147483648:=by omega
        have hgr:∀ty,_:=fun ty=>Au5 (ty:=ty) (P:=P) t t e i z ht (.inl ht) hi hz (p:=p) (xv:= .slice (some ⟨k.b,(k.base+0)*k.sz,none⟩) 1 k.tot) (n:=f.n) (cap:=f.tot) (m:=1) (olds:=olds) (news:=news) (w:=w) hxl ho1 (hfc _ rfl) (by omega) (by omega) (Au4 hb hbnd' (by omega))
        have hG:=grownCap_ge w (f.n+1) f.tot e;have hmx:grownCap w (f.n+1) f.tot e<=maxLen:=grownCap_le_maxLen w _ _ _ (by unfold maxLen;omega);obtain⟨h5,h6⟩:=h.drew.turn (w':=w.drew.alloc (.cells ([]++((olds++news)++(Builtin.zeroCells z.cells (grownCap w (f.n+1) f.tot e-(f.n+1))).toList)).toArray e)) hr hf ⟨w.heap.size,0,grownCap w (f.n+1) f.tot e,i.size,f.n+1,g+1,false,f.subs⟩ (.tree (g+1) e i.size shs (es++[[]]) (some (es.length,cs)))
         (fun k hk _=>Below.heap_alloc _ _ _ hk) (by simp) rfl rfl rfl (fun _ c hc=>by
          have:=h.sits.lt hc;rw[show(w.drew.alloc _).heap[f.b]? =w.drew.heap[f.b]? from Below.heap_alloc _ _ _ this];exact h.sits _ c hc) ⟨by simp only;omega,fun e=>by simp only at e;omega,fun e=>by rw[d1]at e;cases e⟩ (fun _=> .inr (ad_ _)) (fun ρ' hle hMb=>by
          have hMn:M w.heap.size=none:=hMb _ (ad_ _);refine⟨rfl,rfl,rfl,by rw[length_append,d4];rfl,hG,hmx,fun h=>absurd h (by show grownCap w (f.n+1) f.tot e≠0;omega),nodup_cons.2 ⟨fun hy=>absurd (hM _ hy) (ay_ _),(nodup_cons.1 d8).2⟩,fun y hy=>⟨(d9 y hy).1,(d9 y hy).2.1,?_⟩,fun _=>⟨⟨.inr h.size,fun _=>hMn,fun c hc=>by rw[show M w.heap.size=none from hMn]at hc;cases hc⟩,c4,[],olds++news,_,World.alloc_heap_new w.drew _,by simp,?_,?_⟩⟩
          .have:=hM y hy;simp;omega
          .rw[length_append,length_append,hol,hu2,Y6 i hzs,<-d4,<-Nat.succ_mul,<-Nat.add_mul];congr 1;show f.n+1+(grownCap w (f.n+1) f.tot e-(f.n+1))=grownCap w (f.n+1) f.tot e;omega
          .have:=((ho2.mono (fun _ _ _ _ hc k=>k.mono hle (fun y hy=>show(w.drew.alloc (.cells ([]++((olds++news)++(Builtin.zeroCells z.cells (grownCap w (f.n+1) f.tot e-(f.n+1))).toList)).toArray e)).heap[y]? =w.heap[y]? from Below.heap_alloc w.drew _ _ (hM y (hc y hy))))).hole (k:=es.length) (cs:=cs) (by omega)).snoc (x:=[]) (u:=news) (b:=[]) ⟨fun _=>⟨rfl,B2.mono hle _ hr2,hone2⟩,fun e=>absurd (Nat.zero_add _) e⟩ hu2
           rwa [append_nil]at this) (fun y hy _=> .inl (.inr ⟨rfl,hy⟩))
        refine Eff.of_run (H7 hu hxe hgr) rfl ⟨M,_,h5,by simpa[wrO] using h6,?_⟩;have:=P6 (M:=M) (p:=some ⟨w.heap.size,0,none⟩) (off:=0) (B3 ρ rr ⟨w.heap.size,0,grownCap w (f.n+1) f.tot e,i.size,f.n+1,g+1,false,f.subs⟩) rfl (at_ _) (fun _=>by simp);simpa using this
      .trivial
     .trivial
    .trivial
   .trivial
  .trivial
 .trivial
end
end
end Go.Proofs.YtfgbhfphjmmiaaaGreatDoor.Kx
end
