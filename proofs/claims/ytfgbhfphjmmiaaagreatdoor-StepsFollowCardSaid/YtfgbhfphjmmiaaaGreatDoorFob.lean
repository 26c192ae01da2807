/- One part of the texts that lead to the theorem; it claims nothing by itself. -/
import Derived.Scope
import Derived.RangeFuncRecord
import Derived.RangeFuncIn
import Derived.RangeFuncLeaves
import Derived.RecoverIn
import Derived.Laws.Externs
import Derived.Test.YtfgbhfphjmmiaaaGreatDoorFoa
section
namespace Go.Proofs.YtfgbhfphjmmiaaaGreatDoor.Kx
open Go Go.RowKit
section
variable {r:Option Nat} {P:Program} {a:Act} {w wl:World} {S:Hand} {M0 M:Mem} {ρ:Rho} {ob:Nat→Option IObj} {ev:Operand→V} {d:Nat} {ty:TypeId} {op:Op}
theorem relD_take{n k c:Nat}{es:List (List Dat)}{p:Option Addr}(h:RelD M (.sl n es) (.slice p es.length c))(hk:k≤es.length):RelD M (.sl n (es.take k)) (.slice p k c):=by
 generalize hl:es.length=L at h
 cases h with
 |sl _ _ _ _ b o us hcap ha hc hs hr=>
  have hlt:(es.take k).length=k:=by rw[List.length_take];omega
  have key:RelD M (.sl n (es.take k)) (.slice p (es.take k).length c):= .sl n _ p c b o us (by omega) (fun hne=>ha (fun e=>hne (by rw[e];simp))) (fun i hi=>hc i (by omega)) (fun i cs hi=>hs i cs (by
   rw[List.getElem?_take]at hi
   split at hi
   ·exact hi
   ·cases hi)) (fun i j cs c u hi h1 h2=>hr i j cs c u (by
   rw[List.getElem?_take]at hi
   split at hi
   ·exact hi
   ·cases hi) h1 h2)
  rw[hlt]at key
  exact key
theorem src_own{n:Nat}{rr g off len:Nat}{e:TypeId}{es:List (List Dat)}{u:Value}(h:Ow S wl M0 M ρ ob w)(hr:ob rr=some (.buf g e n es))
 (hx:∃i,ρ rr=some i∧off+len≤i.n∧∃p,u= .slice p len (i.tot-off)∧(off<i.tot→p=some ⟨i.b,(i.base+off)*i.sz,none⟩)):
 ∃p c,u= .slice p ((es.drop off).take len).length c∧∀k,k≤((es.drop off).take len).length→∃news,(Builtin.firstCells n k u).run P w= .ok (List.toArray news) w∧rL (rDs n) M news (((es.drop off).take len).take k):=by
 obtain⟨i,hi,ho,p,hu,hp⟩:=hx
 obtain⟨_,hg,hsz,hn,htot,hmax,hh⟩:=h.buf_heap hr hi
 have hl:((es.drop off).take len).length=len:=by rw[List.length_take,List.length_drop];omega
 refine⟨p,_,by rw[hl];exact hu,fun k hk=> ?_⟩
 rw[hl]at hk
 rw[List.take_take,Nat.min_eq_left hk]
 by_cases h0:k=0
 ·subst h0
  refine⟨[],?_,rL_nil⟩
  rw[hu]
  cases p<;>simp[Builtin.firstCells,loadCells,loadCellsFrom]
 obtain⟨hm,pre,us,sp,hw,hpre,hlen,hrel⟩:=hh (by omega)
 have hul:us.length=es.length*n:=by rw[rL_len hrel];rfl
 have hp:=hp (by omega)
 subst hp
 have hkn:off*n+k*n≤us.length:=by rw[hul,←hn,←Nat.add_mul];exact Nat.mul_le_mul_right _ (by omega)
 have hlk:((us.drop (off*n)).take (k*n)).length=k*n:=by rw[List.length_take,List.length_drop];omega
 refine⟨(us.drop (off*n)).take (k*n),?_,rL_take (rL_drop hrel off) k⟩
 rw[hu]
 refine run_firstCells_some (P:=P) w n k _ _ _ _ hlk (fun j v hj=> ?_)
 rw[add_zero_off]
 unfold World.cell?
 rw[hw]
 have hjl:=(List.getElem?_eq_some_iff.1 hj).1
 rw[hlk]at hjl
 rw[List.getElem?_take_of_lt hjl,List.getElem?_drop]at hj
 have hjl2:=(List.getElem?_eq_some_iff.1 hj).1
 have e6:(i.base+off)*i.sz+j=pre.length+(off*n+j):=by rw[hpre,hsz,Nat.add_mul];omega
 simp only[Option.isSome_none,Bool.false_eq_true,if_false,List.getElem?_toArray]
 rw[e6,List.getElem?_append_right (by omega),Nat.add_sub_cancel_left,List.getElem?_append_left hjl2]
 exact hj
theorem srcOf_spec{n:Nat}{v:V}{u:Value}{src:List (List Dat)}(h:Ow S wl M0 M ρ ob w)(hx:RelV M ρ v u)(hs:srcOf ob n v=some src):
 ∃p c,u= .slice p src.length c∧∀k,k≤src.length→∃news,(Builtin.firstCells n k u).run P w= .ok (List.toArray news) w∧rL (rDs n) M news (src.take k):=by
 unfold srcOf at hs
 split at hs
 ·rename_i sz es
  split at hs
  ·rename_i hb;cases hs
   obtain rfl:=Nat.eq_of_beq_eq_true hb
   have hd:=relV_d hx
   obtain⟨p,c,rfl,hc⟩:=relD_sl_slice hd
   refine⟨p,c,rfl,fun k hk=> ?_⟩
   obtain⟨q,c',news,h1,h2,h3,h4⟩:=firstCells_ro (P:=P) h.sits (relD_take hd hk)
   have hl:(src.take k).length=k:=by rw[List.length_take];omega
   refine⟨news,?_,h4⟩
   have:=h3 w rfl
   rw[hl]at this h1
   injection h1 with h5 _ h6
   subst h5 h6
   exact(show(Builtin.firstCells sz k (.slice p src.length c)).run P w=(Builtin.firstCells sz k (.slice p k c)).run P w by cases p<;>simp[Builtin.firstCells]).trans this
  ·cases hs
 ·rename_i rr g off
  split at hs
  ·rename_i g' e sz es hr
   split at hs
   ·rename_i h1 h2
    cases hs
    obtain rfl:=Nat.eq_of_beq_eq_true h1
    obtain rfl:=Nat.eq_of_beq_eq_true h2
    obtain⟨p,c,h3,h4⟩:=src_own (P:=P) h hr (suf_osl h hr hx)
    rw[List.take_of_length_le (Nat.le_refl _)]at h3 h4
    exact⟨p,c,h3,h4⟩
   ·cases hs
  ·cases hs
 ·rename_i rr g off len
  split at hs
  ·rename_i g' e sz es hr
   split at hs
   ·rename_i h1 h2
    cases hs
    obtain rfl:=Nat.eq_of_beq_eq_true h1
    obtain rfl:=Nat.eq_of_beq_eq_true h2
    obtain⟨i,hi,_,hu⟩:=relV_osl hx
    obtain⟨_,hg,_⟩:=h.buf_heap hr hi
    obtain⟨ho,p,hu,hp⟩:=hu hg.symm
    exact src_own (P:=P) h hr ⟨i,hi,ho,p,hu,hp⟩
   ·cases hs
  ·cases hs
 ·cases hs
theorem cpy_eq{α:Type}{es src:List α}{off:Nat}(h:off≤es.length):cpy es off src=es.take off++(src.take (Nat.min src.length (es.length-off))++es.drop (off+Nat.min src.length (es.length-off))):=by
 unfold cpy
 rcases Nat.le_total src.length (es.length-off) with hl|hl
 ·rw[show Nat.min src.length (es.length-off)=src.length from Nat.min_eq_left hl,List.take_of_length_le hl,List.take_of_length_le (Nat.le_refl _)]
 ·rw[show Nat.min src.length (es.length-off)=es.length-off from Nat.min_eq_right hl,List.drop_of_length_le (by omega:es.length≤off+src.length),List.drop_of_length_le (by omega:es.length≤off+(es.length-off))]
theorem eff_copy{c:Call}{s x:Operand}{t t2:TypeId}(h:Ow S wl M0 M ρ ob w)(hev:∀x,RelV M ρ (ev x) (a.eval x))(hc:c={callee:= .builtin .copy,args:= #[s,x],argTypes:= #[t,t2]}):
 (evCopy P ob t t2 (ev s) (ev x)).Good (EffV r P a (.call c) S wl M0 M ρ ob w):=by
 subst hc
 have hs0:=hev s
 have hx:=hev x
 generalize ev s=vs at*
 generalize ev x=vx at*
 unfold evCopy
 split
 ·rename_i e rr g off htt he
  have ht:=elemT_spec he
  split
  ·rename_i n g' e' sz es hsz hr
   split
   ·rename_i src hsrc h1 h2 h3
    obtain rfl:=Nat.eq_of_beq_eq_true h1
    obtain rfl:=Nat.eq_of_beq_eq_true h2
    intro es' hes'
    cases hes'
    obtain⟨p,cc,hu,hfc⟩:=srcOf_spec (P:=P) h hx hsrc
    obtain⟨f,hf,_,hd⟩:=relV_suf hs0
    obtain⟨hfix,hgg,hsz2,hn,htot,hmax,hh⟩:=h.buf_heap hr hf
    obtain⟨ho,q,hd,hq⟩:=hd hgg.symm
    obtain⟨news,hnr,hnl⟩:=hfc (Nat.min src.length (f.n-off)) (Nat.min_le_left _ _)
    have hN:cpyN es off src=((Nat.min src.length (f.n-off):Nat):Int):=by unfold cpyN;rw[hn]
    have hC:=cpy_eq (src:=src) (show off≤es.length by omega)
    rw[←hn]at hC
    rw[hN,hC]
    obtain⟨inf,hinf,hsize⟩:∃inf,P.info? e=some inf∧inf.size=sz:=by
     unfold sizeT at hsz
     cases hq:P.info? e with
     |none=>rw[hq]at hsz;cases hsz
     |some inf=>rw[hq]at hsz;exact⟨inf,rfl,by simpa using hsz⟩
    generalize hk:Nat.min src.length (f.n-off)=k at*
    have hkn:k≤f.n-off:=by rw[←hk];exact Nat.min_le_right _ _
    have hnewl:news.length=k*sz:=by
     rw[rL_len hnl,List.length_take,Nat.min_eq_left (by rw[←hk];exact Nat.min_le_left _ _)];rfl
    by_cases h0:k=0
    ·subst h0
     have hnil:news=[]:=List.eq_nil_of_length_eq_zero (by simpa using hnewl)
     subst hnil
     have hrun:∀ty,(Builtin.copy_ #[t,t2] ty #[a.eval s,a.eval x]).run P w= .ok (goInt 0) w:=fun ty=>by
      have hfl:=hnr
      rw[hu]at hfl
      rw[hd,hu]
      cases q<;>simp[Builtin.copy_,run_underlying ht,Builtin.lenOf,sizeOf,typeInfo,hinf,hsize,hk,hfl,storeCells]
     have hob:updO ob rr (.buf g e' sz (es.take off++(src.take 0++es.drop (off+0))))=ob:=by
      rw[Nat.add_zero,List.take_zero,List.nil_append,List.take_append_drop]
      funext x
      unfold updO
      split
      ·rename_i hb;rw[Nat.eq_of_beq_eq_true hb,hr]
      ·rfl
     refine Eff.of_run (w':=w) (v:= .int .i64 0) (by
      intro dd ty pos aft gg
      have:=hrun ty
      simp only[goInt]at this
      simp[execOp,resolve,invoke,builtin,this,Result.andThen]) rfl ⟨M,ρ,Rle.refl _ _,?_,mk_int⟩
     show Ow S wl M0 M ρ (updO ob rr _) w
     rw[hob];exact h
    ·have hq:=hq (by omega)
     subst hq
     obtain⟨hm,pre,us,sp,hw,hpre,hl,hrel⟩:=hh (by omega)
     have hul:us.length=es.length*sz:=by rw[rL_len hrel];rfl
     have hfit:off*sz+k*sz≤us.length:=by rw[hul,←hn,←Nat.add_mul];exact Nat.mul_le_mul_right _ (by omega)
     have hoff:(f.base+off)*f.sz=pre.length+off*sz:=by rw[hpre,hsz2,Nat.add_mul]
     have hst:=run_storeCells_at P f.b ((f.base+off)*f.sz) e' news 0 _ w hw (by rw[hoff];simp;omega) (rL_plain hnl)
     simp only[Nat.add_zero]at hst
     have hnew:(pre++(us++sp)).take ((f.base+off)*f.sz)++news++(pre++(us++sp)).drop ((f.base+off)*f.sz+news.length)=pre++(setAt us (off*sz) news++sp):=by
      rw[hoff]
      exact(setAt_append_right (pre:=pre) (us:=us++sp) (xs:=news) (o:=off*sz)).trans (by rw[setAt_append_left (by omega)])
     rw[hnew]at hst
     have hrun:∀ty,(Builtin.copy_ #[t,t2] ty #[a.eval s,a.eval x]).run P w= .ok (goInt k) (w.setRow f.b (pre++(setAt us (off*sz) news++sp)).toArray):=fun ty=>by
      have hfl:=hnr
      rw[hu]at hfl
      rw[hd,hu]
      simp[Builtin.copy_,run_underlying ht,Builtin.lenOf,sizeOf,typeInfo,hinf,hsize,hk,hfl,hst]
     have hrl2:rL (rDs sz) M (setAt us (off*sz) news) (es.take off++(src.take k++es.drop (off+k))):=by
      unfold setAt
      rw[List.append_assoc,hnewl,←Nat.add_mul]
      exact rL_append (rL_take hrel off) (rL_append hnl (rL_drop hrel (off+k)))
     have hlen2:(es.take off++(src.take k++es.drop (off+k))).length=es.length:=by
      have:k≤src.length:=by rw[←hk];exact Nat.min_le_left _ _
      simp only[List.length_append,List.length_take,List.length_drop]
      omega
     obtain⟨h5,h6⟩:=h.turn (w':=w.setRow f.b (pre++(setAt us (off*sz) news++sp)).toArray) hr hf f (.buf g e' sz (es.take off++(src.take k++es.drop (off+k)))) (fun q _ hq=>setRow_other w f.b q _ (hq (by simp only[live];omega))) (by simp) rfl rfl rfl (fun _ c hc=>by rw[hm.2.1 h3]at hc;cases hc) ⟨Nat.le_refl _,fun _=>rfl,fun _=>rfl⟩ (fun hl=> .inl ⟨hl,rfl⟩)
      (fun ρ' _ _=>⟨hfix,hgg,hsz2,by rw[hlen2];exact hn,htot,hmax,fun _=>⟨hm,pre,_,sp,setRow_heap w f.b _ _ e' _ hw,hpre,by
       rw[List.length_append,setAt_length _ _ _ (by omega)]
       rw[List.length_append]at hl
       exact hl,hrl2⟩⟩)
     refine Eff.of_run (v:= .int .i64 k) (by
      intro dd ty pos aft gg
      have:=hrun ty
      simp only[goInt]at this
      simp[execOp,resolve,invoke,builtin,this,Result.andThen]) rfl ⟨M,_,h5,h6,mk_int⟩
   ·trivial
  ·trivial
 ·trivial
end
end Go.Proofs.YtfgbhfphjmmiaaaGreatDoor.Kx
end
section
namespace Go.Proofs.YtfgbhfphjmmiaaaGreatDoor.Kx
open Go Go.RowKit
section
variable {r:Option Nat} {P:Program} {a:Act} {w wl:World} {S:Hand} {M0 M:Mem} {ρ:Rho} {ob:Nat→Option IObj} {ev:Operand→V} {d:Nat} {ty:TypeId} {op:Op}
theorem setD_rel{cs xs:List Dat}{us vs:List Value}{k:Nat}(h:RelDs M cs us)(h':RelDs M xs vs):RelDs M (setD cs k xs) (setAt us k vs):=by
 unfold setD setAt
 rw[h'.len]
 exact((h.take k).append h').append (h.drop _)
theorem store_ept{t:TypeId}{x y:Operand}(h:Ow S wl M0 M ρ ob w){n:Nat}(hs:sizeT P t=some n){rr g j k sz:Nat}{e:TypeId}{es:List (List Dat)}{old xs:List Dat}{ws:List Value}{u:Value}(hx:RelV M ρ (.ept rr g j k) (a.eval x))(hy:a.eval y=u)(hc:u.cells=ws.toArray)(hw1:∀v∈ws,v.oneCell'=true)(hrel:RelDs M xs ws)
 (hr:ob rr=some (.buf g e sz es)) (hn:xs.length=n) (hl:k+n≤sz) (hpn:Nat.blt g 1000000=true) (ho:es[j]? =some old):
 EffV r P a (.store t x y) S wl M0 M ρ ob w .undef [(rr,.buf g e sz (es.set j (setD old k xs)))]:=by
 obtain⟨i,hi,hg,hp⟩:=relV_ept hx
 obtain⟨hfix,hg',hsz,hnn,ht,hmax,hh⟩:=h.buf_heap hr hi
 obtain⟨hjn,hp⟩:=hp hg'.symm
 obtain⟨hm,pre,us,sp,hw,hpre,hlen,hrl⟩:=hh (by omega)
 obtain⟨q1,q2,q3⟩:=rL_piece hrl ho
 obtain⟨e1,e2⟩:=pre_len hrl (off:=j+1) (by omega)
 rw[Nat.add_mul,Nat.one_mul]at e2
 have hwl:ws.length=n:=by rw[hrel.len,hn]
 have hoff:(i.base+j)*i.sz+k=pre.length+(j*sz+k):=by rw[hpre,hsz,Nat.add_mul];omega
 have hst:=run_storeVar_at (P:=P) (k:=(i.base+j)*i.sz+k) hw hc (by rw[hwl];exact hs) hw1 (by rw[hoff];simp;omega)
 have hnew:setAt (pre++(us++sp)).toArray.toList ((i.base+j)*i.sz+k) ws=pre++(setAt us (j*sz) (setAt ((us.drop (j*sz)).take sz) k ws)++sp):=by
  rw[hoff]
  simp only[List.toList_toArray]
  rw[setAt_append_right,setAt_append_left (by omega),setAt_setAt (n:=sz) rfl (by omega) (by omega)]
 rw[hnew]at hst
 have hrl2:rL (rDs sz) M (setAt us (j*sz) (setAt ((us.drop (j*sz)).take sz) k ws)) (es.set j (setD old k xs)):=rL_set hrl (by omega) (u:=setAt ((us.drop (j*sz)).take sz) k ws) ⟨by unfold setD;simp;omega,setD_rel q3 hrel⟩
 obtain⟨h5,h6⟩:=h.turn (w':=w.setRow i.b (pre++(setAt us (j*sz) (setAt ((us.drop (j*sz)).take sz) k ws)++sp)).toArray) hr hi i (.buf g e sz (es.set j (setD old k xs))) (fun q _ hq=>setRow_other w i.b q _ (hq (by simp only[live];omega))) (by simp) rfl rfl rfl (fun _ c hc=>by rw[hm.2.1 hpn]at hc;cases hc) ⟨Nat.le_refl _,fun _=>rfl,fun _=>rfl⟩ (fun hl=> .inl ⟨hl,rfl⟩)
  (fun ρ' _ _=>⟨hfix,hg',hsz,by simpa using hnn,ht,hmax,fun _=>⟨hm,pre,_,sp,setRow_heap w i.b _ _ e _ hw,hpre,by
   rw[List.length_append,setAt_length _ _ _ (by rw[setAt_length _ _ _ (by omega)];omega)]
   rw[List.length_append]at hlen
   exact hlen,hrl2⟩⟩)
 refine Eff.of_runU (w':=w.setRow i.b (pre++(setAt us (j*sz) (setAt ((us.drop (j*sz)).take sz) k ws)++sp)).toArray) ?_ rfl ⟨M,_,h5,h6,relV_undef _⟩
 intro d ty pos aft g
 simp[execOp,Instr.storeAt,Instr.sureAddr,hp,hy,hst]
theorem eff_insert{t:TypeId}{m k v:Operand}{res:Res}(h:res.Good (EffV r P a (.mapUpdate t m k v) S wl M0 M ρ ob w)):res.Good (EffV r P a (.insert t m k v) S wl M0 M ρ ob w):=by
 have key:∀{R:Value→World→Prop},Eff r P a (.mapUpdate t m k v) w R→Eff r P a (.insert t m k v) w R:=fun h d ty pos aft g K Q hK=>by
  have:=h d ty pos aft g K Q hK
  refine⟨fun _ _=>trivial,?_⟩
  have h2:=this.2
  rw[show(WF r).round=r from rfl,sem_plain rfl]at h2⊢
  have e:execOp a.eval ⟨d,.insert t m k v,ty,pos,aft,g⟩=execOp a.eval ⟨d,.mapUpdate t m k v,ty,pos,aft,g⟩:=rfl
  rw[e]
  generalize (execOp a.eval ⟨d,.mapUpdate t m k v,ty,pos,aft,g⟩).run P w=res at h2⊢
  cases res with
  |ok x w'=>cases x<;>exact h2
  |halt x w'=>cases x<;>exact h2
 cases res with
 |bad=>trivial
 |ok v wr=>exact key h
 |opt1 o kk=>exact fun x hx=>key (h x hx)
 |opt2 o kk=>exact fun x hx=>key (h x hx)
 |call f args=>exact h
theorem eff_store{t:TypeId}{x y:Operand}(h:Ow S wl M0 M ρ ob w)(hev:∀x,RelV M ρ (ev x) (a.eval x)):(evStore P ob t (ev x) (typed P t (ev y))).Good (EffV r P a (.store t x y) S wl M0 M ρ ob w):=by
 have hx:=hev x
 have hy:=typed_rel (P:=P) (t:=t) (hev y)
 generalize ev x=vx at*
 generalize typed P t (ev y)=vy at*
 unfold evStore
 split
 ·rename_i n rr k hs
  split
  ·rename_i cs us hr hus
   split
   ·rename_i h1 h2
    exact store_box h hs hx hy hus hr (Nat.eq_of_beq_eq_true h1) (nb_le h2)
   ·trivial
  ·trivial
 ·rename_i n rr g j k hs
  split
  ·rename_i us hus
   split
   ·rename_i xs wr hds
    split
    ·rename_i g' e sz es hr
     split
     ·rename_i h1 h2 h3 h4
      obtain rfl:=Nat.eq_of_beq_eq_true h1
      intro es' hes
      split at hes
      ·rename_i old hold
       cases hes
       obtain⟨ws,hc,hrw,hw1⟩:=cellsV_rel hus hy
       obtain⟨M1,r1,o1,d1⟩:=datsOf_sound h hrw hds
       refine EffV.after r1 ?_
       exact store_ept o1 hs (RelV.mono r1 _ hx) rfl hc hw1 d1 hr (Nat.eq_of_beq_eq_true h2) (nb_le h3) h4 hold
      ·cases hes
     ·trivial
    ·trivial
   ·trivial
  ·trivial
 ·trivial
theorem eff_index{t:TypeId}{x i:Operand}(h:Ow S wl M0 M ρ ob w)(hev:∀x,RelV M ρ (ev x) (a.eval x)):(evOp P ob d ty ev (.index t x i)).Good (EffV r P a (.index t x i) S wl M0 M ρ ob w):=by
 simp only[evOp]
 have hx:=hev x
 have hi:=hev i
 generalize ev x=vx at*
 generalize ev i=vi at*
 unfold evIndex
 split
 ·trivial
 ·rename_i j hj
  obtain⟨k,hk⟩:=iv_spec hj hi
  split
  ·rename_i s
   split
   ·rename_i ht
    intro cs hcs
    split at hcs
    ·rename_i c hc
     cases hcs
     obtain⟨hj0,hj1⟩:=geti_nat hc
     exact EffV.val h (run_index_str (i:=j.toNat) (relV_str hx) (by rw[hk,←hj0]) ht hj1) rfl mk_int
    ·cases hcs
   ·trivial
  ·rename_i cs
   obtain⟨us,hu,hr⟩:=relV_agg hx
   split
   ·rename_i n e ht
    have ht':=arrT_spec ht
    split
    ·rename_i s ag hz
     obtain⟨hs,ha,h1⟩:=szT_spec hz
     have part:∀(q:Nat),q<n→(q+1)*s≤us.length→j=(q:Int)→∀v,RelV M ρ v (mkv ag ((us.drop (q*s)).take s))→EffV r P a (.index t x i) S wl M0 M ρ ob w v []:=fun q hq hql hjq v hv=>by
      have hl':((us.drop (q*s)).take s).length=s:=take_len (by rw[Nat.add_mul]at hql;omega)
      refine EffV.val h (run_index (i:=q) (vs:=(us.drop (q*s)).take s) hu (by rw[hk,hjq]) ht' hq ha hs hl' (fun e=>by rw[hl'];exact h1 e) (fun p hp=> ?_)) rfl hv
      rw[List.getElem?_take_of_lt (by omega),List.getElem?_drop]
     split
     ·split
      ·rename_i g1 g2 g3
       have g1:=of_decide_eq_true g1;have g2:=nb_lt g2;have g3:=nb_le g3
       have hl:=hr.len
       have h5:(j.toNat+1)*s≤n*s:=Nat.mul_le_mul_right _ (by omega)
       refine part j.toNat g2 (by omega) (by omega) _ (mkV_rel (n:=s) ((hr.drop _).take s) (fun e=> ?_))
       rw[Nat.add_mul]at h5
       rw[take_len (by omega)];exact h1 e
      ·trivial
     ·split
      ·rename_i ds g1 g2
       have g2:=Nat.eq_of_beq_eq_true g2
       have hd:=relVs_dOf g1 hr
       intro c hc
       obtain⟨hj0,hj1⟩:=geti_nat hc
       obtain⟨h3,h4⟩:=chunks_get _ _ _ _ _ hj1
       have hl:=hr.len
       have h5:(j.toNat+1)*s≤n*s:=Nat.mul_le_mul_right _ (by omega)
       refine part j.toNat h3 (by omega) hj0 _ ?_
       dsimp only
       split
       ·rename_i hb
        rw[h4]
        rw[Nat.add_mul]at h5
        exact mkV_rel (n:=s) (RelVs.dV ((hd.drop _).take s)) (fun e=>by rw[take_len (by omega)];exact h1 e)
       ·exact relV_undef _
      ·trivial
    ·trivial
   ·trivial
  ·trivial
theorem evOp_sound(h:Ow S wl M0 M ρ ob w)(hev:∀x,RelV M ρ (ev x) (a.eval x)):(evOp P ob d ty ev op).Good (EffV r P a op S wl M0 M ρ ob w):=by
 cases op with
 |move x=>exact EffV.val h (run_move rfl) rfl (typed_rel (hev x))
 |assign x=>exact EffV.val h (run_assign rfl) rfl (typed_rel (hev x))
 |pick c x y=>exact eff_pick h hev
 |alloc t=>exact eff_allocOp h
 |box t x=>exact eff_boxOp h hev
 |build t ps=>exact eff_build h hev
 |buildSlice t n ps=>exact eff_buildSlice h hev
 |load t x=>exact Good_orElse (eff_load h hev) (eff_loadT h hev)
 |store t x y=>exact Good_orElse (eff_storeT h hev) (eff_store h hev)
 |nilCheck x=>exact eff_nilCheck h hev
 |binOp o t x y u=>exact eff_binOp2 h hev
 |unOp o t x=>exact eff_unOp h hev
 |convert s t x=>exact eff_convert2 h hev
 |makeInterface t x=>exact eff_makeIface h
 |makeFunc f x y=>exact eff_makeFunc h hev
 |makeSlice t l c=>exact Good_orElse (eff_makeT h hev) (eff_make h hev)
 |makeMap t hint=>cases hint with
  |none=>exact eff_makeMap h
  |some _=>trivial
 |lookup t m k ok=>exact eff_lookup h hev
 |mapUpdate t m k v=>exact eff_mapPut h hev
 |insert t m k v=>exact eff_insert (eff_mapPut (ty:=ty) (d:=d) h hev)
 |slice t x lo hi mx=>exact eff_slice h hev
 |fieldAddr t x i=>exact eff_fieldAddr h hev
 |field t x i=>exact eff_field h hev
 |indexAddr t x i=>exact Good_orElse (eff_indexAddr h hev) (eff_indexT h hev)
 |index t x i=>exact eff_index h hev
 |extract x i=>exact eff_extract h hev
 |call c=>
  obtain⟨callee,args,tys⟩:=c
  cases callee with
  |builtin b=>
   cases b<;>first|trivial|skip
   ·simp only[evOp]
    split
    ·rename_i s x t t2 h1 h2
     exact eff_append h hev (by rw[show args= #[s,x] from Array.ext' h1,show tys= #[t,t2] from Array.ext' h2])
    ·trivial
   ·simp only[evOp]
    split
    ·rename_i s x t t2 h1 h2
     exact eff_copy h hev (by rw[show args= #[s,x] from Array.ext' h1,show tys= #[t,t2] from Array.ext' h2])
    ·trivial
   ·simp only[evOp]
    split
    ·rename_i x t h1 h2
     exact Good_orElse (eff_len h hev (by rw[show args= #[x] from Array.ext' h1,show tys= #[t] from Array.ext' h2])) (eff_lenT h hev (by rw[show args= #[x] from Array.ext' h1,show tys= #[t] from Array.ext' h2]))
    ·trivial
   ·simp only[evOp]
    split
    ·rename_i k m k' n he
     split
     ·rename_i hk
      obtain rfl:=ikb_eq hk
      exact eff_minOp (mx:=true) h rfl hev he
     ·trivial
    ·trivial
   ·simp only[evOp]
    split
    ·rename_i k m k' n he
     split
     ·rename_i hk
      obtain rfl:=ikb_eq hk
      exact eff_minOp (mx:=false) h rfl hev he
     ·trivial
    ·trivial
   ·simp only[evOp]
    split
    ·rename_i x h1
     obtain rfl:args= #[x]:=Array.ext' h1
     exact eff_sdata h hev
    ·trivial
   ·simp only[evOp]
    split
    ·rename_i x n pt it h1 h2
     obtain rfl:args= #[x,n]:=Array.ext' h1
     obtain rfl:tys= #[pt,it]:=Array.ext' h2
     exact eff_ustr h hev
    ·trivial
  |value f=>
   simp only[evOp]
   split<;>trivial
  |invoke x m=>trivial
 |_=>trivial
end
end Go.Proofs.YtfgbhfphjmmiaaaGreatDoor.Kx
end
section
namespace Go.Proofs.YtfgbhfphjmmiaaaGreatDoor.Kx
open Go Go.RowKit
inductive It where
 |code (c:Code)
 |inBlock (id:Nat)
 |inLoop (b:Code)
 |inScope
 |ops (all rest:List Oper)
 |begR (l:Nat)
 deriving Inhabited
structure Cfg where
 sl:Tri
 ob:List (Nat×IObj)
 td:List It
 deriving Inhabited
section
variable {r:Option Nat} {P:Program} {Q:Exit→Act→World→Prop} {a:Act} {w:World}
@[irreducible] def Wl (r:Option Nat) (P:Program) (b:Code) (Q:Exit→Act→World→Prop) (a:Act) (w:World):Prop:=
 (∀(f:Frame) (k:List Item) (cs:List Frame),f.roundOf=r→(∃fn,P.funcs[f.fn]? =some fn)→
  ∃e a' w',Q e a' w'∧ArrivesIn (Machine.fenced P (WF r)) P (lone (f.atR a (.inLoop b::k)) cs w) f k cs e a' w')∧W r P (.loop b) Q a w
theorem Wl_body{b:Code}(h:W r P b (Exit.then (fun a w=>Wl r P b Q a w) Q) a w):Wl r P b Q a w:=by
 have key:∀(f:Frame) (k:List Item) (cs:List Frame),f.roundOf=r→(∃fn,P.funcs[f.fn]? =some fn)→
  ∃e a' w',Q e a' w'∧ArrivesIn (Machine.fenced P (WF r)) P (lone (f.atR a (.code b:: .inLoop b::k)) cs w) f k cs e a' w':=by
  intro f k cs hro hb
  obtain⟨e,a₁,w₁,hq,harr⟩:=W_at h f (.inLoop b::k) cs hro hb
  cases e with
  |normal=>
   simp only[Exit.then]at hq
   unfold Wl at hq
   obtain⟨e₂,a₂,w₂,hq₂,harr₂⟩:=hq.1 f k cs hro hb
   exact⟨e₂,a₂,w₂,hq₂,.of_steps harr harr₂⟩
  |exit id=>exact⟨_,a₁,w₁,hq,.pass (x:= .inLoop b) rfl (fun _ _=> .inl (by simp)) harr⟩
  |goto l=>exact⟨_,a₁,w₁,hq,.pass (x:= .inLoop b) rfl (fun _ _=> .inl (by simp)) harr⟩
  |ret=>exact⟨_,a₁,w₁,hq,.pass (x:= .inLoop b) rfl (fun _ _=> .inl (by simp)) harr⟩
  |panic ch=>exact⟨_,a₁,w₁,hq,.pass (x:= .inLoop b) rfl (fun _ _=> .inl (by simp)) harr⟩
  |outgrown=>exact⟨_,a₁,w₁,hq,.pass (x:= .inLoop b) rfl (fun _ _=> .inl (by simp)) harr⟩
 unfold Wl
 refine⟨fun f k cs hro hb=> ?_,?_⟩
 ·obtain⟨e,a',w',hq,harr⟩:=key f k cs hro hb
  exact⟨e,a',w',hq,.of_steps (.one (WF_calm rfl) stepR_inLoop) harr⟩
 ·unfold W
  intro f k cs hro hb
  obtain⟨e,a',w',hq,harr⟩:=key f k cs hro hb
  exact⟨e,a',w',hq,.of_steps (.one (WF_calm rfl) stepR_loop) harr⟩
theorem Wl_loop{b:Code}(h:Wl r P b Q a w):W r P (.loop b) Q a w:=by unfold Wl at h;exact h.2
def Wk(r:Option Nat)(P:Program)(fin:Exit→Act→World→Prop):List It→Exit→Act→World→Prop
 |[]=>fin
 | .code c::k=>Exit.then (fun a w=>W r P c (Wk r P fin k) a w) (Wk r P fin k)
 | .inBlock id::k=>Exit.inBlock id (Wk r P fin k)
 | .inLoop b::k=>Exit.then (fun a w=>Wl r P b (Wk r P fin k) a w) (Wk r P fin k)
 | .inScope::k=>Exit.noGoto (Wk r P fin k)
 | .ops all rest::k=>Exit.then (fun a w=>L r P all.toArray (Wk r P fin k) rest a w) (Wk r P fin k)
 | .begR l::k=>Exit.then (fun a w=>∃w2,(Instr.beginRound l).run P w= .ok () w2∧Wk r P fin k .normal a w2) (fun _ _ _=>False)
end
def evalV(N:Nat)(sl:Tri):Operand→V
 | .tmp t=>match Nat.blt t N with|true=>sl.get 10 t|false=> .undef
 | .const v=>valV v
 | .func f=> .d (.fnc f)
 | .global n=>match gl n with|some cs=> .rp cs 0|none=> .undef
def putS(N:Nat)(sl:Tri)(d:Option Nat)(v:V):Tri:=match d with
 |none=>sl
 |some d=>match Nat.blt d N with|true=>sl.set 10 d v|false=> .e
def exitK(id:Nat):List It→Option (List It)
 |[]=>none
 | .inBlock i::k=>match Nat.beq i id with|true=>some k|false=>exitK id k
 | .begR _::_=>none
 |_::k=>exitK id k
def gd(N:Nat)(sl:Tri)(all:List Oper)(o:Oper):Option Bool:=match o.guard with
 |none=>some true
 |some (j,want)=>match dstAt all j with
  |some t=>match evalV N sl (.tmp t) with
   | .d (.bool b)=>match b,want with|true,true=>some true|false,false=>some true|_,_=>some false
   | .un=>some false
   |_=>none
  |none=>none
section
variable (P:Program) (N:Nat)
def evNow(c:Cfg):Res:=match c.td with
 | .ops all (o::_)::_=>match gd N c.sl all o with
   |some true=>evOp P (obGet c.ob) (o.dst.getD 0) o.type (evalV N c.sl) o.op
   |_=> .bad
 |_=> .bad
def after(c:Cfg)(v:V)(wr:Wr):Cfg:=match c.td with
 | .ops all (o::rest)::k=>⟨putS N c.sl o.dst v,obWr c.ob wr,.ops all rest::k⟩
 |_=>c
def adv(c:Cfg):Option Cfg:=match c.td with
 | .code .skip::k=>some ⟨c.sl,c.ob,k⟩
 | .code (.label _)::k=>some ⟨c.sl,c.ob,k⟩
 | .code (.seq x y)::k=>some ⟨c.sl,c.ob,.code x:: .code y::k⟩
 | .code (.block id b)::k=>some ⟨c.sl,c.ob,.code b:: .inBlock id::k⟩
 | .code (.scope b)::k=>some ⟨c.sl,c.ob,.code b:: .inScope::k⟩
 | .code (.loop b)::k=>some ⟨c.sl,c.ob,.inLoop b::k⟩
 | .code (.exit id)::k=>match exitK id k with|some k'=>some ⟨c.sl,c.ob,k'⟩|none=>none
 | .code (.region _ ops false)::k=>some ⟨c.sl,c.ob,.ops ops.toList ops.toList::k⟩
 | .code (.cond x t f)::k=>match evalV N c.sl x with
   | .d (.bool b)=>match b with|true=>some ⟨c.sl,c.ob,.code t::k⟩|false=>some ⟨c.sl,c.ob,.code f::k⟩
   |_=>none
 | .inBlock _::k=>some ⟨c.sl,c.ob,k⟩
 | .inScope::k=>some ⟨c.sl,c.ob,k⟩
 | .inLoop b::k=>some ⟨c.sl,c.ob,.code b:: .inLoop b::k⟩
 | .ops _ []::k=>some ⟨c.sl,c.ob,k⟩
 | .ops all (o::rest)::k=>match gd N c.sl all o with
   |some true=>match evNow P N c with
    | .ok v wr=>some ⟨putS N c.sl o.dst v,obWr c.ob wr,.ops all rest::k⟩
    |_=>none
   |some false=>some ⟨putS N c.sl o.dst .un,c.ob,.ops all rest::k⟩
   |none=>none
 |_=>none
def advN:Nat→Cfg→Cfg
 |0,c=>c
 |n+1,c=>match adv P N c with
  |some c'=>advN n c'
  |none=>c
end
structure Abs(S:Hand)(wl:World)(M0 M:Mem)(ρ:Rho)(N:Nat)(c:Cfg)(f:Nat→Value)(w:World):Prop where
 ow:Ow S wl M0 M ρ (obGet c.ob) w
 ok:c.sl.ok 10
 sl:∀t,t<N→RelV M ρ (c.sl.get 10 t) (f t)
structure Fin where
 H:Hand→World→Mem→Prop
 post:Hand→World→Mem→Exit→Act→World→Prop
instance:CoeFun Fin (fun _=>Hand→World→Mem→Exit→Act→World→Prop):=⟨Fin.post⟩
def J(r:Option Nat)(P:Program)(N:Nat)(ds:List Deferred)(fin:Fin)(c:Cfg):Prop:=
 N≤1024∧∀S wl M0,fin.H S wl M0→∀M ρ f w,Abs S wl M0 M ρ N c f w→Wk r P (fin S wl M0) c.td .normal (fr N f ds) w
section
variable {r:Option Nat} {P:Program} {N:Nat} {ds:List Deferred} {fin:Fin} {c:Cfg}
variable {S:Hand} {wl w:World} {M0 M:Mem} {ρ:Rho} {f:Nat→Value}
theorem evalV_rel(h:Abs S wl M0 M ρ N c f w)(x:Operand):RelV M ρ (evalV N c.sl x) ((fr N f ds).eval x):=by
 cases x with
 |tmp t=>
  simp only[evalV]
  split
  ·rename_i ht
   rw[ev ht rfl]
   exact h.sl t (nb_lt ht)
  ·exact relV_undef _
 |const v=>exact valV_rel v
 |func g=>simp only[evalV,RelV];exact .fnc g
 |global g=>
  simp only[evalV]
  split
  ·rename_i cs hg
   obtain⟨us,h1,h2⟩:=h.ow.gl.ok.d g cs hg
   simp only[RelV]
   exact⟨g,0,us,rfl,h1,h2⟩
  ·exact relV_undef _
theorem putS_abs(h:Abs S wl M0 M ρ N c f w)(hN:N≤1024){M':Mem}{ρ':Rho}{w':World}{ob':List (Nat×IObj)}(hr:Rle M M' ρ ρ')(ho:Ow S wl M0 M' ρ' (obGet ob') w'){v:V}{u:Value}(hv:RelV M' ρ' v u)(d:Option Nat)(td:List It):
 Abs S wl M0 M' ρ' N ⟨putS N c.sl d v,ob',td⟩ (match d with|some d=>upd f d u|none=>f) w':=by
 cases d with
 |none=>exact⟨ho,h.ok,fun t ht=>RelV.mono hr _ (h.sl t ht)⟩
 |some d=>
  simp only[putS]
  split
  ·rename_i hd
   have hd:=nb_lt hd
   refine⟨ho,Tri.set_ok _ _ _ _ h.ok,fun t ht=> ?_⟩
   by_cases e:t=d
   ·subst e;dsimp only;rw[Tri.get_set_same,upd_same];exact hv
   ·dsimp only;rw[Tri.get_set_ne _ _ _ _ _ h.ok (by omega) (by omega) (fun e'=>e e'.symm),upd_ne _ _ e]
    exact RelV.mono hr _ (h.sl t ht)
  ·exact⟨ho,trivial,fun t _=>by dsimp only;rw[Tri.get_e];exact relV_undef _⟩
theorem fr_putd{d:Option Nat}{u:Value}:(fr N f ds).put d u=fr N (match d with|some d=>upd f d u|none=>f) ds:=by
 cases d with
 |none=>rfl
 |some d=>exact fr_put
theorem gd_spec(h:Abs S wl M0 M ρ N c f w){all:List Oper}{o:Oper}{b:Bool}(hg:gd N c.sl all o=some b):Region.wanted o (yielded all.toArray (fr N f ds).tmps)=b:=by
 obtain⟨d,op,ty,pos,aft,g⟩:=o
 cases g with
 |none=>simp only[gd,Option.some.injEq]at hg;subst hg;rfl
 |some p=>
  obtain⟨j,want⟩:=p
  unfold gd at hg
  dsimp only at hg
  split at hg
  ·rename_i t ht
   have hr:=evalV_rel (ds:=ds) h (.tmp t)
   have hlt:∀v,evalV N c.sl (.tmp t)=v→v≠ .undef→Nat.blt t N=true:=fun v hv hne=>by
    simp only[evalV]at hv
    split at hv
    ·assumption
    ·exact absurd hv.symm hne
   split at hg
   ·rename_i b' hb
    have hN:=hlt _ hb (by intro e;cases e)
    rw[hb]at hr
    have he:=relV_bool hr
    have hft:f t= .bool b':=by rw[←he,ev hN rfl]
    rw[wanted_g (yields ht hN hft)]
    cases b'<;>cases want<;>simp at hg⊢<;>first|exact hg|exact hg.symm
   ·rename_i hb
    have hN:=hlt _ hb (by intro e;cases e)
    rw[hb]at hr
    simp only[RelV]at hr
    have hft:f t=undef:=by rw[←hr,ev hN rfl]
    cases hg
    exact wanted_u (yields_u ht hN hft) want
   ·cases hg
  ·cases hg
theorem exitK_wk{fin':Exit→Act→World→Prop}{id:Nat}{a:Act}{w:World}:∀{k k':List It},exitK id k=some k'→Wk r P fin' k' .normal a w→Wk r P fin' k (.exit id) a w
 |[],_,h,_=>by cases h
 | .inBlock i::k,k',h,hw=>by
   unfold exitK at h
   split at h
   ·rename_i hb
    cases h
    obtain rfl:=Nat.eq_of_beq_eq_true hb
    simp only[Wk,Exit.inBlock,if_true];exact hw
   ·rename_i hb
    have hne:¬id=i:=fun e=>by subst e;simp at hb
    simp only[Wk,Exit.inBlock,if_neg hne]
    exact exitK_wk h hw
 | .code c::k,k',h,hw=>by simp only[Wk,Exit.then];exact exitK_wk h hw
 | .inLoop b::k,k',h,hw=>by simp only[Wk,Exit.then];exact exitK_wk h hw
 | .inScope::k,k',h,hw=>by simp only[Wk,Exit.noGoto];exact exitK_wk (k:=k) h hw
 | .ops a b::k,k',h,hw=>by simp only[Wk,Exit.then];exact exitK_wk h hw
 | .begR _::k,k',h,hw=>by cases h
theorem W_scope{c:Code}{Q:Exit→Act→World→Prop}{a:Act}{w:World}(h:W r P c (Exit.noGoto Q) a w):W r P (.scope c) Q a w:=by
 unfold W
 intro b k cs hro hb
 have h0:(lone (b.atR a (.code (.scope c)::k)) cs w).fenced P (WF r):=WF_calm rfl
 have st:step P (lone (b.atR a (.code (.scope c)::k)) cs w)= .next (lone (b.atR a (.code c:: .inScope c::k)) cs w):=step_lone_go (by simp[stepG,stepG.exec,Frame.atR])
 have st':∀{a:Act} {w:World},step P (lone (b.atR a (.inScope c::k)) cs w)= .next (lone (b.atR a k) cs w):=step_lone_go (by simp[stepG,stepG.exec,Frame.atR])
 obtain⟨e,a₁,w₁,hq,harr⟩:=W_at h b (.inScope c::k) cs hro hb
 cases e with
 |normal=>exact⟨.normal,a₁,w₁,hq,.head h0 st (StepsIn.trans harr (.one (WF_calm rfl) st'))⟩
 |exit id=>
  have hx:exitTo id (.inScope c::k)=exitTo id k:=by simp[exitTo]
  exact⟨.exit id,a₁,w₁,hq,fun k' hk=> .head h0 st (harr.1 k' (by rw[hx];exact hk)),
   fun hr' hk=>let ⟨k₁,h1,h2⟩:=harr.2 hr' (by rw[hx];exact hk);⟨k₁,h1,.head h0 st h2⟩⟩
 |goto l=>exact hq.elim
 |ret=>exact⟨_,a₁,w₁,hq,.of_steps (.one h0 st) (e:= .ret) harr⟩
 |panic ch=>exact⟨_,a₁,w₁,hq,.of_steps (.one h0 st) (e:= .panic ch) harr⟩
 |outgrown=>exact⟨_,a₁,w₁,hq,.of_steps (.one h0 st) (e:= .outgrown) harr⟩
theorem wrO_of(l:List (Nat×IObj))(wr:Wr):wrO (obGet l) wr=obGet (obWr l wr):=(obGet_wr wr l).symm
theorem J_eff{v:V}{wr:Wr}{all rest:List Oper}{o:Oper}{k:List It}(ht:c.td= .ops all (o::rest)::k)(hg:gd N c.sl all o=some true)
 (he:∀S wl M0 M ρ f w,Abs S wl M0 M ρ N c f w→EffV r P (fr N f ds) o.op S wl M0 M ρ (obGet c.ob) w v wr) (hk:J r P N ds fin ⟨putS N c.sl o.dst v,obWr c.ob wr,.ops all rest::k⟩):J r P N ds fin c:=by
 refine⟨hk.1,fun S wl M0 hH M ρ f w h=> ?_⟩
 rw[ht]
 simp only[Wk,Exit.then]
 obtain⟨d,op,ty,pos,aft,g⟩:=o
 refine L_wp (gd_spec h hg) (he S wl M0 M ρ f w h _ _ _ _ _ _ _ fun u w' ⟨M',ρ',h1,h2,h3⟩=> ?_)
 have:=hk.2 S wl M0 hH M' ρ' _ w' (putS_abs h hk.1 h1 (by rw[←wrO_of];exact h2) h3 d _)
 simp only[Wk,Exit.then]at this
 rw[fr_putd]
 exact this
theorem J_skip{all rest:List Oper}{o:Oper}{k:List It}(ht:c.td= .ops all (o::rest)::k)(hg:gd N c.sl all o=some false)(hk:J r P N ds fin ⟨putS N c.sl o.dst .un,c.ob,.ops all rest::k⟩):J r P N ds fin c:=by
 refine⟨hk.1,fun S wl M0 hH M ρ f w h=> ?_⟩
 rw[ht]
 simp only[Wk,Exit.then]
 have:=hk.2 S wl M0 hH M ρ _ w (putS_abs h hk.1 (Rle.refl _ _) h.ow (v:= .un) (u:=undef) (by simp only[RelV]) o.dst _)
 simp only[Wk,Exit.then]at this
 have hw:=gd_spec (ds:=ds) h hg
 rw[L_eq]at this⊢
 unfold wpListIn
 rw[if_neg (by rw[hw];simp)]
 refine⟨fun _ _=>trivial,?_⟩
 rw[fr_putd]
 exact this
theorem J_adv1{c':Cfg}(h:adv P N c=some c')(hk:J r P N ds fin c'):J r P N ds fin c:=by
 have ctl:∀{td:List It},c'=⟨c.sl,c.ob,td⟩→(∀{fin':Exit→Act→World→Prop} {a:Act} {w:World},Wk r P fin' td .normal a w→Wk r P fin' c.td .normal a w)→J r P N ds fin c:=fun{td} e hw=>by
  subst e
  exact⟨hk.1,fun S wl M0 hH M ρ f w ha=>hw (hk.2 S wl M0 hH M ρ f w ⟨ha.ow,ha.ok,ha.sl⟩)⟩
 unfold adv at h
 split at h
 ·rename_i ht;cases h;exact ctl rfl fun hw=>by rw[ht];exact W_skip hw
 ·rename_i ht;cases h;exact ctl rfl fun hw=>by rw[ht];simp only[Wk,Exit.then];exact W_of (wpIn_label hw)
 ·rename_i ht;cases h;exact ctl rfl fun hw=>by rw[ht];exact W_seq hw
 ·rename_i ht;cases h;exact ctl rfl fun hw=>by rw[ht];exact W_block hw
 ·rename_i ht;cases h;exact ctl rfl fun hw=>by rw[ht];exact W_scope hw
 ·rename_i ht;cases h;exact ctl rfl fun hw=>by rw[ht];exact Wl_loop hw
 ·rename_i ht
  split at h
  ·rename_i k' hk';cases h;exact ctl rfl fun hw=>by rw[ht];exact W_exit (exitK_wk hk' hw)
  ·cases h
 ·rename_i rid ops k ht;cases h;exact ctl rfl fun hw=>by
   rw[ht]
   simp only[Wk,Exit.then]at hw⊢
   have:=W_region (id:=rid) (r:=r) (P:=P) hw
   simpa using this
 ·rename_i x t g k ht
  split at h
  ·rename_i b hb
   refine⟨hk.1,fun S wl M0 hH M ρ f w ha=> ?_⟩
   have hr:=evalV_rel (ds:=ds) ha x
   rw[hb]at hr
   have he:=relV_bool hr
   rw[ht]
   cases b with
   |true=>cases h;exact W_if he (fun _=>hk.2 S wl M0 hH M ρ f w ⟨ha.ow,ha.ok,ha.sl⟩) (fun e=>by cases e)
   |false=>cases h;exact W_if he (fun e=>by cases e) (fun _=>hk.2 S wl M0 hH M ρ f w ⟨ha.ow,ha.ok,ha.sl⟩)
  ·cases h
 ·rename_i ht;cases h;exact ctl rfl fun hw=>by rw[ht];exact hw
 ·rename_i ht;cases h;exact ctl rfl fun hw=>by rw[ht];exact hw
 ·rename_i ht;cases h;exact ctl rfl fun hw=>by rw[ht];exact Wl_body hw
 ·rename_i ht;cases h;exact ctl rfl fun hw=>by rw[ht];exact L_nil hw
 ·rename_i all o rest k ht
  split at h
  ·rename_i hg
   split at h
   ·rename_i v wr he
    cases h
    refine J_eff ht hg (fun S wl M0 M ρ f w ha=> ?_) hk
    have:=evOp_sound (r:=r) (P:=P) (a:=fr N f ds) (op:=o.op) (d:=o.dst.getD 0) (ty:=o.type) ha.ow (evalV_rel (ds:=ds) ha)
    unfold evNow at he
    rw[ht]at he
    simp only[hg]at he
    rw[he]at this
    exact this
   ·cases h
  ·rename_i hg;cases h;exact J_skip ht hg hk
  ·cases h
 ·cases h
theorem J_adv:∀(n:Nat) {c:Cfg},J r P N ds fin (advN P N n c)→J r P N ds fin c
 |0,_,h=>h
 |n+1,c,h=>by
  unfold advN at h
  split at h
  ·rename_i c' hc;exact J_adv1 hc (J_adv n h)
  ·exact h
end
end Go.Proofs.YtfgbhfphjmmiaaaGreatDoor.Kx
end
section
namespace Go.Proofs.YtfgbhfphjmmiaaaGreatDoor.Kx
open Go Go.RowKit
def noR:Rho:=fun _=>none
def CallF(P:Program)(g:FuncId)(args:List V)(v:V):Prop:=
 ∀M w vals,Sits M w→GlA M w→RelVs M noR args vals→Calls P g vals.toArray w (fun e w'=>∃u M',e= .returned u∧Ext M M' w w'∧RelV M' noR v u)
def Re(x y:V):Prop:=∀M ρ u,RelV M ρ x u→RelV M ρ y u
theorem Re.refl(x:V):Re x x:=fun _ _ _ h=>h
def Res':List V→List V→Prop
 |[],[]=>True
 |x::xs,y::ys=>Re x y∧Res' xs ys
 |_,_=>False
theorem Res'.refl:∀(l:List V),Res' l l
 |[]=>trivial
 |x::xs=>⟨Re.refl x,Res'.refl xs⟩
theorem Res'.rel{M:Mem}{ρ:Rho}:∀{xs ys:List V} {us:List Value},Res' xs ys→RelVs M ρ xs us→RelVs M ρ ys us
 |[],[],_,_,h=>h
 |x::xs,y::ys,us,h,hr=>by
  simp only[RelVs]at hr⊢
  obtain⟨u,us',e,h1,h2⟩:=hr
  exact⟨u,us',e,h.1 _ _ _ h1,Res'.rel h.2 h2⟩
 |[],_::_,_,h,_=>h.elim
 |_::_,[],_,h,_=>h.elim
section
variable {r:Option Nat} {P:Program} {N:Nat} {ds:List Deferred} {fin:Fin} {c:Cfg}
theorem evNow_ops{o:Oper}{all rest:List Oper}{k:List It}(ht:c.td= .ops all (o::rest)::k)(hg:gd N c.sl all o=some true):evNow P N c=evOp P (obGet c.ob) (o.dst.getD 0) o.type (evalV N c.sl) o.op:=by
 unfold evNow;rw[ht];simp only[hg]
theorem evNow_is(h:evNow P N c≠ .bad):∃o all rest k,c.td= .ops all (o::rest)::k∧gd N c.sl all o=some true:=by
 unfold evNow at h
 split at h
 ·rename_i all o rest k ht
  split at h
  ·rename_i hg;exact⟨o,all,rest,k,ht,hg⟩
  ·exact absurd rfl h
 ·exact absurd rfl h
theorem after_eq{o:Oper}{all rest:List Oper}{k:List It}(ht:c.td= .ops all (o::rest)::k)(v:V)(wr:Wr):after N c v wr=⟨putS N c.sl o.dst v,obWr c.ob wr,.ops all rest::k⟩:=by
 unfold after;rw[ht]
def opt1Of(P:Program)(N:Nat)(c:Cfg):Option (Option (List Dat)):=match evNow P N c with| .opt1 o _=>some o|_=>none
def opt2Of(P:Program)(N:Nat)(c:Cfg):Option (Option (List (List Dat))):=match evNow P N c with| .opt2 o _=>some o|_=>none
def res1(P:Program)(N:Nat)(c:Cfg)(x:List Dat):Cfg:=match evNow P N c with| .opt1 _ k=>after N c (k x).1 (k x).2|_=>c
def res2(P:Program)(N:Nat)(c:Cfg)(x:List (List Dat)):Cfg:=match evNow P N c with| .opt2 _ k=>after N c (k x).1 (k x).2|_=>c
theorem J_opt1{o:Option (List Dat)}(x:List Dat)(ho:opt1Of P N c=some o)(hx:o=some x)(hk:J r P N ds fin (res1 P N c x)):J r P N ds fin c:=by
 unfold opt1Of at ho
 split at ho
 ·rename_i o' k he
  cases ho
  obtain⟨op,all,rest,k',ht,hg⟩:=evNow_is (P:=P) (N:=N) (c:=c) (by rw[he];intro e;cases e)
  unfold res1 at hk
  rw[he]at hk
  simp only[after_eq ht]at hk
  refine J_eff ht hg (fun S wl M0 M ρ f w ha=> ?_) hk
  have:=evOp_sound (r:=r) (P:=P) (a:=fr N f ds) (op:=op.op) (d:=op.dst.getD 0) (ty:=op.type) ha.ow (evalV_rel (ds:=ds) ha)
  rw[←evNow_ops ht hg,he]at this
  exact this x hx
 ·cases ho
theorem J_opt2{o:Option (List (List Dat))}(x:List (List Dat))(ho:opt2Of P N c=some o)(hx:o=some x)(hk:J r P N ds fin (res2 P N c x)):J r P N ds fin c:=by
 unfold opt2Of at ho
 split at ho
 ·rename_i o' k he
  cases ho
  obtain⟨op,all,rest,k',ht,hg⟩:=evNow_is (P:=P) (N:=N) (c:=c) (by rw[he];intro e;cases e)
  unfold res2 at hk
  rw[he]at hk
  simp only[after_eq ht]at hk
  refine J_eff ht hg (fun S wl M0 M ρ f w ha=> ?_) hk
  have:=evOp_sound (r:=r) (P:=P) (a:=fr N f ds) (op:=op.op) (d:=op.dst.getD 0) (ty:=op.type) ha.ow (evalV_rel (ds:=ds) ha)
  rw[←evNow_ops ht hg,he]at this
  exact this x hx
 ·cases ho
theorem Ow.call{S:Hand}{wl w w':World}{M0 M M':Mem}{ρ:Rho}{ob:Nat→Option IObj}(h:Ow S wl M0 M ρ ob w)(k:Ext M M' w w'):Rle M M' ρ ρ∧Ow S wl M0 M' ρ ob w':=by
 have hr:Rle M M' ρ ρ:=⟨k.le,fun _ j hj=>⟨j,hj,Nat.le_refl _,fun _=>rfl,fun _=>rfl⟩⟩
 refine⟨hr,Nat.le_trans h.size k.below.size,k.below.os.trans h.os,k.below.tape.trans h.tape,k.below.output.trans h.output,fun b hb hS=> ?_,k.sits,Mem.le_trans h.le k.le,h.gl.mono k.le,fun b c hb hlt=> ?_,fun q o hq=> ?_,h.dom,h.inj,h.held⟩
 ·rw[k.below.block b (by have:=h.size;omega)];exact h.old b hb hS
 ·exact h.new b c (k.new b c hb (by have:=h.size;omega)) hlt
 ·obtain⟨i,h1,h2⟩:=h.own q o hq
  refine⟨i,h1,h2.mono hr (fun y hl=> ?_) (fun _ hl=>k.below.block _ (blk_mine h2 hl).2)⟩
  cases hm:M' y with
  |none=>
   cases hm0:M y with
   |none=>rfl
   |some c=>obtain⟨c',h3,_⟩:=k.le _ _ hm0;rw[hm]at h3;cases h3
  |some c=>exact(k.new _ _ hm (blk_mine h2 hl).2).symm
theorem relV_noR{M:Mem}{ρ:Rho}{v:V}{u:Value}(h:RelV M noR v u):RelV M ρ v u:=
 RelV.mono ⟨M.le_refl,fun r i hi=>by cases hi⟩ v h
def callOf(P:Program)(N:Nat)(c:Cfg):Option (FuncId×List V):=match evNow P N c with
 | .call g args=>match argsOf (obGet c.ob) args with
   |some (xs,_)=>some (g,xs)
   |none=>none
 |_=>none
def resC(P:Program)(N:Nat)(c:Cfg)(v:V):Cfg:=match evNow P N c with
 | .call _ args=>match argsOf (obGet c.ob) args with
   |some (_,wr)=>after N c v wr
   |none=>c
 |_=>c
theorem orElse_call{x y:Res}{g:FuncId}{args:List V}(h:orElse x y= .call g args):x= .call g args∨y= .call g args:=by
 cases x<;>first|exact .inl h|exact .inr h
theorem evEq_call{P:Program}{o:BinOp}{t:TypeId}{x y:V}{c:Bool}{g:FuncId}{args:List V}:evEq P o t x y c≠ .call g args:=fun h=>by
 have hb:∀b,boolRes o b≠ .call g args:=fun b h=>by unfold boolRes at h;split at h<;>cases h
 unfold evEq at h
 repeat' split at h
 all_goals first|(cases h;done)|exact hb _ h
theorem evNilS_call{P:Program}{ob:Nat→Option IObj}{o:BinOp}{t:TypeId}{x:V}{c:Bool}{g:FuncId}{args:List V}:evNilS P ob o t x c≠ .call g args:=fun h=>by
 have hn:∀n,nzRes o n≠ .call g args:=fun n h=>by unfold nzRes at h;split at h<;>cases h
 unfold evNilS at h
 repeat' split at h
 all_goals first|(cases h;done)|exact hn _ h
theorem evConv_call{P:Program}{ob:Nat→Option IObj}{s t:TypeId}{v:V}{g:FuncId}{args:List V}:evConv P ob s t v≠ .call g args:=fun h=>by
 unfold evConv at h
 repeat' split at h
 all_goals cases h
theorem evSData_call{ob:Nat→Option IObj}{v:V}{g:FuncId}{args:List V}:evSData ob v≠ .call g args:=fun h=>by
 unfold evSData at h
 repeat' split at h
 all_goals cases h
theorem evUStr_call{P:Program}{ob:Nat→Option IObj}{t:TypeId}{v u:V}{g:FuncId}{args:List V}:evUStr P ob t v u≠ .call g args:=fun h=>by
 unfold evUStr at h
 repeat' split at h
 all_goals cases h
theorem call_is{a:Act}{op:Op}{ob:Nat→Option IObj}{d:Nat}{ty:TypeId}{ev:Operand→V}{g:FuncId}{args:List V}{M:Mem}{ρ:Rho}(hc:evOp P ob d ty ev op= .call g args)(hev:∀x,RelV M ρ (ev x) (a.eval x)):
 ∃(f:Operand) (as:Array Operand) (tys:Array TypeId) (fs cs:List Value),op= .call {callee:= .value f,args:=as,argTypes:=tys}∧a.eval f= .func (.func g) fs.toArray cs.toArray∧RelVs M ρ args (fs++as.toList.map a.eval++cs):=by
 cases op with
 |call c=>
  obtain⟨callee,as,tys⟩:=c
  cases callee with
  |builtin b=>
   exfalso
   simp only[evOp]at hc
   cases b<;>simp only at hc<;>first|(cases hc;done)|skip
   all_goals (
    repeat' split at hc
    all_goals first|(cases hc;done)|skip)
   ·unfold evAppend at hc
    repeat' split at hc
    all_goals cases hc
   ·unfold evCopy at hc
    repeat' split at hc
    all_goals cases hc
   ·rcases orElse_call hc with hc|hc
    ·unfold evLen at hc
     repeat' split at hc
     all_goals cases hc
    ·unfold evLenT at hc
     repeat' split at hc
     all_goals cases hc
   ·exact evSData_call hc
   ·exact evUStr_call hc
  |value f=>
   simp only[evOp]at hc
   have hf:=hev f
   split at hc
   ·rename_i gg first cap hfv
    cases hc
    rw[hfv]at hf
    simp only[RelV]at hf
    obtain⟨fs,cs,hfe,h1,h2⟩:=hf
    have hargs:=evsV_rel (xs:=as.toList) hev
    exact⟨f,as,tys,fs,cs,rfl,hfe,(h1.append hargs).append h2⟩
   ·rename_i gg hfv
    cases hc
    rw[hfv]at hf
    have hfe:a.eval f= .func (.func g) ([]:List Value).toArray ([]:List Value).toArray:=by
     have hf:=relV_d hf
     generalize a.eval f=u at hf⊢
     cases hf;rfl
    have hargs:=evsV_rel (xs:=as.toList) hev
    exact⟨f,as,tys,[],[],rfl,hfe,by simpa using hargs⟩
   ·cases hc
  |invoke x m=>simp[evOp]at hc
 |binOp o t x y u=>
  exfalso
  simp only[evOp]at hc
  rcases orElse_call hc with hc|hc
  rotate_left
  ·rcases orElse_call hc with hc|hc
   ·exact evEq_call hc
   ·exact evNilS_call hc
  unfold evBin at hc
  repeat' split at hc
  all_goals first|(cases hc;done)|skip
  ·unfold evShift at hc;repeat' split at hc
   all_goals cases hc
  ·unfold evInt at hc;repeat' split at hc
   all_goals cases hc
 |convert s t x=>
  exfalso
  simp only[evOp]at hc
  rcases orElse_call hc with hc|hc
  ·repeat' split at hc
   all_goals cases hc
  ·exact evConv_call hc
 |load t x=>
  exfalso;simp only[evOp]at hc
  rcases orElse_call hc with hc|hc
  ·unfold evLoad at hc;repeat' split at hc
   all_goals cases hc
  ·unfold evLoadT at hc;repeat' split at hc
   all_goals cases hc
 |store t x y=>
  exfalso;simp only[evOp]at hc
  rcases orElse_call hc with hc|hc
  ·unfold evStoreT at hc;repeat' split at hc
   all_goals cases hc
  ·unfold evStore at hc;repeat' split at hc
   all_goals cases hc
 |indexAddr t x y=>
  exfalso;simp only[evOp]at hc
  rcases orElse_call hc with hc|hc
  ·unfold evIndexAddr at hc;repeat' split at hc
   all_goals cases hc
  ·unfold evIndexT at hc;repeat' split at hc
   all_goals cases hc
 |index t x y=>exfalso;simp only[evOp]at hc;unfold evIndex at hc;repeat' split at hc
               all_goals cases hc
 |makeSlice t x y=>
  exfalso;simp only[evOp]at hc
  rcases orElse_call hc with hc|hc
  ·unfold evMakeT at hc;repeat' split at hc
   all_goals cases hc
  ·unfold evMake at hc;repeat' split at hc
   all_goals cases hc
 |slice t x lo hi mx=>
  exfalso
  have key:∀a b,evSlice P ob t (ev x) a b≠ .call g args:=fun a b h=>by
   unfold evSlice at h;repeat' split at h
   all_goals cases h
  cases mx with
  |some _=>simp[evOp]at hc
  |none=>
   simp only[evOp]at hc
   repeat' split at hc
   all_goals first|(cases hc;done)|exact key _ _ hc
 |makeFunc f x y=>exfalso;cases f<;>simp[evOp]at hc
 |makeMap t hint=>exfalso;cases hint with
  |some _=>simp[evOp]at hc
  |none=>simp only[evOp]at hc;unfold evMakeMap at hc;repeat' split at hc
         all_goals cases hc
 |lookup t m k ok=>exfalso;simp only[evOp]at hc;unfold evLookup at hc;repeat' split at hc
                   all_goals first|(cases hc;done)|(cases ok<;>simp[lookRes]at hc)
 |mapUpdate t m k v=>exfalso;simp only[evOp]at hc;unfold evMapPut at hc;repeat' split at hc
                     all_goals cases hc
 |insert t m k v=>exfalso;simp only[evOp]at hc;unfold evMapPut at hc;repeat' split at hc
                  all_goals cases hc
 |_=>exfalso;simp only[evOp]at hc;repeat' split at hc
     all_goals cases hc
theorem evs_self(a:Act):∀l:List Operand,evs a l (l.map a.eval)
 |[]=>trivial
 |_::l=>⟨rfl,evs_self a l⟩
theorem call_eff{a:Act}{w:World}{op:Op}{ob:Nat→Option IObj}{d:Nat}{ty:TypeId}{ev:Operand→V}{g:FuncId}{args:List V}{M:Mem}{ρ:Rho}(hc:evOp P ob d ty ev op= .call g args)(hev:∀x,RelV M ρ (ev x) (a.eval x))(he:entersT P g):
 ∃vals:List Value,RelVs M ρ args vals∧∀(R:Ending→World→Prop) (R':Value→World→Prop),Calls P g vals.toArray w R→(∀e w',R e w'→∃v,e= .returned v∧R' v w')→Eff r P a op w R':=by
 obtain⟨f,as,tys,fs,cs,rfl,hfe,hr⟩:=call_is hc hev
 exact⟨_,hr,fun R R' hcall hk=>eff_callv (xs:=as.toList) he (by simp) hfe (evs_self a _) hcall hk⟩
theorem call_effX{a:Act}{w:World}{op:Op}{ob:Nat→Option IObj}{d:Nat}{ty:TypeId}{ev:Operand→V}{g:FuncId}{args:List V}{M:Mem}{ρ:Rho}(hc:evOp P ob d ty ev op= .call g args)(hev:∀x,RelV M ρ (ev x) (a.eval x)):
 ∃vals:List Value,RelVs M ρ args vals∧∀(R':Value→World→Prop) (u:Value) (w':World),(callFunc g vals.toArray).run P w= .ok (.value u) w'→R' u w'→Eff r P a op w R':=by
 obtain⟨f,as,tys,fs,cs,rfl,hfe,hr⟩:=call_is hc hev
 refine⟨_,hr,fun R' u w' h1 h2=>Eff.of_run ?_ rfl h2⟩
 intro d ty pos aft g'
 simp only[List.append_assoc]at h1
 have hm:as.map a.eval=(as.toList.map a.eval).toArray:=by rw[←List.map_toArray]
 simp[execOp,resolve,Deferred.ofValue,hfe,invoke,hm,h1]
def CallX(P:Program)(g:FuncId)(args:List V)(v:V):Prop:=∀M ρ vals,RelVs M ρ args vals→∃u,RelV M ρ v u∧∀w,(callFunc g vals.toArray).run P w= .ok (.value u) w
def callXOf(P:Program)(N:Nat)(c:Cfg):Option (FuncId×List V):=match evNow P N c with
 | .call g args=>some (g,args)
 |_=>none
theorem J_callX{g:FuncId}{xs:List V}(v:V)(hc:callXOf P N c=some (g,xs))(hcall:CallX P g xs v)(hk:J r P N ds fin (after N c v [])):J r P N ds fin c:=by
 unfold callXOf at hc
 split at hc
 ·rename_i g' args hev
  cases hc
  obtain⟨op,all,rest,k',ht,hg⟩:=evNow_is (P:=P) (N:=N) (c:=c) (by rw[hev];intro e;cases e)
  rw[after_eq ht]at hk
  refine J_eff ht hg (fun S wl M0 M ρ f w ha=> ?_) hk
  rw[evNow_ops ht hg]at hev
  obtain⟨vals,h1,h2⟩:=call_effX (r:=r) (w:=w) hev (evalV_rel (ds:=ds) ha)
  obtain⟨u,h3,h4⟩:=hcall M ρ vals h1
  exact h2 _ u w (h4 w) ⟨M,ρ,Rle.refl _ _,ha.ow,h3⟩
 ·cases hc
theorem J_callF{g:FuncId}{xs:List V}(ys:List V)(v:V)(hc:callOf P N c=some (g,xs))(he:entersT P g)(hre:Res' xs ys)(hcall:CallF P g ys v)(hk:J r P N ds fin (resC P N c v)):J r P N ds fin c:=by
 unfold callOf at hc
 split at hc
 ·rename_i g' args hev
  split at hc
  ·rename_i xs' wr hargs
   cases hc
   obtain⟨op,all,rest,k',ht,hg⟩:=evNow_is (P:=P) (N:=N) (c:=c) (by rw[hev];intro e;cases e)
   unfold resC at hk
   rw[hev]at hk
   simp only[hargs,after_eq ht]at hk
   refine J_eff ht hg (fun S wl M0 M ρ f w ha=> ?_) hk
   rw[evNow_ops ht hg]at hev
   obtain⟨vals,h1,h2⟩:=call_eff (r:=r) (w:=w) hev (evalV_rel (ds:=ds) ha) he
   obtain⟨M1,r1,o1,d1⟩:=argsOf_sound ha.ow h1 hargs
   refine h2 _ _ (hcall M1 w vals o1.sits o1.gla (hre.rel (d1 noR))) ?_
   rintro e w' ⟨u,M2,rfl,hext,hv⟩
   obtain⟨h3,h4⟩:=o1.call hext
   exact⟨u,rfl,M2,ρ,r1.trans h3,h4,relV_noR hv⟩
  ·cases hc
 ·cases hc
end
end Go.Proofs.YtfgbhfphjmmiaaaGreatDoor.Kx
end
section
namespace Go.Proofs.YtfgbhfphjmmiaaaGreatDoor.Kx
open Go Go.RowKit
def memN(n:Nat):List Nat→Bool
 |[]=>false
 |m::l=>match Nat.beq n m with|true=>true|false=>memN n l
theorem memN_spec{n:Nat}:∀{l:List Nat},memN n l=true→n∈l
 |[],h=>by cases h
 |m::l,h=>by
  unfold memN at h
  split at h
  ·rename_i hb;rw[Nat.eq_of_beq_eq_true hb];exact List.mem_cons_self
  ·exact List.mem_cons_of_mem _ (memN_spec h)
def gK(r g:Nat):Nat:=match Nat.ble 2000 r with|true=>g|false=>(match Nat.blt g 1000000 with|true=>0|false=>1000000)
theorem gK_blt{r g:Nat}(h:Nat.blt (gK r g) 1000000=true):Nat.blt g 1000000=true:=by
 unfold gK at h
 split at h
 ·exact h
 ·split at h
  ·assumption
  ·cases h
theorem gK_blt'{r g:Nat}(h:Nat.blt g 1000000=true):Nat.blt (gK r g) 1000000=true:=by
 unfold gK
 split
 ·exact h
 ·rw[h];rfl
section
variable (ids:List Nat) (ob:Nat→Option IObj)
mutual
def pv:V→V
 | .ptr r k=>match memN r ids with
   |true=> .ptr r k
   |false=> .undef
 | .suf r g off=>match ob r with
   |some (.buf g' _ _ _)=>match Nat.beq g g',memN r ids with|true,true=> .suf r (gK r g) off|_,_=> .undef
   |some (.tree g' _ _ _ _ _)=>match Nat.beq g g',memN r ids with|true,true=> .suf r (gK r g) off|_,_=> .undef
   |some (.fzs g' sz es)=>match Nat.beq g g' with|true=> .d (.sl sz (es.drop off))|false=> .undef
   |_=> .undef
 | .osl r g off len=>match ob r with
   |some (.buf g' _ _ _)=>match Nat.beq g g',memN r ids with|true,true=> .osl r (gK r g) off len|_,_=> .undef
   |some (.fzs g' sz es)=>match Nat.beq g g' with|true=> .d (.sl sz ((es.drop off).take len))|false=> .undef
   |_=> .undef
 | .ept r g j k=>match ob r with
   |some (.buf g' _ _ _)=>match Nat.beq g g',memN r ids with|true,true=> .ept r (gK r g) j k|_,_=> .undef
   |some (.tree g' _ _ _ _ _)=>match Nat.beq g g',memN r ids with|true,true=> .ept r (gK r g) j k|_,_=> .undef
   |_=> .undef
 | .mp r=>match memN r ids with|true=> .mp r|false=> .undef
 | .yl r=>match memN r ids with|true=> .yl r|false=> .undef
 | .fn f a b=> .fn f (pvs a) (pvs b)
 | .agg cs=> .agg (pvs cs)
 | .tup vs=> .tup (pvs vs)
 | .d x=> .d x
 | .rp cs k=> .rp cs k
 | .esl n=> .esl n
 | .undef=> .undef
 | .un=> .un
def pvs:List V→List V
 |[]=>[]
 |v::l=>pv v::pvs l
end
end
def po(ids:List Nat)(ob:Nat→Option IObj)(r:Nat):Option IObj:=match ob r with
 |some (.box te cs)=>some (.box te (pvs ids ob cs))
 |some (.buf g e sz es)=>some (.buf (gK r g) e sz es)
 |some (.tree g e sz shs es h)=>some (.tree (gK r g) e sz shs es (match h with|none=>none|some (k,cs)=>some (k,pvs ids ob cs)))
 |some (.fzs g sz es)=>some (.fzs (gK r g) sz es)
 |some (.raw b o)=>some (.raw b o)
 |some (.mapo k a n es)=>some (.mapo k a n es)
 |some (.fzb cs)=>some (.fzb (pvs ids ob cs))
 |some (.frn x)=>match Nat.ble 2000 r with|true=>some (.frn x)|false=>none
 |_=>none
def pos(ids:List Nat)(ob:Nat→Option IObj):List Nat→Option (List (Nat×IObj))
 |[]=>some []
 |r::l=>match po ids ob r,pos ids ob l with|some o,some xs=>some ((r,o)::xs)|_,_=>none
def mkT:List (Nat×V)→Tri
 |[]=> .e
 |(t,v)::l=>(mkT l).set 10 t v
def keptH(ids:List Nat):List (Nat×IObj)→Bool
 |[]=>true
 |(r,_)::l=>match Nat.ble 2000 r,memN r ids with|true,false=>false|_,_=>keptH ids l
theorem keptH_spec{ids:List Nat}:∀{l:List (Nat×IObj)} {r:Nat} {o:IObj},keptH ids l=true→obGet l r=some o→Nat.ble 2000 r=true→memN r ids=true
 |[],_,_,_,h,_=>by cases h
 |(q,x)::l,r,o,h,ho,hb=>by
  unfold keptH at h
  simp only[obGet]at ho
  split at h
  ·cases h
  ·rename_i hn
   split at ho
   ·rename_i he
    obtain rfl:=Nat.eq_of_beq_eq_true he
    cases hm:memN r ids with
    |true=>rfl
    |false=>exact absurd hm (by intro hm;exact hn hb hm)
   ·exact keptH_spec h ho hb
def keepS(N:Nat)(ids:List Nat)(ob:Nat→Option IObj)(sl:Tri):List Nat→List (Nat×V)
 |[]=>[]
 |t::l=>(t,pv ids ob (evalV N sl (.tmp t)))::keepS N ids ob sl l
def prune(N:Nat)(keep ids:List Nat)(c:Cfg):Option (List (Nat×V)×List (Nat×IObj)×List It):=match keptH ids c.ob,pos ids (obGet c.ob) ids with
 |true,some obs=>some (keepS N ids (obGet c.ob) c.sl keep,obs,c.td)
 |_,_=>none
section
variable {S:Hand} {wl w:World} {M0 M:Mem} {ρ:Rho} {ob:Nat→Option IObj} {ids:List Nat}
def rhoK(ids:List Nat)(ρ:Rho):Rho:=fun r=>match memN r ids with
 |true=>match ρ r with|some i=>some {i with g:=gK r i.g}|none=>none
 |false=>none
theorem rhoK_some{r:Nat}{i:Inf}(hm:memN r ids=true)(h:ρ r=some i):rhoK ids ρ r=some {i with g:=gK r i.g}:=by simp[rhoK,hm,h]
mutual
theorem pv_rel(h:Ow S wl M0 M ρ ob w):∀(v:V) {u:Value},RelV M ρ v u→RelV M (rhoK ids ρ) (pv ids ob v) u
 | .ptr r k,u,hv=>by
   obtain⟨i,hi,hf,hu⟩:=relV_ptr hv
   simp only[pv]
   split
   ·rename_i hm;simp only[RelV];exact⟨_,rhoK_some hm hi,hf,hu⟩
   ·exact relV_undef _
 | .suf r g off,u,hv=>by
   simp only[pv]
   split
   ·rename_i g' e sz es hr
    split
    ·rename_i hg hm
     obtain rfl:=Nat.eq_of_beq_eq_true hg
     simp only[RelV]at hv⊢
     obtain⟨i,hi,_,h1,hu⟩:=hv
     have eg:=(h.buf_heap hr hi).2.1
     exact⟨_,rhoK_some hm hi,by show gK r _≤gK r i.g;rw[eg];exact Nat.le_refl _,h1,fun _=>hu eg.symm⟩
    ·exact relV_undef _
   ·rename_i g' e sz shs es hh hr
    split
    ·rename_i hg hm
     obtain rfl:=Nat.eq_of_beq_eq_true hg
     simp only[RelV]at hv⊢
     obtain⟨i,hi,_,h1,hu⟩:=hv
     obtain⟨i',hi',hok⟩:=h.own r _ hr
     rw[hi]at hi';cases hi'
     have eg:=hok.2.1
     exact⟨_,rhoK_some hm hi,by show gK r _≤gK r i.g;rw[eg];exact Nat.le_refl _,h1,fun _=>hu eg.symm⟩
    ·exact relV_undef _
   ·rename_i g' sz es hr
    split
    ·rename_i hg
     obtain rfl:=Nat.eq_of_beq_eq_true hg
     exact relV_d' (fz_suf h hr hv)
    ·exact relV_undef _
   ·exact relV_undef _
 | .osl r g off len,u,hv=>by
   simp only[pv]
   split
   ·rename_i g' e sz es hr
    split
    ·rename_i hg hm
     obtain rfl:=Nat.eq_of_beq_eq_true hg
     simp only[RelV]at hv⊢
     obtain⟨i,hi,_,h1,hu⟩:=hv
     have eg:=(h.buf_heap hr hi).2.1
     exact⟨_,rhoK_some hm hi,by show gK r _≤gK r i.g;rw[eg];exact Nat.le_refl _,h1,fun _=>hu eg.symm⟩
    ·exact relV_undef _
   ·rename_i g' sz es hr
    split
    ·rename_i hg
     obtain rfl:=Nat.eq_of_beq_eq_true hg
     exact relV_d' (fz_osl h hr hv)
    ·exact relV_undef _
   ·exact relV_undef _
 | .ept r g j k,u,hv=>by
   simp only[pv]
   split
   ·rename_i g' e sz es hr
    split
    ·rename_i hg hm
     obtain rfl:=Nat.eq_of_beq_eq_true hg
     simp only[RelV]at hv⊢
     obtain⟨i,hi,_,h1,hu⟩:=hv
     have eg:=(h.buf_heap hr hi).2.1
     exact⟨_,rhoK_some hm hi,by show gK r _≤gK r i.g;rw[eg];exact Nat.le_refl _,h1,fun _=>hu eg.symm⟩
    ·exact relV_undef _
   ·rename_i g' e sz shs es hh hr
    split
    ·rename_i hg hm
     obtain rfl:=Nat.eq_of_beq_eq_true hg
     simp only[RelV]at hv⊢
     obtain⟨i,hi,_,h1,hu⟩:=hv
     obtain⟨i',hi',hok⟩:=h.own r _ hr
     rw[hi]at hi';cases hi'
     have eg:=hok.2.1
     exact⟨_,rhoK_some hm hi,by show gK r _≤gK r i.g;rw[eg];exact Nat.le_refl _,h1,fun _=>hu eg.symm⟩
    ·exact relV_undef _
   ·exact relV_undef _
 | .mp r,u,hv=>by
   simp only[pv]
   split
   ·rename_i hm
    simp only[RelV]at hv⊢
    obtain⟨i,hi,hf,hu⟩:=hv
    exact⟨_,rhoK_some hm hi,hf,hu⟩
   ·exact relV_undef _
 | .yl r,u,hv=>by
   simp only[pv]
   split
   ·rename_i hm
    simp only[RelV]at hv⊢
    obtain⟨i,hi,hf,hu⟩:=hv
    exact⟨_,rhoK_some hm hi,hf,hu⟩
   ·exact relV_undef _
 | .fn f a b,u,hv=>by
   simp only[pv,RelV]at hv⊢
   obtain⟨fs,cs,e,h1,h2⟩:=hv
   exact⟨fs,cs,e,pvs_rel h a h1,pvs_rel h b h2⟩
 | .agg cs,u,hv=>by simp only[pv,RelV]at hv⊢;obtain⟨us,e,h1⟩:=hv;exact⟨us,e,pvs_rel h cs h1⟩
 | .tup cs,u,hv=>by simp only[pv,RelV]at hv⊢;obtain⟨us,e,h1⟩:=hv;exact⟨us,e,pvs_rel h cs h1⟩
 | .d x,u,hv=>by simp only[pv,RelV]at hv⊢;exact hv
 | .rp cs k,u,hv=>by simp only[pv,RelV]at hv⊢;exact hv
 | .esl n,u,hv=>by simp only[pv,RelV]at hv⊢;exact hv
 | .undef,u,hv=>by simp only[pv];exact relV_undef _
 | .un,u,hv=>by simp only[pv,RelV]at hv⊢;exact hv
theorem pvs_rel(h:Ow S wl M0 M ρ ob w):∀(vs:List V) {us:List Value},RelVs M ρ vs us→RelVs M (rhoK ids ρ) (pvs ids ob vs) us
 |[],us,hv=>by simp only[pvs,RelVs]at hv⊢;exact hv
 |v::vs,us,hv=>by
  simp only[pvs,RelVs]at hv⊢
  obtain⟨u,us',e,h1,h2⟩:=hv
  exact⟨u,us',e,pv_rel h v h1,pvs_rel h vs h2⟩
end
theorem pos_get:∀{l:List Nat} {obs:List (Nat×IObj)},pos ids ob l=some obs→(∀r o,obGet obs r=some o→memN r l=true∧po ids ob r=some o)∧∀r,memN r l=true→∃o,obGet obs r=some o
 |[],obs,h=>by
  simp only[pos,Option.some.injEq]at h
  subst h
  exact⟨fun r o h=>by simp[obGet]at h,fun r h=>by simp[memN]at h⟩
 |q::l,obs,h=>by
  unfold pos at h
  split at h
  ·rename_i o xs h1 h2
   cases h
   obtain⟨i1,i2⟩:=pos_get h2
   refine⟨fun r o' ho=> ?_,fun r hm=> ?_⟩
   ·unfold obGet at ho
    split at ho
    ·rename_i hb
     cases ho
     obtain rfl:=Nat.eq_of_beq_eq_true hb
     exact⟨by unfold memN;rw[Nat.beq_refl],h1⟩
    ·rename_i hb
     obtain⟨a1,a2⟩:=i1 r o' ho
     exact⟨by unfold memN;rw[hb];exact a1,a2⟩
   ·unfold memN at hm
    unfold obGet
    split at hm
    ·rename_i hb;rw[hb];exact⟨_,rfl⟩
    ·rename_i hb;rw[hb];exact i2 r hm
  ·cases h
theorem Ow.prune0(h:Ow S wl M0 M ρ ob w)(hkept:∀r i,Nat.ble 2000 r=true→S.r0 r=some i→memN r ids=true){obs:List (Nat×IObj)}(hp:pos ids ob ids=some obs):Ow S wl M0 M (rhoK ids ρ) (obGet obs) w:=by
 obtain⟨p1,p2⟩:=pos_get hp
 have key:∀r o,obGet obs r=some o→∃x i,ob r=some x∧ρ r=some i∧memN r ids=true∧ObjOk S wl M (rhoK ids ρ) w {i with g:=gK r i.g} o∧(∀b,blk {i with g:=gK r i.g} o b→blk i x b):=fun r o ho=>by
  obtain⟨hm,hpo⟩:=p1 r o ho
  unfold po at hpo
  split at hpo
  ·rename_i cs hr
   cases hpo
   obtain⟨i,hi,hf,hmine,us,e,hw,hrel,h1⟩:=h.own r _ hr
   exact⟨_,i,hr,hi,hm,⟨hf,hmine,us,e,hw,pvs_rel h cs hrel,h1⟩,fun _=>blk_map rfl rfl rfl id⟩
  ·rename_i g e sz es hr
   cases hpo
   obtain⟨i,hi,hok⟩:=h.own r _ hr
   obtain⟨a1,a2,a3,a4,a5,a6,a7⟩:=hok
   exact⟨_,i,hr,hi,hm,⟨a1,congrArg (gK r) a2,a3,a4,a5,a6,fun hp=>by obtain⟨b1,b2⟩:=a7 hp;exact⟨⟨b1.1,fun hg=>b1.2.1 (gK_blt hg),b1.2.2⟩,b2⟩⟩,fun _=>blk_map rfl rfl rfl id⟩
  ·rename_i g e sz shs es hh hr
   cases hpo
   obtain⟨i,hi,hok⟩:=h.own r _ hr
   obtain⟨a1,a2,a3,a4,a5,a6,a7,a8,a9,a10⟩:=hok
   refine⟨_,i,hr,hi,hm,⟨a1,congrArg (gK r) a2,a3,a4,a5,a6,a7,a8,a9,fun hp=> ?_⟩,fun _=>blk_map rfl rfl rfl id⟩
   obtain⟨b1,b2,pre,us,sp,b3,b4,b5,b6⟩:=a10 hp
   refine⟨⟨b1.1,fun hg=>b1.2.1 (gK_blt hg),b1.2.2⟩,gK_blt' b2,pre,us,sp,b3,b4,b5,b6.mono (fun j x u b _ k=> ?_)⟩
   unfold OwnEl at k⊢
   split at k
   ·exact k
   ·exact⟨fun e=>⟨(k.1 e).1,pvs_rel h _ (k.1 e).2.1,(k.1 e).2.2⟩,k.2⟩
  ·rename_i g sz es hr
   cases hpo
   obtain⟨i,hi,hok⟩:=h.own r _ hr
   obtain⟨a1,a2,a3,a4,a5,a6⟩:=hok
   exact⟨_,i,hr,hi,hm,⟨a1,congrArg (gK r) a2,a3,a4,a5,a6⟩,fun _=>blk_map rfl rfl rfl id⟩
  ·rename_i b x hr
   cases hpo
   obtain⟨i,hi,hok⟩:=h.own r _ hr
   exact⟨_,i,hr,hi,hm,hok,fun _=>blk_map rfl rfl rfl id⟩
  ·rename_i k a n es hr
   cases hpo
   obtain⟨i,hi,hok⟩:=h.own r _ hr
   exact⟨_,i,hr,hi,hm,hok,fun _=>blk_map rfl rfl rfl id⟩
  ·rename_i cs hr
   cases hpo
   obtain⟨i,hi,hf,c0,us,hM,hP,hrel,h1⟩:=h.own r _ hr
   exact⟨_,i,hr,hi,hm,⟨hf,c0,us,hM,hP,pvs_rel h cs hrel,h1⟩,fun _=>blk_map rfl rfl rfl id⟩
  ·rename_i x hr
   split at hpo
   ·rename_i hb
    cases hpo
    obtain⟨i,hi,hok⟩:=h.own r _ hr
    have e:({i with g:=gK r i.g}:Inf)=i:=by simp[gK,hb]
    exact⟨_,i,hr,hi,hm,by rw[e];exact hok,fun _=>blk_map rfl rfl rfl id⟩
   ·cases hpo
  ·cases hpo
 refine⟨h.size,h.os,h.tape,h.output,h.old,h.sits,h.le,h.gl,h.new,fun r o ho=> ?_,fun r i hi=> ?_,fun r r' o o' i i' b h1 h2 h3 h4 l1 l2=> ?_,fun r i hb hi=>by
  obtain⟨j,h1,h2⟩:=h.held r i hb hi
  obtain⟨o,ho⟩:=h.dom r j h1
  refine⟨_,rhoK_some (hkept r i hb hi) h1,?_⟩
  have:gK r j.g=j.g:=by simp[gK,hb]
  rw[this];exact h2⟩
 ·obtain⟨x,i,h1,h2,h3,h4,_⟩:=key r o ho
  exact⟨_,rhoK_some h3 h2,h4⟩
 ·unfold rhoK at hi
  split at hi
  ·rename_i hm;exact p2 r hm
  ·cases hi
 ·obtain⟨x,j,a1,a2,a3,a4,a5⟩:=key r o h1
  obtain⟨x',j',b1,b2,b3,b4,b5⟩:=key r' o' h2
  rw[rhoK_some a3 a2]at h3;cases h3
  rw[rhoK_some b3 b2]at h4;cases h4
  exact h.inj r r' x x' j j' b a1 b1 a2 b2 (a5 b l1) (b5 b l2)
theorem Ow.prune(h:Ow S wl M0 M ρ ob w)(hkept:∀r o,Nat.ble 2000 r=true→ob r=some o→memN r ids=true){obs:List (Nat×IObj)}(hp:pos ids ob ids=some obs):Ow S wl M0 M (rhoK ids ρ) (obGet obs) w:=
 h.prune0 (fun r i hb hi=>by obtain⟨j,h1,_⟩:=h.held r i hb hi;obtain⟨o,ho⟩:=h.dom r j h1;exact hkept r o hb ho) hp
theorem prune_live{obs:List (Nat×IObj)}(hp:pos ids ob ids=some obs){r:Nat}{o:IObj}(ho:obGet obs r=some o):memN r ids=true∧∃x,ob r=some x∧∀(i:Inf) (b:Nat),blk {i with g:=gK r i.g} o b→blk i x b:=by
 obtain⟨hm,hpo⟩:=(pos_get hp).1 r o ho
 refine⟨hm,?_⟩
 unfold po at hpo
 split at hpo
 ·rename_i cs hr;cases hpo;exact⟨_,hr,fun _ _=>blk_map rfl rfl rfl id⟩
 ·rename_i g e sz es hr;cases hpo;exact⟨_,hr,fun _ _=>blk_map rfl rfl rfl id⟩
 ·rename_i g e sz shs es hh hr;cases hpo;exact⟨_,hr,fun _ _=>blk_map rfl rfl rfl id⟩
 ·rename_i g sz es hr;cases hpo;exact⟨_,hr,fun _ _=>blk_map rfl rfl rfl id⟩
 ·rename_i b x hr;cases hpo;exact⟨_,hr,fun _ _=>blk_map rfl rfl rfl id⟩
 ·rename_i k a n es hr;cases hpo;exact⟨_,hr,fun _ _=>blk_map rfl rfl rfl id⟩
 ·rename_i cs hr;cases hpo;exact⟨_,hr,fun _ _=>blk_map rfl rfl rfl id⟩
 ·rename_i x hr
  split at hpo
  ·cases hpo;exact⟨_,hr,fun _ _=>blk_map rfl rfl rfl id⟩
  ·cases hpo
 ·cases hpo
end
section
variable {r:Option Nat} {P:Program} {N:Nat} {ds:List Deferred} {fin:Fin} {c:Cfg}
theorem mkT_ok:∀(l:List (Nat×V)),(mkT l).ok 10
 |[]=>trivial
 |(t,v)::l=>Tri.set_ok _ _ _ _ (mkT_ok l)
theorem mkT_rel{M:Mem}{ρ:Rho}{f:Nat→Value}(hN:N≤1024):∀(l:List (Nat×V)),(∀t v,(t,v)∈l→t<N∧RelV M ρ v (f t))→∀t,t<N→RelV M ρ ((mkT l).get 10 t) (f t)
 |[],_,t,_=>by unfold mkT;rw[Tri.get_e];exact relV_undef _
 |(q,v)::l,h,t,ht=>by
  have h1:=h q v List.mem_cons_self
  unfold mkT
  by_cases e:t=q
  ·subst e;rw[Tri.get_set_same];exact h1.2
  ·rw[Tri.get_set_ne _ _ _ _ _ (mkT_ok l) (by omega) (by omega) (fun e'=>e e'.symm)]
   exact mkT_rel hN l (fun t v hm=>h t v (List.mem_cons_of_mem _ hm)) t ht
theorem keepS_mem{ids:List Nat}{ob:Nat→Option IObj}{sl:Tri}:∀{l:List Nat} {t:Nat} {v:V},(t,v)∈keepS N ids ob sl l→v=pv ids ob (evalV N sl (.tmp t))∧t∈l
 |[],_,_,h=>by cases h
 |q::l,t,v,h=>by
  unfold keepS at h
  rcases List.mem_cons.1 h with e|h
  ·cases e;exact⟨rfl,List.mem_cons_self⟩
  ·obtain⟨h1,h2⟩:=keepS_mem h;exact⟨h1,List.mem_cons_of_mem _ h2⟩
def allLt(N:Nat):List Nat→Bool
 |[]=>true
 |t::l=>match Nat.blt t N with|true=>allLt N l|false=>false
theorem allLt_spec:∀{l:List Nat},allLt N l=true→∀t∈l,t<N
 |[],_,t,h=>by cases h
 |q::l,h,t,ht=>by
  unfold allLt at h
  split at h
  ·rename_i hb
   rcases List.mem_cons.1 ht with rfl|ht
   ·exact nb_lt hb
   ·exact allLt_spec h t ht
  ·cases h
theorem J_at{S0:List (Nat×V)}{O0:List (Nat×IObj)}{T0:List It}(keep ids:List Nat)(hp:prune N keep ids c=some (S0,O0,T0))(hl:allLt N keep=true)(hk:J r P N ds fin ⟨mkT S0,O0,T0⟩):J r P N ds fin c:=by
 refine⟨hk.1,fun S wl M0 hH M ρ f w ha=> ?_⟩
 unfold prune at hp
 split at hp
 ·rename_i obs hkp hobs
  cases hp
  refine hk.2 S wl M0 hH M (rhoK ids ρ) f w ⟨ha.ow.prune (fun r o hb ho=>keptH_spec hkp ho hb) hobs,mkT_ok _,mkT_rel hk.1 _ (fun t v hm=> ?_)⟩
  obtain⟨rfl,h2⟩:=keepS_mem hm
  have hlt:=allLt_spec hl t h2
  refine⟨hlt,?_⟩
  have:=pv_rel (ids:=ids) ha.ow _ (evalV_rel (ds:=ds) ha (.tmp t))
  rwa [ev (by simpa[Nat.blt_eq] using hlt) rfl]at this
 ·cases hp
def putV(c:Cfg)(t:Nat)(v:V):Cfg:=⟨c.sl.set 10 t v,c.ob,c.td⟩
theorem J_put{t:Nat}{v:V}(ht:Nat.blt t N=true)(hv:∀S wl M0 M ρ f w,Abs S wl M0 M ρ N c f w→RelV M ρ v (f t))(hk:J r P N ds fin (putV c t v)):J r P N ds fin c:=by
 refine⟨hk.1,fun S wl M0 hH M ρ f w ha=>hk.2 S wl M0 hH M ρ f w ⟨ha.ow,Tri.set_ok _ _ _ _ ha.ok,fun q hq=> ?_⟩⟩
 have h1:=hk.1
 have h2:=nb_lt ht
 by_cases e:q=t
 ·subst e;simp only[putV];rw[Tri.get_set_same];exact hv S wl M0 M ρ f w ha
 ·simp only[putV];rw[Tri.get_set_ne _ _ _ _ _ ha.ok (by omega) (by omega) (fun e'=>e e'.symm)];exact ha.sl q hq
theorem J_bool(t:Nat){b:Bool}(hb:evalV N c.sl (.tmp t)= .d (.bool b))(ht:b=true→J r P N ds fin (putV c t (.d (.bool true))))(hf:b=false→J r P N ds fin (putV c t (.d (.bool false)))):J r P N ds fin c:=by
 have hlt:Nat.blt t N=true:=by
  simp only[evalV]at hb
  split at hb
  ·assumption
  ·cases hb
 have key:∀S wl M0 M ρ f w,Abs S wl M0 M ρ N c f w→RelV M ρ (.d (.bool b)) (f t):=fun S wl M0 M ρ f w ha=>by
  have:=evalV_rel (ds:=ds) ha (.tmp t)
  rwa [hb,ev hlt rfl]at this
 cases b with
 |true=>exact J_put hlt key (ht rfl)
 |false=>exact J_put hlt key (hf rfl)
theorem J_own(t d:Nat)(e sz:Nat){n:Nat}(hb:evalV N c.sl (.tmp t)= .esl n)(hd:obGet c.ob d=none)(hk:J r P N ds fin ⟨c.sl.set 10 t (.suf d 0 0),obSet c.ob d (.buf 0 e sz []),c.td⟩):J r P N ds fin c:=by
 have hlt:Nat.blt t N=true:=by
  simp only[evalV]at hb
  split at hb
  ·assumption
  ·cases hb
 refine⟨hk.1,fun S wl M0 hH M ρ f w ha=> ?_⟩
 have hv:=evalV_rel (ds:=ds) ha (.tmp t)
 rw[hb,ev hlt rfl]at hv
 simp only[RelV]at hv
 obtain⟨p,hp⟩:=hv
 obtain⟨h5,h6⟩:=ha.ow.ghost hd ⟨0,0,0,sz,0,0,false,[]⟩ (.buf 0 e sz []) (fun _=>⟨rfl,rfl,rfl,rfl,Nat.le_refl _,Nat.zero_le _,fun h=>absurd h (Nat.lt_irrefl _)⟩) (fun h=>absurd h (Nat.lt_irrefl _))
 have h1:=hk.1
 have h2:=nb_lt hlt
 refine hk.2 S wl M0 hH M _ f w ⟨by dsimp only;rw[obGet_set];exact h6,Tri.set_ok _ _ _ _ ha.ok,fun q hq=> ?_⟩
 by_cases e:q=t
 ·subst e;dsimp only;rw[Tri.get_set_same,hp]
  exact mk_suf (i:=⟨0,0,0,sz,0,0,false,[]⟩) (updO_same _ _ _) rfl (Nat.le_refl _) (fun h=>absurd h (Nat.lt_irrefl _))
 ·dsimp only;rw[Tri.get_set_ne _ _ _ _ _ ha.ok (by omega) (by omega) (fun e'=>e e'.symm)];exact RelV.mono h5 _ (ha.sl q hq)
theorem Ow.desc{S:Hand}{wl w:World}{M0 M:Mem}{ρ:Rho}{ob:Nat→Option IObj}(h:Ow S wl M0 M ρ ob w){q:Nat}{o o':IObj}(hq:ob q=some o)(hk:∀i,ρ q=some i→ObjOk S wl M ρ w i o→ObjOk S wl M ρ w i o')(hl:∀i b,blk i o' b→blk i o b):Ow S wl M0 M ρ (updO ob q o') w:=by
 have key:∀{x:Nat} {y:IObj} {i:Inf} {b:Nat},updO ob q o' x=some y→ρ x=some i→blk i y b→∃y',ob x=some y'∧blk i y' b:=fun{x y i b} hy hi hly=>by
  by_cases e:x=q
  ·subst e;rw[updO_same]at hy;cases hy;exact⟨o,hq,hl i b hly⟩
  ·rw[updO_ne _ _ e]at hy;exact⟨y,hy,hly⟩
 refine⟨h.size,h.os,h.tape,h.output,h.old,h.sits,h.le,h.gl,h.new,fun x y hy=> ?_,fun x i hi=> ?_,fun x x' y y' i i' b h1 h2 h3 h4 l1 l2=> ?_,h.held⟩
 ·by_cases e:x=q
  ·subst e
   rw[updO_same]at hy;cases hy
   obtain⟨i,hi,hok⟩:=h.own x o hq
   exact⟨i,hi,hk i hi hok⟩
  ·rw[updO_ne _ _ e]at hy;exact h.own x y hy
 ·by_cases e:x=q
  ·subst e;exact⟨o',updO_same _ _ _⟩
  ·rw[updO_ne _ _ e];exact h.dom x i hi
 ·obtain⟨z,hz,lz⟩:=key h1 h3 l1
  obtain⟨z',hz',lz'⟩:=key h2 h4 l2
  exact h.inj x x' z z' i i' b hz hz' h3 h4 lz lz'
theorem RelVs.set{M:Mem}{ρ:Rho}{v v':V}:∀{cs:List V} {us:List Value} {j:Nat},RelVs M ρ cs us→cs[j]? =some v→(∀u,RelV M ρ v u→RelV M ρ v' u)→RelVs M ρ (cs.set j v') us
 |[],_,_,_,h,_=>by cases h
 |c::cs,us,0,h,hj,hv=>by
  simp only[RelVs]at h
  obtain⟨u,us',rfl,h1,h2⟩:=h
  simp only[List.getElem?_cons_zero,Option.some.injEq]at hj
  subst hj
  simp only[List.set_cons_zero,RelVs]
  exact⟨u,us',rfl,hv u h1,h2⟩
 |c::cs,us,j+1,h,hj,hv=>by
  simp only[RelVs]at h
  obtain⟨u,us',rfl,h1,h2⟩:=h
  simp only[List.getElem?_cons_succ]at hj
  simp only[List.set_cons_succ,RelVs]
  exact⟨u,us',rfl,h1,RelVs.set h2 hj hv⟩
def cellOf(c:Cfg)(q j:Nat):Option V:=match obGet c.ob q with|some (.box te cs)=>cs[j]? |_=>none
def putC(c:Cfg)(q j:Nat)(v:V):Cfg:=match obGet c.ob q with|some (.box te cs)=>⟨c.sl,obSet c.ob q (.box te (cs.set j v)),c.td⟩|_=>c
theorem J_ownc(q j d:Nat)(e sz:Nat){n:Nat}(hc:cellOf c q j=some (.esl n))(hd:obGet c.ob d=none)(hk:J r P N ds fin (putC ⟨c.sl,obSet c.ob d (.buf 0 e sz []),c.td⟩ q j (.suf d 0 0))):J r P N ds fin c:=by
 unfold cellOf at hc
 split at hc
 ·rename_i te cs hq
  have hne:q≠d:=fun e=>by subst e;rw[hq]at hd;cases hd
  refine⟨hk.1,fun S wl M0 hH M ρ f w ha=> ?_⟩
  obtain⟨h5,h6⟩:=ha.ow.ghost hd ⟨0,0,0,sz,0,0,false,[]⟩ (.buf 0 e sz []) (fun _=>⟨rfl,rfl,rfl,rfl,Nat.le_refl _,Nat.zero_le _,fun h=>absurd h (Nat.lt_irrefl _)⟩) (fun h=>absurd h (Nat.lt_irrefl _))
  have:=hk.2 S wl M0 hH M (updO ρ d ⟨0,0,0,sz,0,0,false,[]⟩) f w
  unfold putC at this
  have hq':obGet (obSet c.ob d (.buf 0 e sz [])) q=some (.box te cs):=by rw[obGet_set,updO_ne _ _ hne];exact hq
  dsimp only at this
  rw[hq']at this
  refine this ⟨?_,ha.ok,fun t ht=>RelV.mono h5 _ (ha.sl t ht)⟩
  dsimp only
  rw[obGet_set,obGet_set]
  refine h6.desc (q:=q) (o:= .box te cs) (by rw[updO_ne _ _ hne];exact hq) (fun i hi hok=> ?_) (fun _ _=>blk_map rfl rfl rfl id)
  obtain⟨h0,h1,us,e',h2,h3,h4⟩:=hok
  refine⟨h0,h1,us,e',h2,h3.set hc (fun u hu=> ?_),h4⟩
  simp only[RelV]at hu
  obtain⟨p,hp⟩:=hu
  rw[hp]
  exact mk_suf (i:=⟨0,0,0,sz,0,0,false,[]⟩) (updO_same _ _ _) rfl (Nat.le_refl _) (fun h=>absurd h (Nat.lt_irrefl _))
 ·cases hc
def noBeg:List It→Bool
 |[]=>true
 | .begR _::_=>false
 |_::k=>noBeg k
theorem Wk_ret{fin':Exit→Act→World→Prop}{a:Act}{w:World}:∀(k:List It),noBeg k=true→fin' .ret a w→Wk r P fin' k .ret a w
 |[],_,h=>h
 | .begR _::_,hn,_=>by cases hn
 | .code _::k,hn,h=>by simp only[Wk,Exit.then];exact Wk_ret k hn h
 | .inBlock _::k,hn,h=>by simp only[Wk,Exit.inBlock];exact Wk_ret k hn h
 | .inLoop _::k,hn,h=>by simp only[Wk,Exit.then];exact Wk_ret k hn h
 | .inScope::k,hn,h=>by simp only[Wk,Exit.noGoto];exact Wk_ret k hn h
 | .ops _ _::k,hn,h=>by simp only[Wk,Exit.then];exact Wk_ret k hn h
def RetD(wl:World)(M0:Mem)(v:V):Ending→World→Prop:=fun e w'=>∃u M',e= .returned u∧Ext M0 M' wl w'∧RelV M' noR v u
def finF(P:Program)(fn:Func)(v:V):Fin:= .mk (fun _ _ _=>True) fun S wl M0 e a w=>(∀b,¬S b)→bodyPost P fn (RetD wl M0 v) e a w
def retV(P:Program)(N:Nat)(c:Cfg):List ResultVar→Option (List V)
 |[]=>some []
 | .tmp t::rs=>match Nat.blt t N,retV P N c rs with|true,some vs=>some (evalV N c.sl (.tmp t)::vs)|_,_=>none
 | .cell t ty::rs=>match evalV N c.sl (.tmp t),szT P ty,retV P N c rs with
   | .ptr q k,some (n,ag),some vs=>match obGet c.ob q with
     |some (.box te cs)=>match Nat.ble (k+n) cs.length with|true=>some (mkV ag ((cs.drop k).take n)::vs)|false=>none
     |_=>none
   |_,_,_=>none
theorem run_loadVar{t:TypeId}{b o:Nat}{vs:List Value}{agg:Bool}{w:World}(ht:aggT P t=some agg)(hs:sizeT P t=some vs.length)(h1:agg=false→vs.length=1)
 (hc:∀(j:Nat) v,vs[j]? =some v→w.cell? ⟨b,o+j,none⟩=some v):(loadVar t ⟨b,o,none⟩).run P w= .ok (mkv agg vs) w:=by
 cases agg with
 |true=>
  have:=run_loadCells_list (P:=P) w ⟨b,o,none⟩ vs (fun j v hv=>by rw[add_zero_off];exact hc j v hv)
  simp[loadVar,run_aggT ht,run_sizeT hs,this,mkv]
 |false=>
  match vs,h1 rfl with
  |[v],_=>
   have:=hc 0 v rfl
   simp only[Nat.add_zero]at this
   simp[loadVar,run_aggT ht,this,mkv]
theorem retV_ok{S:Hand}{wl w:World}{M0 M:Mem}{ρ:Rho}{f:Nat→Value}(h:Abs S wl M0 M ρ N c f w):∀{rs:List ResultVar} {vs:List V},retV P N c rs=some vs→∃us,resOk P N f w rs us∧RelVs M ρ vs us
 |[],vs,hv=>by simp only[retV,Option.some.injEq]at hv;subst hv;exact⟨[],trivial,by simp only[RelVs]⟩
 | .tmp t::rs,vs,hv=>by
   unfold retV at hv
   split at hv
   ·rename_i vs' hlt hvs
    cases hv
    obtain⟨us,h1,h2⟩:=retV_ok h hvs
    have hr:=evalV_rel (ds:=[]) h (.tmp t)
    rw[ev hlt rfl]at hr
    exact⟨f t::us,⟨⟨hlt,rfl⟩,h1⟩,by simp only[RelVs];exact⟨_,_,rfl,hr,h2⟩⟩
   ·cases hv
 | .cell t ty::rs,vs,hv=>by
   unfold retV at hv
   split at hv
   ·rename_i q k n ag vs' hp hz hvs
    split at hv
    ·rename_i cs hr
     split at hv
     ·rename_i hl
      cases hv
      obtain⟨us,h1,h2⟩:=retV_ok h hvs
      have hlt:Nat.blt t N=true:=by
       simp only[evalV]at hp
       split at hp
       ·assumption
       ·cases hp
      have hrv:=evalV_rel (ds:=[]) h (.tmp t)
      rw[hp,ev hlt rfl]at hrv
      obtain⟨i,hi,hf,hpt⟩:=relV_ptr hrv
      obtain⟨xs,e,hw,hrel,_⟩:=h.ow.box_heap hr hi
      obtain⟨hs,ha,hone⟩:=szT_spec hz
      have hl:=nb_le hl
      have hlen:=hrel.len
      have hu:((xs.drop k).take n).length=n:=take_len (by omega)
      refine⟨mkv ag ((xs.drop k).take n)::us,⟨⟨hlt,_,hpt,run_loadVar ha (by rw[hu];exact hs) (fun e=>by rw[hu];exact hone e) (fun j v hj=> ?_)⟩,h1⟩,by simp only[RelVs];exact⟨_,_,rfl,mkV_rel (n:=n) ((hrel.drop k).take n) (fun e=>by rw[hu];exact hone e),h2⟩⟩
      have:=get_slice rfl hj
      simp[World.cell?,hw,this]
     ·cases hv
    ·cases hv
   ·cases hv
def tupV:List V→V
 |[v]=>v
 |vs=> .tup vs
theorem tupV_rel{M:Mem}{ρ:Rho}{vs:List V}{us:List Value}(h:RelVs M ρ vs us):RelV M ρ (tupV vs) (tupv us):=by
 match vs,us,h with
 |[v],us,h=>
  simp only[RelVs]at h
  obtain⟨u,us',rfl,h1,rfl⟩:=h
  exact h1
 |[],us,h=>simp only[RelVs]at h;subst h;simp only[tupV,RelV,RelVs];exact⟨[],rfl,rfl⟩
 |v::v'::vs,us,h=>
  have hl:=h.len
  match us,hl with
  |u::u'::us,_=>simp only[tupV,tupv,RelV];exact⟨_,rfl,h⟩
theorem ret_post{fn:Func}{v:V}{S:Hand}{wl w:World}{M0 M:Mem}{ρ:Rho}{f:Nat→Value}{rs:List ResultVar}{vs xs ys:List V}{wr:Wr}(h:Abs S wl M0 M ρ N c f w)(hfn:fn.results=rs.toArray)(hv:retV P N c rs=some vs)(hx:argsOf (obGet c.ob) vs=some (xs,wr))(hre:Res' xs ys)(he:tupV ys=v)(hS:∀b,¬S b):
 ∃u,(results fn (fr N f []).tmps).run P w= .ok u w∧RetD wl M0 v (.returned u) w:=by
 obtain⟨us,h1,h2⟩:=retV_ok h hv
 obtain⟨M',r1,o1,d1⟩:=argsOf_sound h.ow h2 hx
 refine⟨tupv us,results_run hfn h1,tupv us,M',rfl,⟨⟨o1.os,o1.tape,o1.output,o1.size,fun k hk=>o1.old k hk (hS k)⟩,o1.le,o1.sits,fun b c hb hlt=>(o1.new b c hb hlt).resolve_right (hS b)⟩,?_⟩
 rw[←he]
 exact tupV_rel (hre.rel (d1 noR))
def atRet(c:Cfg):Bool:=match c.td with| .code .ret::k=>noBeg k|[]=>true|_=>false
def retOf(P:Program)(N:Nat)(c:Cfg)(rs:List ResultVar):Option (List V):=match atRet c with
 |true=>match retV P N c rs with
  |some vs=>match argsOf (obGet c.ob) vs with|some (xs,_)=>some xs|none=>none
  |none=>none
 |false=>none
theorem J_ret{fn:Func}{v:V}{rs:List ResultVar}{xs:List V}(ys:List V)(hfn:fn.results=rs.toArray)(hN:Nat.ble N 1024=true)(hv:retOf P N c rs=some xs)(hre:Res' xs ys)(he:tupV ys=v):J r P N [] (finF P fn v) c:=by
 refine⟨nb_le hN,fun S wl M0 hH M ρ f w h=> ?_⟩
 unfold retOf at hv
 split at hv
 ·rename_i hat
  split at hv
  ·rename_i vs hvs
   split at hv
   ·rename_i xs' wr hx
    cases hv
    have key:=fun hS:∀b,¬S b=>ret_post h hfn hvs hx hre he hS
    unfold atRet at hat
    split at hat
    ·rename_i ht
     rw[ht]
     exact W_ret (Wk_ret _ hat (fun hS=>⟨rfl,key hS⟩))
    ·rename_i ht
     rw[ht]
     exact fun hS=>⟨rfl,key hS⟩
    ·cases hat
   ·cases hv
  ·cases hv
 ·cases hv
def argT:Nat→List V→List (Nat×V)
 |_,[]=>[]
 |i,v::l=>(i,v)::argT (i+1) l
theorem argT_mem:∀{l:List V} {i t:Nat} {v:V},(t,v)∈argT i l→i≤t∧l[t-i]? =some v
 |[],_,_,_,h=>by cases h
 |x::l,i,t,v,h=>by
  unfold argT at h
  rcases List.mem_cons.1 h with e|h
  ·cases e;exact⟨Nat.le_refl _,by simp⟩
  ·obtain⟨h1,h2⟩:=argT_mem h
   refine⟨by omega,?_⟩
   obtain⟨k,rfl⟩:∃k,t=i+1+k:=⟨t-(i+1),by omega⟩
   rw[show i+1+k-(i+1)=k by omega]at h2
   rw[show i+1+k-i=k+1 by omega]
   exact h2
theorem callF_of{g:FuncId}{fn:Func}{b:Code}{args:List V}{v:V}(hf:P.funcs[g]? =some fn)(hb:fn.body=some b)(hN:fn.ntmps=N)(hv:Nat.ble args.length N=true)(h:J none P N [] (finF P fn v) ⟨mkT (argT 0 args),[],[.code b]⟩):CallF P g args v:=by
 intro M w vals hs hgl hr
 have hl:=nb_le hv
 refine entry hf hb hN (by rw[hr.len];exact hl) ?_
 refine W_mono (h.2 ⟨fun _=>False,noR⟩ w M trivial M noR (argf vals) w ⟨⟨Nat.le_refl _,rfl,rfl,rfl,fun _ _ _=>rfl,hs,M.le_refl,hgl.entry (fun _ _ _ h=>h),fun _ _ h _=> .inl h,fun r o h=>(by simp[obGet]at h),fun r i h=>(by cases h),fun r r' o o' i i' b h=>(by simp[obGet]at h),fun r i _ h=>(by cases h)⟩,mkT_ok _,mkT_rel h.1 _ (fun t v hm=> ?_)⟩) (fun e a w hq=>hq (fun _ h=>h))
 obtain⟨_,h2⟩:=argT_mem hm
 rw[Nat.sub_zero]at h2
 obtain⟨u,h3,h4⟩:=hr.get h2
 exact⟨Nat.lt_of_lt_of_le (List.getElem?_eq_some_iff.1 h2).1 hl,by unfold argf;rw[h3];exact h4⟩
end
def cAt:Code→List Nat→Code
 |c,[]=>c
 | .seq a b,i::p=>match i with|0=>cAt a p|_=>cAt b p
 | .cond _ a b,i::p=>match i with|0=>cAt a p|_=>cAt b p
 | .block _ b,_::p=>cAt b p
 | .loop b,_::p=>cAt b p
 | .scope b,_::p=>cAt b p
 | .rangeFunc _ _ a b,i::p=>match i with|0=>cAt a p|_=>cAt b p
 |c,_=>c
def opsOf:Code→List Oper
 | .region _ ops _=>ops.toList
 |_=>[]
def bodyOf(fn:Func):Code:=match fn.body with|some b=>b|none=> .skip
theorem gm{α β:Type}{l:List α}{f:α→β}{i:Int}{y:α}(h:geti l i=some y):geti (l.map f) i=some (f y):=by
 obtain⟨k,rfl,hk⟩:=geti_some h
 unfold geti
 simp[hk]
theorem cpm{α β:Type}(l m:List α){off:Nat}{f:α→β}:cpy (l.map f) off (m.map f)=(cpy l off m).map f:=by
 simp[cpy,List.map_take,List.map_drop]
theorem cp2d{α:Type}{l m:List α}{off k:Nat}{f:α→List Dat}:cpy2 (l.map f) off ((m.map f).drop k)=some ((cpy l off (m.drop k)).map f):=by rw[cpy2,←List.map_drop,cpm]
theorem cp2t{α:Type}{l m:List α}{off k n:Nat}{f:α→List Dat}:cpy2 (l.map f) off (((m.map f).drop k).take n)=some ((cpy l off ((m.drop k).take n)).map f):=by rw[cpy2,←List.map_drop,←List.map_take,cpm]
theorem am{α β:Type}{l m k:List α}{f:α→β}(h:app l m=some k):app (l.map f) (m.map f)=some (k.map f):=by
 obtain⟨rfl,hb⟩:=app_bound h
 unfold app
 simp[hb]
theorem sm{α β:Type}{l k:List α}{f:α→β}{lo hi:Int}(h:slc l lo hi=some k):slc (l.map f) lo hi=some (k.map f):=by
 obtain⟨h0,h1,h2,rfl⟩:=slc_some h
 unfold slc
 simp[h0,h1,h2,List.map_take,List.map_drop]
def mkL{α:Type}(l c:Int)(z:α):Option (List α):=bif decide (0≤l)&&decide (l≤c)&&decide (c≤2147483648) then some (List.replicate l.toNat z) else none
theorem mm{α:Type}{l c:Int}{z:α}{f:α→List Dat}{k:List α}(h:mkL l c z=some k):mk2 l c (f z)=some (k.map f):=by
 unfold mkL at h
 unfold mk2
 cases hb:(decide (0≤l)&&decide (l≤c)&&decide (c≤2147483648)) with
 |true=>rw[hb]at h;cases h;simp
 |false=>rw[hb]at h;cases h
theorem stm{α:Type}{l:List α}{f:α→List Dat}{j:Nat}{y z:α}{k:Nat}{xs:List Dat}(h:l[j]? =some y)(hz:setD (f y) k xs=f z):(match(l.map f)[j]? with|some old=>some ((l.map f).set j (setD old k xs))|none=>none)=some ((l.set j z).map f):=by
 simp[h,hz,List.map_set]
theorem gj{α:Type}{l:List α}{i:Int}{y:α}(h:geti l i=some y):l[(0+i.toNat)]? =some y:=by
 rw[Nat.zero_add];exact(geti_nat h).2
theorem gjm{α β:Type}{l:List α}{f:α→β}{j:Nat}{y:α}(h:l[j]? =some y):(l.map f)[j]? =some (f y):=by simp[h]
theorem ck{b:Bool}(h:b=true):chk b=some []:=by subst h;rfl
end Go.Proofs.YtfgbhfphjmmiaaaGreatDoor.Kx
end
section
namespace Go.Proofs.YtfgbhfphjmmiaaaGreatDoor.Kx
open Go Go.RowKit
section
variable (K:List Nat)
mutual
def refsIn:V→Bool
 | .ptr r _=>memN r K
 | .suf r _ _=>memN r K
 | .osl r _ _ _=>memN r K
 | .ept r _ _ _=>memN r K
 | .mp r=>memN r K
 | .yl r=>memN r K
 | .fn _ a b=>match refsIns a with|true=>refsIns b|false=>false
 | .agg cs=>refsIns cs
 | .tup vs=>refsIns vs
 |_=>true
def refsIns:List V→Bool
 |[]=>true
 |v::l=>match refsIn v with|true=>refsIns l|false=>false
end
def closedO:IObj→Bool
 | .box te cs=>refsIns K cs
 | .fzb cs=>refsIns K cs
 | .tree _ _ _ _ _ h=>(match h with|none=>true|some (_,cs)=>refsIns K cs)
 | .frn _=>false
 |_=>true
def keepO(R:List Nat)(ob:Nat→Option IObj):Nat→Option IObj:=fun r=>match memN r K with
 |true=>match memN r R with
  |true=>ob r
  |false=>match ob r with|some _=>some (.frn r)|none=>none
 |false=>none
def keepR(ρ:Rho):Rho:=fun r=>match memN r K with|true=>ρ r|false=>none
end
theorem keepO_in{K R:List Nat}{ob:Nat→Option IObj}{r:Nat}(h:memN r K=true)(h':memN r R=true):keepO K R ob r=ob r:=by simp[keepO,h,h']
theorem keepO_frn{K R:List Nat}{ob:Nat→Option IObj}{r:Nat}{o:IObj}(h:memN r K=true)(h':memN r R=false)(ho:ob r=some o):keepO K R ob r=some (.frn r):=by simp[keepO,h,h',ho]
theorem keepR_in{K:List Nat}{ρ:Rho}{r:Nat}(h:memN r K=true):keepR K ρ r=ρ r:=by simp[keepR,h]
theorem keepO_some{K R:List Nat}{ob:Nat→Option IObj}{r:Nat}{o:IObj}(h:keepO K R ob r=some o):memN r K=true∧((memN r R=true∧ob r=some o)∨(memN r R=false∧o= .frn r∧∃x,ob r=some x)):=by
 unfold keepO at h
 split at h
 ·rename_i hm
  refine⟨hm,?_⟩
  split at h
  ·rename_i hr;exact .inl ⟨hr,h⟩
  ·rename_i hr
   split at h
   ·rename_i x hx;cases h;exact .inr ⟨hr,rfl,x,hx⟩
   ·cases h
 ·cases h
theorem keepO_live{K R:List Nat}{ob:Nat→Option IObj}{r:Nat}{i:Inf}{o:IObj}{b:Nat}(h:keepO K R ob r=some o)(hl:blk i o b):memN r R=true∧ob r=some o:=by
 obtain⟨_,⟨a,b⟩|⟨_,rfl,_⟩⟩:=keepO_some h
 ·exact⟨a,b⟩
 ·exact absurd hl (blk_none rfl rfl)
theorem keepR_some{K:List Nat}{ρ:Rho}{r:Nat}{i:Inf}(h:keepR K ρ r=some i):memN r K=true∧ρ r=some i:=by
 unfold keepR at h
 split at h
 ·rename_i hm;exact⟨hm,h⟩
 ·cases h
def SK(R:List Nat)(ρ:Rho)(ob:Nat→Option IObj):Nat→Prop:=fun b=>∃r i o,memN r R=true∧ρ r=some i∧ob r=some o∧blk i o b
section
variable {K:List Nat} {M:Mem} {ρ:Rho}
mutual
theorem refs_rel:∀(v:V) {u:Value},refsIn K v=true→RelV M ρ v u→RelV M (keepR K ρ) v u
 | .ptr r k,u,h,hv=>by
   simp only[refsIn]at h
   simp only[RelV,keepR_in h]at hv⊢;exact hv
 | .suf r g off,u,h,hv=>by
   simp only[refsIn]at h
   simp only[RelV,keepR_in h]at hv⊢;exact hv
 | .osl r g off len,u,h,hv=>by
   simp only[refsIn]at h
   simp only[RelV,keepR_in h]at hv⊢;exact hv
 | .ept r g j k,u,h,hv=>by
   simp only[refsIn]at h
   simp only[RelV,keepR_in h]at hv⊢;exact hv
 | .mp r,u,h,hv=>by
   simp only[refsIn]at h
   simp only[RelV,keepR_in h]at hv⊢;exact hv
 | .yl r,u,h,hv=>by
   simp only[refsIn]at h
   simp only[RelV,keepR_in h]at hv⊢;exact hv
 | .fn f a b,u,h,hv=>by
   simp only[refsIn]at h
   split at h
   ·rename_i ha
    simp only[RelV]at hv⊢
    obtain⟨fs,cs,e,h1,h2⟩:=hv
    exact⟨fs,cs,e,refs_rels a ha h1,refs_rels b h h2⟩
   ·cases h
 | .agg cs,u,h,hv=>by
   simp only[refsIn]at h
   simp only[RelV]at hv⊢
   obtain⟨us,e,h1⟩:=hv
   exact⟨us,e,refs_rels cs h h1⟩
 | .tup cs,u,h,hv=>by
   simp only[refsIn]at h
   simp only[RelV]at hv⊢
   obtain⟨us,e,h1⟩:=hv
   exact⟨us,e,refs_rels cs h h1⟩
 | .d x,u,_,hv=>by simp only[RelV]at hv⊢;exact hv
 | .rp cs k,u,_,hv=>by simp only[RelV]at hv⊢;exact hv
 | .esl n,u,_,hv=>by simp only[RelV]at hv⊢;exact hv
 | .undef,u,_,hv=>by simp only[RelV]
 | .un,u,_,hv=>by simp only[RelV]at hv⊢;exact hv
theorem refs_rels:∀(vs:List V) {us:List Value},refsIns K vs=true→RelVs M ρ vs us→RelVs M (keepR K ρ) vs us
 |[],us,_,hv=>by simp only[RelVs]at hv⊢;exact hv
 |v::l,us,h,hv=>by
  simp only[refsIns]at h
  split at h
  ·rename_i ha
   simp only[RelVs]at hv⊢
   obtain⟨u,us',e,h1,h2⟩:=hv
   exact⟨u,us',e,refs_rel v ha h1,refs_rels l h h2⟩
  ·cases h
end
end
section
variable {S:Hand} {wl w w':World} {M0 M M':Mem} {ρ ρ':Rho} {ob:Nat→Option IObj} {K R:List Nat}
theorem SK_mine(h:Ow S wl M0 M ρ ob w){b:Nat}(hb:SK R ρ ob b):(S b∨wl.heap.size≤b)∧b<w.heap.size:=by
 obtain⟨r,i,o,_,h2,h3,h4⟩:=hb
 obtain⟨i',h5,h6⟩:=h.own r o h3
 rw[h2]at h5;cases h5
 exact blk_mine h6 h4
theorem Ow.part(h:Ow S wl M0 M ρ ob w)(K R:List Nat)(hc:∀r o,memN r R=true→ob r=some o→closedO K o=true):Ow ⟨SK R ρ ob,keepR K ρ⟩ w M M (keepR K ρ) (keepO K R ob) w:=by
 refine⟨Nat.le_refl _,rfl,rfl,rfl,fun _ _ _=>rfl,h.sits,M.le_refl,h.glE (fun b hb=>(SK_mine h hb).1),fun _ _ hb _=> .inl hb,fun r o hr=> ?_,fun r i hi=> ?_,fun r r' o o' i i' b h1 h2 h3 h4 l1 l2=>h.inj r r' o o' i i' b (keepO_live h1 l1).2 (keepO_live h2 l2).2 (keepR_some h3).2 (keepR_some h4).2 l1 l2,fun r i _ hi=>⟨i,hi,Ile.refl i⟩⟩
 ·obtain⟨hm,⟨hmr,ho⟩|⟨hmr,rfl,x,hx⟩⟩:=keepO_some hr
  rotate_left
  ·obtain⟨i,hi,_⟩:=h.own r x hx
   exact⟨i,by rw[keepR_in hm];exact hi,by show keepR K ρ r=some i;rw[keepR_in hm];exact hi⟩
  obtain⟨i,hi,hok⟩:=h.own r o ho
  refine⟨i,by rw[keepR_in hm];exact hi,?_⟩
  have hcl:=hc r o hmr ho
  have hS:live i o→SK R ρ ob i.b:=fun hl=>⟨r,i,o,hmr,hi,ho,blk_live hl⟩
  cases o with
  |tree g e sz shs es hh=>exact ObjOk.tree hok (fun b hb=> .inl ⟨r,i,_,hmr,hi,ho,hb⟩) (fun k cs e us hus=>by subst e;exact refs_rels cs hcl hus)
  |box te cs=>
   obtain⟨h0,h1,us,e,h2,h3,h4⟩:=hok
   exact⟨h0,⟨.inl (hS trivial),h1.2⟩,us,e,h2,refs_rels cs hcl h3,h4⟩
  |buf g e sz es=>
   obtain⟨h0,hg,hs,hn,ht,hx,h1⟩:=hok
   refine⟨h0,hg,hs,hn,ht,hx,fun hp=> ?_⟩
   obtain⟨h1,rest⟩:=h1 hp
   exact⟨⟨.inl (hS hp),h1.2⟩,rest⟩
  |fzs g sz es=>exact hok
  |fzb cs=>
   obtain⟨h0,c0,us,h1,hP,h2,h3⟩:=hok
   exact⟨h0,c0,us,h1,hP,refs_rels cs hcl h2,h3⟩
  |mapo kk ag sz es=>
   obtain⟨h0,h1,rest⟩:=hok
   exact⟨h0,⟨.inl (hS trivial),h1.2⟩,rest⟩
  |raw b x=>
   obtain⟨h0,e,h1,h2⟩:=hok
   exact⟨h0,e,⟨.inl (hS trivial),h1.2⟩,h2⟩
  |frn q=>cases hcl
 ·obtain⟨hm,hi⟩:=keepR_some hi
  obtain⟨o,ho⟩:=h.dom r i hi
  cases hmr:memN r R with
  |true=>exact⟨o,by rw[keepO_in hm hmr];exact ho⟩
  |false=>exact⟨_,keepO_frn hm hmr ho⟩
def keysIn(K:List Nat):Wr→Bool
 |[]=>true
 |(d,o)::wr=>match memN d K,o with|true,.frn _=>false|true,_=>keysIn K wr|false,_=>false
theorem wrO_in:∀(wr:Wr) {ob ob':Nat→Option IObj} {r:Nat},ob r=ob' r→wrO ob wr r=wrO ob' wr r
 |[],_,_,_,h=>h
 |(d,o)::wr,ob,ob',r,h=>by
  simp only[wrO]
  exact wrO_in wr (by unfold updO;split<;>first|rfl|exact h)
theorem wrO_out{K:List Nat}:∀(wr:Wr) {ob:Nat→Option IObj} {r:Nat},keysIn K wr=true→memN r K=false→wrO ob wr r=ob r
 |[],_,_,_,_=>rfl
 |(d,o)::wr,ob,r,h,hr=>by
  unfold keysIn at h
  split at h
  ·cases h
  ·rename_i hd _
   simp only[wrO]
   rw[wrO_out wr h hr,updO_ne]
   intro e;subst e;rw[hd]at hr;cases hr
  ·cases h
def joinR(K:List Nat)(ρ ρ':Rho):Rho:=fun r=>match memN r K with|true=>ρ' r|false=>ρ r
theorem joinR_in{r:Nat}(h:memN r K=true):joinR K ρ ρ' r=ρ' r:=by simp[joinR,h]
theorem joinR_out{r:Nat}(h:memN r K=false):joinR K ρ ρ' r=ρ r:=by simp[joinR,h]
theorem wrO_frn{R:List Nat}:∀(wr:Wr) {ob:Nat→Option IObj} {r q:Nat},keysIn R wr=true→wrO ob wr r=some (.frn q)→ob r=some (.frn q)
 |[],_,_,_,_,h=>h
 |(d,o)::wr,ob,r,q,hk,h=>by
  unfold keysIn at hk
  split at hk
  ·cases hk
  ·rename_i o' hne
   simp only[wrO]at h
   have:=wrO_frn wr hk h
   by_cases e:r=d
   ·subst e
    rw[updO_same]at this
    cases this
    exact absurd rfl (hne q)
   ·rw[updO_ne _ _ e]at this;exact this
  ·cases hk
theorem Ow.back(h:Ow S wl M0 M ρ ob w){wr:Wr}{r0:Rho}(hc:∀r o,memN r R=true→ob r=some o→closedO K o=true)(hsub:∀r,memN r R=true→memN r K=true)(hr0:∀r i,memN r K=true→memN r R=false→r0 r=some i→ρ r=some i)(hk:keysIn R wr=true)(h':Ow ⟨SK R ρ ob,r0⟩ w M M' ρ' (wrO (keepO K R ob) wr) w')(hr:Rle M M' (keepR K ρ) ρ'):
 Rle M M' ρ (joinR K ρ ρ')∧Ow S wl M0 M' (joinR K ρ ρ') (wrO ob wr) w'∧Rle M' M' ρ' (joinR K ρ ρ'):=by
 have hin:∀r,memN r R=true→wrO (keepO K R ob) wr r=wrO ob wr r:=fun r hm=>wrO_in wr (keepO_in (hsub r hm) hm)
 have hfr:∀r o,memN r K=true→memN r R=false→ob r=some o→wrO (keepO K R ob) wr r=some (.frn r):=fun r o hm hmr ho=>by rw[wrO_out wr hk hmr];exact keepO_frn hm hmr ho
 have hKd:∀r i,ρ' r=some i→memN r K=true:=fun r i hi=>by
  cases hm:memN r K with
  |true=>rfl
  |false=>
   obtain⟨o,ho⟩:=h'.dom r i hi
   have hmr:memN r R=false:=by
    cases hmr:memN r R with
    |false=>rfl
    |true=>rw[hsub r hmr]at hm;cases hm
   rw[wrO_out wr hk hmr]at ho
   simp[keepO,hm]at ho
 --what was not looked at stands where it stood
 have same:∀r o,memN r K=true→memN r R=false→ob r=some o→∃i,ρ r=some i∧ρ' r=some i:=fun r o hm hmr ho=>by
  obtain⟨i,hi,hok⟩:=h'.own r _ (hfr r o hm hmr ho)
  exact⟨i,hr0 r i hm hmr hok,hi⟩
 have e2:Rle M' M' ρ' (joinR K ρ ρ'):=⟨M'.le_refl,fun r i hi=>⟨i,by rw[joinR_in (hKd r i hi)];exact hi,Nat.le_refl _,fun _=>rfl,fun _=>rfl⟩⟩
 have hrl:Rle M M' ρ (joinR K ρ ρ'):=⟨hr.le,fun r i hi=>by
  cases hm:memN r K with
  |true=>
   obtain⟨i',h1,h2⟩:=hr.ext r i (by rw[keepR_in hm];exact hi)
   exact⟨i',by rw[joinR_in hm];exact h1,h2⟩
  |false=>exact⟨i,by rw[joinR_out hm];exact hi,Nat.le_refl _,fun _=>rfl,fun _=>rfl⟩⟩
 have mineK:∀{i:Inf} {o:IObj} {b:Nat},ObjOk ⟨SK R ρ ob,r0⟩ w M' ρ' w' i o→blk i o b→S b∨wl.heap.size≤b:=fun hok hl=>by
  rcases(blk_mine hok hl).1 with hs|hs
  ·exact(SK_mine h hs).1
  ·exact .inr (Nat.le_trans h.size hs)
 have notK:∀{r:Nat} {i:Inf} {o:IObj} {b:Nat},memN r R=false→ρ r=some i→ob r=some o→blk i o b→¬SK R ρ ob b:=fun{r i o b} hm hi ho hl ⟨r1,i1,o1,h1,h2,h3,h4⟩=>by
  obtain rfl:=h.inj r1 r o1 o i1 i b h3 ho h2 hi h4 hl
  rw[hm]at h1;cases h1
 --an object beside R:as it was
 have beside:∀r o,memN r R=false→ob r=some o→∃i,ρ r=some i∧joinR K ρ ρ' r=some i∧ObjOk S wl M ρ w i o:=fun r o hmr ho=>by
  obtain⟨i,hi,hok⟩:=h.own r o ho
  refine⟨i,hi,?_,hok⟩
  cases hm:memN r K with
  |true=>
   obtain⟨j,h1,h2⟩:=same r o hm hmr ho
   rw[hi]at h1;cases h1
   rw[joinR_in hm];exact h2
  |false=>rw[joinR_out hm];exact hi
 refine⟨hrl,⟨Nat.le_trans h.size h'.size,h'.os.trans h.os,h'.tape.trans h.tape,h'.output.trans h.output,fun k hk' hS=> ?_,h'.sits,Mem.le_trans h.le h'.le,⟨h'.gl.ok,h.gl.off,h.gl.sz⟩,fun b c hb hlt=> ?_,fun r o ho=> ?_,fun r i hi=> ?_,?_,?_⟩,e2⟩
 ·rw[h'.old k (by have:=h.size;omega) (fun hs=>(SK_mine h hs).1.elim hS (fun h1=>by omega))]
  exact h.old k hk' hS
 ·rcases h'.new b c hb (by have:=h.size;omega) with h1|h1
  ·exact h.new b c h1 hlt
  ·rcases(SK_mine h h1).1 with h2|h2
   ·exact .inr h2
   ·omega
 ·cases hmr:memN r R with
  |true=>
   have hm:=hsub r hmr
   rw[←hin r hmr]at ho
   obtain⟨i,hi,hok⟩:=h'.own r o ho
   refine⟨i,by rw[joinR_in hm];exact hi,?_⟩
   have hM:live i o→S i.b∨wl.heap.size≤i.b:=fun hl=>mineK hok (blk_live hl)
   cases o with
   |tree g e sz shs es hh=>exact ObjOk.tree hok (fun b hb=>mineK hok hb) (fun k cs _ us hr=>RelVs.mono e2 _ hr)
   |box te cs=>
    obtain⟨h0,h1,us,e,h2,h3,h4⟩:=hok
    exact⟨h0,⟨hM trivial,h1.2⟩,us,e,h2,RelVs.mono e2 _ h3,h4⟩
   |buf g e sz es=>
    obtain⟨h0,hg,hs,hn,ht,hx,h1⟩:=hok
    refine⟨h0,hg,hs,hn,ht,hx,fun hp=> ?_⟩
    obtain⟨h1,rest⟩:=h1 hp
    exact⟨⟨hM hp,h1.2⟩,rest⟩
   |fzs g sz es=>exact hok
   |fzb cs=>
    obtain⟨h0,c0,us,h1,hP,h2,h3⟩:=hok
    exact⟨h0,c0,us,h1,hP,RelVs.mono e2 _ h2,h3⟩
   |mapo kk ag sz es=>
    obtain⟨h0,h1,rest⟩:=hok
    exact⟨h0,⟨hM trivial,h1.2⟩,rest⟩
   |raw b x=>
    obtain⟨h0,e,h1,h2⟩:=hok
    exact⟨h0,e,⟨hM trivial,h1.2⟩,h2⟩
   |frn q=>
    exfalso
    have h1:=wrO_frn wr hk ho
    rw[keepO_in hm hmr]at h1
    have:=hc r _ hmr h1
    cases this
  |false=>
   rw[wrO_out wr hk hmr]at ho
   obtain⟨i,hi,hj,hok⟩:=beside r o hmr ho
   refine⟨i,hj,hok.mono hrl (fun y hl=> ?_) (fun y hl=>h'.old _ (blk_mine hok hl).2 (notK hmr hi ho hl))⟩
   cases hM:M' y with
   |none=>
    cases hm0:M y with
    |none=>rfl
    |some c=>obtain⟨c',h3,_⟩:=h'.le _ _ hm0;rw[hM]at h3;cases h3
   |some c=>
    rcases h'.new _ _ hM (blk_mine hok hl).2 with h1|h1
    ·exact h1.symm
    ·exact absurd h1 (notK hmr hi ho hl)
 ·cases hm:memN r K with
  |true=>
   rw[joinR_in hm]at hi
   obtain⟨o,ho⟩:=h'.dom r i hi
   cases hmr:memN r R with
   |true=>exact⟨o,by rw[←hin r hmr];exact ho⟩
   |false=>
    rw[wrO_out wr hk hmr]at ho⊢
    obtain⟨_,⟨h1,_⟩|⟨_,_,x,hx⟩⟩:=keepO_some ho
    ·rw[hmr]at h1;cases h1
    ·exact⟨x,hx⟩
  |false=>
   rw[joinR_out hm]at hi
   obtain⟨o,ho⟩:=h.dom r i hi
   have hmr:memN r R=false:=by
    cases hmr:memN r R with
    |false=>rfl
    |true=>rw[hsub r hmr]at hm;cases hm
   exact⟨o,by rw[wrO_out wr hk hmr];exact ho⟩
 ·have mix:∀{r r':Nat} {o o':IObj} {i i':Inf} {b:Nat},memN r R=true→memN r' R=false→wrO ob wr r=some o→wrO ob wr r'=some o'→joinR K ρ ρ' r=some i→joinR K ρ ρ' r'=some i'→blk i o b→blk i' o' b→False:=fun{r r' o o' i i' b} hm hm' h1 h2 h3 h4 l1 l2=>by
   rw[←hin r hm]at h1
   rw[wrO_out wr hk hm']at h2
   rw[joinR_in (hsub r hm)]at h3
   obtain⟨i1,h5,h6⟩:=h'.own r o h1
   rw[h3]at h5;cases h5
   obtain⟨i2,h7,h8,h9⟩:=beside r' o' hm' h2
   rw[h4]at h8;cases h8
   rcases(blk_mine h6 l1).1 with hs|hs
   ·exact notK hm' h7 h2 l2 hs
   ·have:=(blk_mine h9 l2).2;omega
  intro r r' o o' i i' b h1 h2 h3 h4 l1 l2
  cases hm:memN r R with
  |true=>
   cases hm':memN r' R with
   |true=>
    rw[←hin r hm]at h1;rw[←hin r' hm']at h2
    rw[joinR_in (hsub r hm)]at h3;rw[joinR_in (hsub r' hm')]at h4
    exact h'.inj r r' o o' i i' b h1 h2 h3 h4 l1 l2
   |false=>exact(mix hm hm' h1 h2 h3 h4 l1 l2).elim
  |false=>
   cases hm':memN r' R with
   |true=>exact(mix hm' hm h2 h1 h4 h3 l2 l1).elim
   |false=>
    rw[wrO_out wr hk hm]at h1;rw[wrO_out wr hk hm']at h2
    obtain⟨_,q1,q2,_⟩:=beside r o hm h1
    obtain⟨_,q3,q4,_⟩:=beside r' o' hm' h2
    rw[h3]at q2;cases q2
    rw[h4]at q4;cases q4
    exact h.inj r r' o o' i i' b h1 h2 q1 q3 l1 l2
 ·intro r i hb hi
  obtain⟨j,h1,h2⟩:=h.held r i hb hi
  obtain⟨k,h3,h4⟩:=hrl.ext r j h1
  exact⟨k,h3,h2.trans h4⟩
end
end Go.Proofs.YtfgbhfphjmmiaaaGreatDoor.Kx
end
section
namespace Go.Proofs.YtfgbhfphjmmiaaaGreatDoor.Kx
open Go Go.RowKit
structure Dlt where
 rs:List Nat
 K:List Nat
 R:List Nat
 g0:Nat→V
 ob0:Nat→Option IObj
 dst:Option Nat
 v:V
 wr:Wr
structure Keys where
 rs:List Nat
 K:List Nat
 R:List Nat
 ws:List Nat
 nw:List Nat
 dst:Option Nat
def wkeys:Wr→List Nat
 |[]=>[]
 |(d,_)::l=>d::wkeys l
def newK(ob:Nat→Option IObj):Wr→List Nat
 |[]=>[]
 |(d,_)::l=>match ob d with|some _=>newK ob l|none=>d::newK ob l
def keysOf(δ:Dlt):Keys:=⟨δ.rs,δ.K,δ.R,wkeys δ.wr,newK δ.ob0 δ.wr,δ.dst⟩
def WOk(δ:Dlt):Prop:=∀x∈wkeys δ.wr,memN x δ.R=true
theorem newK_some{ob:Nat→Option IObj}:∀{wr:Wr} {x:Nat},x∈wkeys wr→x∉newK ob wr→∃o,ob x=some o
 |[],_,h,_=>by cases h
 |(d,o)::wr,x,h,hn=>by
  unfold newK at hn
  split at hn
  ·rename_i y hy
   rcases List.mem_cons.1 h with rfl|h
   ·exact⟨y,hy⟩
   ·exact newK_some h hn
  ·rcases List.mem_cons.1 h with rfl|h
   ·exact absurd List.mem_cons_self hn
   ·exact newK_some h (fun hm=>hn (List.mem_cons_of_mem _ hm))
def updG(g:Nat→V)(d:Option Nat)(v:V):Nat→V:=match d with
 |none=>g
 |some d=>fun t=>match Nat.beq t d with|true=>v|false=>g t
def App(δ:Dlt)(g:Nat→V)(ob:Nat→Option IObj):Prop:=(∀t,memN t δ.rs=true→g t=δ.g0 t)∧(∀r,memN r δ.R=true→ob r=δ.ob0 r)∧∀r,memN r δ.K=true→(ob r).isSome=(δ.ob0 r).isSome
def disj:List Nat→List Nat→Bool
 |[],_=>true
 |x::l,m=>match memN x m with|true=>false|false=>disj l m
def dstOut:Option Nat→List Nat→Bool
 |none,_=>true
 |some d,m=>match memN d m with|true=>false|false=>true
def dstNe:Option Nat→Option Nat→Bool
 |some a,some b=>match Nat.beq a b with|true=>false|false=>true
 |_,_=>true
def indepK(a b:Keys):Bool:=match dstOut a.dst b.rs,dstOut b.dst a.rs,dstNe a.dst b.dst,disj a.ws b.R,disj b.ws a.R,disj a.ws b.ws with
 |true,true,true,true,true,true=>match disj a.nw b.K,disj b.nw a.K with|true,true=>true|_,_=>false
 |_,_,_,_,_,_=>false
theorem indepK_spec{a b:Keys}(h:indepK a b=true):dstOut a.dst b.rs=true∧dstOut b.dst a.rs=true∧dstNe a.dst b.dst=true∧disj a.ws b.R=true∧disj b.ws a.R=true∧disj a.ws b.ws=true∧disj a.nw b.K=true∧disj b.nw a.K=true:=by
 unfold indepK at h
 split at h
 ·rename_i h1 h2 h3 h4 h5 h6
  split at h
  ·rename_i h7 h8;exact⟨h1,h2,h3,h4,h5,h6,h7,h8⟩
  ·cases h
 ·cases h
theorem disj_spec:∀{l m:List Nat},disj l m=true→∀x∈l,memN x m=false
 |[],_,_,x,hx=>by cases hx
 |y::l,m,h,x,hx=>by
  unfold disj at h
  split at h
  ·cases h
  ·rename_i hb
   rcases List.mem_cons.1 hx with rfl|hx
   ·exact hb
   ·exact disj_spec h x hx
theorem memN_of:∀{l:List Nat} {n:Nat},n∈l→memN n l=true
 |[],_,h=>by cases h
 |m::l,n,h=>by
  unfold memN
  rcases List.mem_cons.1 h with rfl|h
  ·rw[Nat.beq_refl]
  ·split
   ·rfl
   ·exact memN_of h
theorem wrO_not:∀{wr:Wr} {ob:Nat→Option IObj} {r:Nat},r∉wkeys wr→wrO ob wr r=ob r
 |[],_,_,_=>rfl
 |(d,o)::wr,ob,r,h=>by
  simp only[wrO]
  rw[wrO_not (fun hm=>h (List.mem_cons_of_mem _ hm)),updO_ne]
  exact fun e=>h (by rw[e];exact List.mem_cons_self)
theorem wrO_yes:∀{wr:Wr} {ob ob':Nat→Option IObj} {r:Nat},r∈wkeys wr→wrO ob wr r=wrO ob' wr r
 |[],_,_,_,h=>by cases h
 |(d,o)::wr,ob,ob',r,h=>by
  simp only[wrO]
  by_cases hm:r∈wkeys wr
  ·exact wrO_yes hm
  ·rcases List.mem_cons.1 h with rfl|h
   ·rw[wrO_not hm,wrO_not hm,updO_same,updO_same]
   ·exact absurd h hm
theorem wrO_isSome:∀{wr:Wr} {ob:Nat→Option IObj} {r:Nat},r∈wkeys wr→(wrO ob wr r).isSome=true
 |[],_,_,h=>by cases h
 |(d,o)::wr,ob,r,h=>by
  simp only[wrO]
  by_cases hm:r∈wkeys wr
  ·exact wrO_isSome hm
  ·rcases List.mem_cons.1 h with rfl|h
   ·rw[wrO_not hm,updO_same];rfl
   ·exact absurd h hm
theorem wrO_comm{a b:Wr}(h:disj (wkeys a) (wkeys b)=true)(ob:Nat→Option IObj):wrO (wrO ob a) b=wrO (wrO ob b) a:=by
 funext r
 by_cases ha:r∈wkeys a
 ·have hb:r∉wkeys b:=fun hb=>by have:=disj_spec h r ha;rw[memN_of hb]at this;cases this
  rw[wrO_not hb]
  exact wrO_yes ha
 ·rw[wrO_not (wr:=a) ha]
  by_cases hb:r∈wkeys b
  ·exact wrO_yes hb
  ·rw[wrO_not hb,wrO_not hb,wrO_not ha]
theorem updG_comm{a b:Option Nat}(h:dstNe a b=true)(g:Nat→V)(u v:V):updG (updG g a u) b v=updG (updG g b v) a u:=by
 cases a with
 |none=>rfl
 |some a=>
  cases b with
  |none=>rfl
  |some b=>
   funext t
   simp only[updG]
   cases h1:Nat.beq t a<;>cases h2:Nat.beq t b<;>simp only
   obtain rfl:=Nat.eq_of_beq_eq_true h1
   obtain rfl:=Nat.eq_of_beq_eq_true h2
   simp[dstNe]at h
theorem updG_out{d:Option Nat}{rs:List Nat}(h:dstOut d rs=true)(g:Nat→V)(v:V){t:Nat}(ht:memN t rs=true):updG g d v t=g t:=by
 cases d with
 |none=>rfl
 |some d=>
  simp only[updG]
  cases hb:Nat.beq t d with
  |true=>
   obtain rfl:=Nat.eq_of_beq_eq_true hb
   simp[dstOut,ht]at h
  |false=>rfl
theorem wrO_disj{wr:Wr}{K:List Nat}(h:disj (wkeys wr) K=true){ob:Nat→Option IObj}{r:Nat}(hr:memN r K=true):wrO ob wr r=ob r:=
 wrO_not fun hm=>by have:=disj_spec h r hm;rw[hr]at this;cases this
theorem App.post{a b:Dlt}(h:indepK (keysOf a) (keysOf b)=true)(hw:WOk a){g:Nat→V}{ob:Nat→Option IObj}(ha:App a g ob):App b (updG g a.dst a.v) (wrO ob a.wr)↔App b g ob:=by
 obtain⟨h1,_,_,h4,_,_,h7,_⟩:=indepK_spec h
 have h1:dstOut a.dst b.rs=true:=h1
 have h4:disj (wkeys a.wr) b.R=true:=h4
 have h7:disj (newK a.ob0 a.wr) b.K=true:=h7
 have key:∀r,memN r b.K=true→(wrO ob a.wr r).isSome=(ob r).isSome:=fun r hr=>by
  by_cases hm:r∈wkeys a.wr
  ·have hn:r∉newK a.ob0 a.wr:=fun hn=>by have:=disj_spec h7 r hn;rw[hr]at this;cases this
   obtain⟨o,ho⟩:=newK_some hm hn
   rw[wrO_isSome hm,ha.2.1 r (hw r hm),ho];rfl
  ·rw[wrO_not hm]
 constructor
 ·exact fun⟨p,q,s⟩=>⟨fun t ht=>by rw[←p t ht,updG_out h1 g a.v ht],fun r hr=>by rw[←q r hr,wrO_disj h4 hr],fun r hr=>by rw[←s r hr,key r hr]⟩
 ·exact fun⟨p,q,s⟩=>⟨fun t ht=>by rw[updG_out h1 g a.v ht,p t ht],fun r hr=>by rw[wrO_disj h4 hr,q r hr],fun r hr=>by rw[key r hr,s r hr]⟩
theorem dstNe_symm:∀{a b:Option Nat},dstNe a b=true→dstNe b a=true
 |none,none,_=>rfl
 |none,some _,_=>rfl
 |some _,none,_=>rfl
 |some x,some y,h=>by
  simp only[dstNe]at h⊢
  cases h1:Nat.beq y x with
  |false=>rfl
  |true=>obtain rfl:=Nat.eq_of_beq_eq_true h1;rw[Nat.beq_refl]at h;cases h
theorem disj_symm{a b:List Nat}(h:disj a b=true):disj b a=true:=by
 have:∀l:List Nat,(∀x∈l,memN x a=false)→disj l a=true:=fun l=>by
  induction l with
  |nil=>exact fun _=>rfl
  |cons x l ih=>exact fun hx=>by unfold disj;rw[hx x List.mem_cons_self];exact ih fun y hy=>hx y (List.mem_cons_of_mem _ hy)
 refine this _ fun x hx=> ?_
 cases hm:memN x a with
 |false=>rfl
 |true=>have:=disj_spec h x (memN_spec hm);rw[memN_of hx]at this;cases this
theorem indepK_symm{a b:Keys}(h:indepK a b=true):indepK b a=true:=by
 obtain⟨h1,h2,h3,h4,h5,h6,h7,h8⟩:=indepK_spec h
 simp only[indepK,h2,h1,dstNe_symm h3,h5,h4,disj_symm h6,h8,h7]
def RunR:List (Nat×Dlt)→(Nat→V)→(Nat→Option IObj)→(Nat→V)→(Nat→Option IObj)→Prop
 |[],g,ob,gE,obE=>g=gE∧ob=obE
 |(_,δ)::R,g,ob,gE,obE=>App δ g ob∧RunR R (updG g δ.dst δ.v) (wrO ob δ.wr) gE obE
theorem RunR.front{i:Nat}{δ:Dlt}{B:List (Nat×Dlt)}{gE:Nat→V}{obE:Nat→Option IObj}:∀(A:List (Nat×Dlt)) {g:Nat→V} {ob:Nat→Option IObj},(∀a∈A,indepK (keysOf a.2) (keysOf δ)=true)→(∀a∈A,WOk a.2)→WOk δ→
 RunR (A++(i,δ)::B) g ob gE obE→App δ g ob∧RunR (A++B) (updG g δ.dst δ.v) (wrO ob δ.wr) gE obE
 |[],_,_,_,_,_,h=>h
 |(j,a)::A,g,ob,hi,hwa,hwd,h=>by
  have h0:=hi (j,a) List.mem_cons_self
  obtain⟨ha,h1⟩:=h
  obtain⟨h2,h3⟩:=RunR.front A (fun x hx=>hi x (List.mem_cons_of_mem _ hx)) (fun x hx=>hwa x (List.mem_cons_of_mem _ hx)) hwd h1
  have hd:=(App.post h0 (hwa _ List.mem_cons_self) ha).1 h2
  refine⟨hd,(App.post (indepK_symm h0) hwd hd).2 ha,?_⟩
  obtain⟨_,_,e1,_,_,e2,_,_⟩:=indepK_spec h0
  rw[←updG_comm (a:=a.dst) (b:=δ.dst) e1,←wrO_comm (a:=a.wr) (b:=δ.wr) e2]
  exact h3
def edgesL:List Edge→List Nat
 |[]=>[]
 |e::l=>match Region.binds .any e with|true=>e.on::edgesL l|false=>edgesL l
def prd(l:List Oper)(b:Nat):List Nat:=match opAt l b with|some o=>edgesL o.after.toList|none=>[]
def anyB(p:Nat→Bool):List Nat→Bool
 |[]=>false
 |x::l=>match p x with|true=>true|false=>anyB p l
def ordB(l:List Oper):Nat→Nat→Nat→Bool
 |0,_,_=>false
 |n+1,a,b=>match memN a (prd l b) with|true=>true|false=>anyB (fun k=>match Nat.blt a k with|true=>ordB l n a k|false=>false) (prd l b)
theorem edgesL_mem:∀{es:List Edge} {p:Nat},p∈edgesL es↔∃e∈es,Region.binds .any e=true∧e.on=p
 |[],p=>by simp[edgesL]
 |e::l,p=>by
  unfold edgesL
  have ih:=edgesL_mem (es:=l) (p:=p)
  split
  ·rename_i hb
   constructor
   ·intro h
    rcases List.mem_cons.1 h with rfl|h
    ·exact⟨e,List.mem_cons_self,hb,rfl⟩
    ·obtain⟨x,h1,h2⟩:=ih.1 h;exact⟨x,List.mem_cons_of_mem _ h1,h2⟩
   ·rintro ⟨x,h1,h2,h3⟩
    rcases List.mem_cons.1 h1 with rfl|h1
    ·rw[←h3];exact List.mem_cons_self
    ·exact List.mem_cons_of_mem _ (ih.2 ⟨x,h1,h2,h3⟩)
  ·rename_i hb
   constructor
   ·intro h;obtain⟨x,h1,h2⟩:=ih.1 h;exact⟨x,List.mem_cons_of_mem _ h1,h2⟩
   ·rintro ⟨x,h1,h2,h3⟩
    rcases List.mem_cons.1 h1 with rfl|h1
    ·rw[hb]at h2;cases h2
    ·exact ih.2 ⟨x,h1,h2,h3⟩
theorem prd_mem{l:List Oper}{b p:Nat}{o:Oper}(ho:opAt l b=some o):p∈prd l b↔∃e∈o.after,Region.binds .any e=true∧e.on=p:=by
 unfold prd
 rw[ho]
 simp only[edgesL_mem,Array.mem_toList_iff]
def Closed(l:List Oper)(listed:Array Bool):Prop:=∀k o,opAt l k=some o→listed.getD k false=true→∀p∈prd l k,listed.getD p false=true
theorem anyB_spec{p:Nat→Bool}:∀{l:List Nat},anyB p l=true→∃x∈l,p x=true
 |[],h=>by cases h
 |x::l,h=>by
  unfold anyB at h
  split at h
  ·rename_i hb;exact⟨x,List.mem_cons_self,hb⟩
  ·obtain⟨y,h1,h2⟩:=anyB_spec h;exact⟨y,List.mem_cons_of_mem _ h1,h2⟩
theorem ordB_spec{l:List Oper}{listed:Array Bool}(hc:Closed l listed):∀{n a b:Nat},ordB l n a b=true→(∀p∈prd l b,listed.getD p false=true)→listed.getD a false=true
 |0,_,_,h,_=>by cases h
 |n+1,a,b,h,hp=>by
  unfold ordB at h
  split at h
  ·rename_i hm;exact hp a (memN_spec hm)
  ·obtain⟨k,h1,h2⟩:=anyB_spec h
   have h2:ordB l n a k=true:=by
    revert h2
    cases Nat.blt a k with
    |true=>exact id
    |false=>intro h;cases h
   refine ordB_spec hc h2 fun p hpk=> ?_
   cases ho:opAt l k with
   |none=>unfold prd at hpk;rw[ho]at hpk;cases hpk
   |some o=>exact hc k o ho (hp k h1) p hpk
theorem opAt_lt{l:List Oper}{j:Nat}{o:Oper}(h:opAt l j=some o):j<l.length:=by
 rcases Nat.lt_or_ge j l.length with h'|h'
 ·exact h'
 ·have:=opAt_eq l j;rw[h]at this;simp[List.getElem?_eq_none h']at this
theorem getD_tf{listed:Array Bool}{a:Nat}(h:listed.getD a false=true):listed.getD a true=true:=by
 rcases Nat.lt_or_ge a listed.size with h'|h'
 ·simp[h']at h⊢;exact h
 ·simp[Array.getElem?_eq_none h']at h
theorem getD_ft{listed:Array Bool}{a:Nat}(hl:a<listed.size)(h:listed.getD a true=true):listed.getD a false=true:=by
 simp[hl]at h⊢;exact h
structure AbsF(S:Hand)(wl:World)(M0 M:Mem)(ρ:Rho)(N:Nat)(g:Nat→V)(ob:Nat→Option IObj)(f:Nat→Value)(w:World):Prop where
 ow:Ow S wl M0 M ρ ob w
 sl:∀t,t<N→RelV M ρ (g t) (f t)
def DOk(r:Option Nat)(P:Program)(N:Nat)(ds:List Deferred)(all:List Oper)(o:Oper)(δ:Dlt):Prop:=
 ∀S wl M0 M ρ g ob f w,AbsF S wl M0 M ρ N g ob f w→App δ g ob→∀(K:Act→World→Prop) (Q:Exit→Act→World→Prop),
  (∀M' ρ' f' w',AbsF S wl M0 M' ρ' N (updG g δ.dst δ.v) (wrO ob δ.wr) f' w'→K (fr N f' ds) w')→
  if Region.wanted o (yielded all.toArray (fr N f ds).tmps)=true then o.wpIn (WF r) 0 P (fr N f ds) w K Q else K ((fr N f ds).put o.dst undef) w
section
variable {r:Option Nat} {P:Program} {N:Nat} {ds:List Deferred} {l:List Oper} {S:Hand} {wl:World} {M0:Mem} {gE:Nat→V} {obE:Nat→Option IObj} {Q:Exit→Act→World→Prop} {F:Nat}
def Rel2(l:List Oper)(F:Nat)(a b:Nat×Dlt):Prop:=ordB l F a.1 b.1=true∨indepK (keysOf a.2) (keysOf b.2)=true
theorem any_run(hback:∀j o,opAt l j=some o→∀p∈prd l j,p<j)(hE:∀M ρ f w,AbsF S wl M0 M ρ N gE obE f w→Q .normal (fr N f ds) w):
 ∀(n:Nat) (R:List (Nat×Dlt)) (listed:Array Bool) (M:Mem) (ρ:Rho) (g:Nat→V) (ob:Nat→Option IObj) (f:Nat→Value) (w:World),R.length=n→R.Pairwise (fun a b=>a.1<b.1)→
  listed.size=l.length→(∀j,listed.getD j true=false↔∃x∈R,x.1=j)→(∀x∈R,∃o,opAt l x.1=some o∧DOk r P N ds l o x.2∧WOk x.2)→R.Pairwise (Rel2 l F)→Closed l listed→
  AbsF S wl M0 M ρ N g ob f w→RunR R g ob gE obE→wpAnyIn (WF r) 0 P .any l.toArray Q n listed (fr N f ds) w:=by
 have nored:∀{listed:Array Bool} {R:List (Nat×Dlt)} {x:Nat×Dlt},listed.size=l.length→R.Pairwise (fun a b=>a.1<b.1)→(∀j,listed.getD j true=false↔∃x∈R,x.1=j)→(∀x∈R,∃o,opAt l x.1=some o∧DOk r P N ds l o x.2∧WOk x.2)→x∈R.head?→x.1∈Region.ready .any l.toArray listed:=fun{listed R x} hsz hs hl ho hx=>by
  cases R with
  |nil=>cases hx
  |cons y R=>
   simp only[List.head?_cons,Option.mem_def,Option.some.injEq]at hx
   subst hx
   obtain⟨o,ho,_⟩:=ho y List.mem_cons_self
   refine mem_ready.2 ⟨(hl y.1).2 ⟨y,List.mem_cons_self,rfl⟩,o,(opAt_eq l y.1).trans ho,fun e he hb=> ?_⟩
   have hlt:=hback y.1 o ho e.on ((prd_mem ho).2 ⟨e,he,hb,rfl⟩)
   have hyl:=opAt_lt ho
   cases hc:listed.getD e.on true with
   |true=>exact getD_ft (by omega) hc
   |false=>
    obtain⟨z,hz,hze⟩:=(hl e.on).1 hc
    rcases List.mem_cons.1 hz with rfl|hz
    ·omega
    ·have:=(List.pairwise_cons.1 hs).1 z hz;omega
 intro n
 induction n with
 |zero=>
  intro R listed M ρ g ob f w hn hs hsz hl ho hp hc ha hr
  obtain rfl:=List.eq_nil_of_length_eq_zero hn
  obtain⟨rfl,rfl⟩:=hr
  refine⟨?_,hE _ _ _ _ ha⟩
  rw[List.eq_nil_iff_forall_not_mem]
  intro j hj
  obtain⟨x,hx,_⟩:=(hl j).1 (mem_ready.1 hj).1
  cases hx
 |succ n ih=>
  intro R listed M ρ g ob f w hn hs hsz hl ho hp hc ha hr
  refine⟨fun h0=> ?_,fun i hi=> ?_⟩
  ·cases R with
   |nil=>cases hn
   |cons x R=>
    have:=nored hsz hs hl ho (x:=x) (by simp)
    rw[h0]at this;cases this
  ·obtain⟨hun,oi,hoi,hall⟩:=mem_ready.1 hi
   rw[opAt_eq]at hoi
   obtain⟨x,hx,rfl⟩:=(hl i).1 hun
   obtain⟨o,hox,hdo,hwx⟩:=ho x hx
   rw[hoi]at hox;cases hox
   obtain⟨A,B,rfl⟩:=List.append_of_mem hx
   have hpre:∀p∈prd l x.1,listed.getD p false=true:=fun p hpp=>by
    obtain⟨e,he,hb,rfl⟩:=(prd_mem hoi).1 hpp
    exact hall e he hb
   have hind:∀a∈A,indepK (keysOf a.2) (keysOf x.2)=true:=fun a haA=>by
    have:=(List.pairwise_append.1 hp).2.2 a haA x List.mem_cons_self
    rcases this with h1|h1
    ·have h2:=ordB_spec hc h1 hpre
     have h3:=(hl a.1).2 ⟨a,List.mem_append_left _ haA,rfl⟩
     rw[getD_tf h2]at h3;cases h3
    ·exact h1
   obtain⟨h1,h2⟩:=RunR.front (i:=x.1) (δ:=x.2) A hind (fun a ha=>by obtain⟨_,_,_,hw⟩:=ho a (List.mem_append_left _ ha);exact hw) hwx hr
   have key:=hdo S wl M0 M ρ g ob f w ha h1 (wpAnyIn (WF r) 0 P .any l.toArray Q n (listed.setIfInBounds x.1 true)) Q (fun M' ρ' f' w' ha'=>by
    refine ih (A++B) _ M' ρ' _ _ f' w' (by simp at hn⊢;omega) ?_ (by simpa using hsz) ?_ ?_ ?_ ?_ ha' h2
    ·exact hs.sublist ((List.sublist_cons_self x B).append_left A)
    ·intro j
     have hlt:x.1<listed.size:=by
      rw[hsz];exact opAt_lt hoi
     by_cases e:x.1=j
     ·subst e
      constructor
      ·intro hh;simp[hlt]at hh
      ·rintro ⟨y,hy,hyx⟩
       exfalso
       have h3:=List.pairwise_append.1 hs
       rcases List.mem_append.1 hy with hy|hy
       ·have:=h3.2.2 y hy x List.mem_cons_self;omega
       ·have:=(List.pairwise_cons.1 h3.2.1).1 y hy;omega
     ·rw[getD_set_ne true e,hl j]
      constructor
      ·rintro ⟨y,hy,rfl⟩
       rcases List.mem_append.1 hy with hy|hy
       ·exact⟨y,List.mem_append_left _ hy,rfl⟩
       ·rcases List.mem_cons.1 hy with rfl|hy
        ·exact absurd rfl e
        ·exact⟨y,List.mem_append_right _ hy,rfl⟩
      ·rintro ⟨y,hy,rfl⟩
       rcases List.mem_append.1 hy with hy|hy
       ·exact⟨y,List.mem_append_left _ hy,rfl⟩
       ·exact⟨y,List.mem_append_right _ (List.mem_cons_of_mem _ hy),rfl⟩
    ·intro y hy
     refine ho y ?_
     rcases List.mem_append.1 hy with hy|hy
     ·exact List.mem_append_left _ hy
     ·exact List.mem_append_right _ (List.mem_cons_of_mem _ hy)
    ·exact hp.sublist ((List.sublist_cons_self x B).append_left A)
    ·intro k o hk hlk p hpp
     by_cases e:x.1=k
     ·subst e
      exact getD_set_true (hpre p hpp)
     ·rw[getD_set_ne false e]at hlk
      exact getD_set_true (hc k o hk hlk p hpp))
   unfold wpOpIn
   rw[opAt_eq,hoi]
   simp only
   split
   ·rename_i hw;rw[if_pos hw]at key;exact key
   ·rename_i hw;rw[if_neg hw]at key;exact⟨fun _ _=>trivial,key⟩
end
end Go.Proofs.YtfgbhfphjmmiaaaGreatDoor.Kx
end
section
namespace Go.Proofs.YtfgbhfphjmmiaaaGreatDoor.Kx
open Go Go.RowKit
def tO:Operand→List Nat→List Nat
 | .tmp t,l=>t::l
 |_,l=>l
def tOs:List Operand→List Nat→List Nat
 |[],l=>l
 |x::xs,l=>tO x (tOs xs l)
def tPs:List (Nat×Operand)→List Nat→List Nat
 |[],l=>l
 |(_,x)::xs,l=>tO x (tPs xs l)
def tOpt:Option Operand→List Nat→List Nat
 |some x,l=>tO x l
 |none,l=>l
def tmpsOp:Op→List Nat
 | .move x| .assign x| .box _ x| .load _ x| .nilCheck x| .unOp _ _ x| .convert _ _ x| .fieldAddr _ x _| .field _ x _| .extract x _=>tO x []
 | .pick c x y=>tO c (tO x (tO y []))
 | .build _ ps=>tPs ps.toList []
 | .buildSlice _ _ ps=>tPs ps.toList []
 | .store _ x y| .binOp _ _ x y _| .indexAddr _ x y| .index _ x y| .makeSlice _ x y| .lookup _ x y _=>tO x (tO y [])
 | .mapUpdate _ m k v=>tO m (tO k (tO v []))
 | .insert _ m k v=>tO m (tO k (tO v []))
 | .makeFunc _ xs ys=>tOs xs.toList (tOs ys.toList [])
 | .slice _ x lo hi mx=>tO x (tOpt lo (tOpt hi (tOpt mx [])))
 | .call c=>match c.callee with
   | .value f=>tO f (tOs c.args.toList [])
   |_=>tOs c.args.toList []
 |_=>[]
def rsOf(all:List Oper)(o:Oper):List Nat:=match o.guard with
 |none=>tmpsOp o.op
 |some (j,_)=>match dstAt all j with|some t=>t::tmpsOp o.op|none=>tmpsOp o.op
mutual
def refsV:V→List Nat→List Nat
 | .ptr r _,l=>r::l
 | .suf r _ _,l=>r::l
 | .osl r _ _ _,l=>r::l
 | .ept r _ _ _,l=>r::l
 | .mp r,l=>r::l
 | .yl r,l=>r::l
 | .fn _ a b,l=>refsVs a (refsVs b l)
 | .agg cs,l=>refsVs cs l
 | .tup vs,l=>refsVs vs l
 |_,l=>l
def refsVs:List V→List Nat→List Nat
 |[],l=>l
 |v::vs,l=>refsV v (refsVs vs l)
end
def refsO:Option IObj→List Nat
 |some (.box te cs)=>refsVs cs []
 |some (.fzb cs)=>refsVs cs []
 |some (.tree _ _ _ _ _ (some (_,cs)))=>refsVs cs []
 |_=>[]
def slotRefs(N:Nat)(sl:Tri):List Nat→List Nat
 |[]=>[]
 |t::l=>refsV (evalV N sl (.tmp t)) (slotRefs N sl l)
def reach(ob:List (Nat×IObj)):Nat→List Nat→List Nat→List Nat
 |0,_,acc=>acc
 |_,[],acc=>acc
 |n+1,r::l,acc=>match memN r acc with
  |true=>reach ob n l acc
  |false=>reach ob n (refsO (obGet ob r)++l) (r::acc)
structure CfgD where
 sl:Tri
 ob:List (Nat×IObj)
 all:List Oper
 rest:List Oper
 ks:List Keys
 td:List It
section
variable (P:Program) (N:Nat)
def dEv(sl:Tri)(K rs:List Nat):Operand→V
 | .tmp t=>match memN t rs with
   |true=>match refsIn K (evalV N sl (.tmp t)) with|true=>evalV N sl (.tmp t)|false=> .undef
   |false=> .undef
 |x=>evalV N sl x
def dOb(ob:List (Nat×IObj))(K R:List Nat):Nat→Option IObj:=keepO K R (obGet ob)
def allClosed(ob:List (Nat×IObj))(K:List Nat):List Nat→Bool
 |[]=>true
 |r::l=>match obGet ob r with
  |some o=>match closedO K o with|true=>allClosed ob K l|false=>false
  |none=>allClosed ob K l
def gdD(ev:Operand→V)(all:List Oper)(o:Oper):Option Bool:=match o.guard with
 |none=>some true
 |some (j,want)=>match dstAt all j with
  |some t=>match ev (.tmp t) with
   | .d (.bool b)=>match b,want with|true,true=>some true|false,false=>some true|_,_=>some false
   | .un=>some false
   |_=>none
  |none=>none
def dstB(o:Oper):Bool:=match o.dst with|none=>true|some d=>Nat.blt d N
def newIds(o:Oper):List Nat:=match o.dst with
 |some d=>match o.op with| .call _=>[d,Nat.add 1100 d,Nat.add 1300 d,Nat.add 1500 d,Nat.add 1700 d]|_=>[d]
 |none=>[]
def kOf(q:CfgD)(o:Oper):List Nat:=reach q.ob 64 (slotRefs N q.sl (rsOf q.all o)) (newIds o)
def dst1(o:Oper):List Nat:=match o.dst with|some d=>[d]|none=>[]
def rOf(q:CfgD)(o:Oper)(K:List Nat):List Nat:=match o.op with
 | .move _| .assign _| .pick .. | .build .. | .extract .. | .field .. | .makeFunc .. | .box .. =>dst1 o
 | .store _ x _| .load _ x=>match evalV N q.sl x with| .ptr r _=>r::dst1 o|_=>K
 | .fieldAddr _ x _| .nilCheck x=>match evalV N q.sl x with| .ptr _ _=>dst1 o|_=>K
 |_=>K
def subN:List Nat→List Nat→Bool
 |[],_=>true
 |x::l,K=>match memN x K with|true=>subN l K|false=>false
theorem subN_spec{K:List Nat}:∀{l:List Nat},subN l K=true→∀r,memN r l=true→memN r K=true
 |[],_,r,h=>by cases h
 |x::l,hs,r,h=>by
  unfold subN at hs
  split at hs
  ·rename_i hx
   unfold memN at h
   split at h
   ·rename_i hb;rw[Nat.eq_of_beq_eq_true hb];exact hx
   ·exact subN_spec hs r h
  ·cases hs
def pairWith(all:List Oper)(b:Keys)(n:Nat):List Keys→Bool
 |[]=>true
 |a::l=>match indepK a b with
  |true=>pairWith all b n l
  |false=>match ordB all 12 l.length n with|true=>pairWith all b n l|false=>false
def dNow(q:CfgD):Res:=match q.rest with
 |o::_=>match kOf N q o with
  |K=>match rsOf q.all o with
   |rs=>match gdD (dEv N q.sl K rs) q.all o,allClosed q.ob K (rOf N q o K),dstB N o with
    |some true,true,true=>evOp P (dOb q.ob K (rOf N q o K)) (o.dst.getD 0) o.type (dEv N q.sl K rs) o.op
    |_,_,_=> .bad
 |_=> .bad
def dGo(q:CfgD)(v:V)(wr:Wr):Option CfgD:=match q.rest with
 |o::rest=>match kOf N q o with
  |K=>match keysIn (rOf N q o K) wr,pairWith q.all ⟨rsOf q.all o,K,rOf N q o K,wkeys wr,newK (obGet q.ob) wr,o.dst⟩ q.ks.length q.ks,subN (rOf N q o K) K with
   |true,true,true=>some ⟨putS N q.sl o.dst v,obWr q.ob wr,q.all,rest,⟨rsOf q.all o,K,rOf N q o K,wkeys wr,newK (obGet q.ob) wr,o.dst⟩::q.ks,q.td⟩
   |_,_,_=>none
 |_=>none
def dSkip(q:CfgD):Option CfgD:=match q.rest with
 |o::rest=>match gdD (dEv N q.sl [] (rsOf q.all o)) q.all o,dstB N o,pairWith q.all ⟨rsOf q.all o,[],[],[],[],o.dst⟩ q.ks.length q.ks with
  |some false,true,true=>some ⟨putS N q.sl o.dst .un,q.ob,q.all,rest,⟨rsOf q.all o,[],[],[],[],o.dst⟩::q.ks,q.td⟩
  |_,_,_=>none
 |_=>none
def advd(q:CfgD):Option CfgD:=match dNow P N q with
 | .ok v wr=>dGo N q v wr
 |_=>dSkip N q
def advdN:Nat→CfgD→CfgD
 |0,q=>q
 |n+1,q=>match advd P N q with
  |some q'=>advdN n q'
  |none=>q
end
def gOf(N:Nat)(sl:Tri):Nat→V:=fun t=>evalV N sl (.tmp t)
def RunD:List Dlt→(Nat→V)→(Nat→Option IObj)→(Nat→V)→(Nat→Option IObj)→Prop
 |[],g,ob,gE,obE=>g=gE∧ob=obE
 |δ::R,g,ob,gE,obE=>App δ g ob∧RunD R (updG g δ.dst δ.v) (wrO ob δ.wr) gE obE
def OkD(r:Option Nat)(P:Program)(N:Nat)(ds:List Deferred)(all:List Oper):List Oper→List Dlt→Prop
 |[],[]=>True
 |o::l,δ::Δ=>(DOk r P N ds all o δ∧WOk δ)∧OkD r P N ds all l Δ
 |_,_=>False
def PW(all:List Oper):List Keys→List Dlt→Prop
 |_,[]=>True
 |ks,δ::Δ=>pairWith all (keysOf δ) ks.length ks=true∧PW all (keysOf δ::ks) Δ
def JD(r:Option Nat)(P:Program)(N:Nat)(ds:List Deferred)(fin:Fin)(q:CfgD):Prop:=
 N≤1024∧(q.sl.ok 10→∃(Δ:List Dlt) (c:Cfg),c.td=q.td∧c.sl.ok 10∧J r P N ds fin c∧RunD Δ (gOf N q.sl) (obGet q.ob) (gOf N c.sl) (obGet c.ob)∧OkD r P N ds q.all q.rest Δ∧PW q.all q.ks Δ)
section
variable {r:Option Nat} {P:Program} {N:Nat} {ds:List Deferred} {fin:Fin} {q:CfgD}
theorem JD_end(hr:q.rest=[])(hk:J r P N ds fin ⟨q.sl,q.ob,q.td⟩):JD r P N ds fin q:=
 ⟨hk.1,fun hok=>⟨[],⟨q.sl,q.ob,q.td⟩,rfl,hok,hk,⟨rfl,rfl⟩,by rw[hr];trivial,trivial⟩⟩
theorem gOf_put{sl:Tri}(hok:sl.ok 10)(hN:N≤1024){d:Option Nat}(hd:∀t,d=some t→Nat.blt t N=true)(v:V):updG (gOf N sl) d v=gOf N (putS N sl d v):=by
 cases d with
 |none=>rfl
 |some d=>
  have hlt:=hd d rfl
  funext t
  simp only[updG,gOf,evalV,putS,hlt]
  cases hb:Nat.beq t d with
  |true=>
   obtain rfl:=Nat.eq_of_beq_eq_true hb
   simp only[hlt,Tri.get_set_same]
  |false=>
   simp only
   split
   ·rename_i ht
    have h1:=nb_lt ht;have h2:=nb_lt hlt
    rw[Tri.get_set_ne _ _ _ _ _ hok (by omega) (by omega) (fun e=>by subst e;rw[Nat.beq_refl]at hb;cases hb)]
   ·rfl
theorem putS_ok{sl:Tri}(hok:sl.ok 10){d:Option Nat}{v:V}:(putS N sl d v).ok 10:=by
 cases d with
 |none=>exact hok
 |some d=>
  simp only[putS]
  split
  ·exact Tri.set_ok _ _ _ _ hok
  ·trivial
theorem JD_cons{o:Oper}{rest:List Oper}(hr:q.rest=o::rest)(hd:dstB N o=true){rs K R:List Nat}{v:V}{wr:Wr}(hdo:DOk r P N ds q.all o ⟨rs,K,R,gOf N q.sl,obGet q.ob,o.dst,v,wr⟩)(hw:∀x∈wkeys wr,memN x R=true)
 (hp:pairWith q.all ⟨rs,K,R,wkeys wr,newK (obGet q.ob) wr,o.dst⟩ q.ks.length q.ks=true) (hk:JD r P N ds fin ⟨putS N q.sl o.dst v,obWr q.ob wr,q.all,rest,⟨rs,K,R,wkeys wr,newK (obGet q.ob) wr,o.dst⟩::q.ks,q.td⟩):JD r P N ds fin q:=by
 refine⟨hk.1,fun hok=> ?_⟩
 obtain⟨Δ,c,h1,h2,h3,h4,h5,h6⟩:=hk.2 (putS_ok hok)
 refine⟨⟨rs,K,R,gOf N q.sl,obGet q.ob,o.dst,v,wr⟩::Δ,c,h1,h2,h3,⟨⟨fun _ _=>rfl,fun _ _=>rfl,fun _ _=>rfl⟩,?_⟩,by rw[hr];exact⟨⟨hdo,hw⟩,h5⟩,hp,h6⟩
 have e:=gOf_put hok hk.1 (d:=o.dst) (fun t ht=>by unfold dstB at hd;rw[ht]at hd;exact hd) v
 simp only at h4⊢
 rw[e,←obGet_wr]
 exact h4
theorem gdD_spec{ev:Operand→V}{M:Mem}{ρ:Rho}{f:Nat→Value}{sl:Tri}{K rs:List Nat}(hev:∀t,RelV M ρ (dEv N sl K rs (.tmp t)) ((fr N f ds).eval (.tmp t))){all:List Oper}{o:Oper}{b:Bool}(hg:gdD (dEv N sl K rs) all o=some b):Region.wanted o (yielded all.toArray (fr N f ds).tmps)=b:=by
 obtain⟨d,op,ty,pos,aft,g⟩:=o
 cases g with
 |none=>simp only[gdD,Option.some.injEq]at hg;subst hg;rfl
 |some p=>
  obtain⟨j,want⟩:=p
  unfold gdD at hg
  dsimp only at hg
  split at hg
  ·rename_i t ht
   have hr:=hev t
   have hlt:∀v,dEv N sl K rs (.tmp t)=v→v≠ .undef→Nat.blt t N=true:=fun v hv hne=>by
    simp only[dEv]at hv
    split at hv
    ·split at hv
     ·simp only[evalV]at hv
      split at hv
      ·assumption
      ·exact absurd hv.symm hne
     ·exact absurd hv.symm hne
    ·exact absurd hv.symm hne
   split at hg
   ·rename_i b' hb
    have hN:=hlt _ hb (by intro e;cases e)
    rw[hb]at hr
    have he:=relV_bool hr
    have hft:f t= .bool b':=by rw[←he,Kx.ev hN rfl]
    rw[wanted_g (yields ht hN hft)]
    cases b'<;>cases want<;>simp at hg⊢<;>first|exact hg|exact hg.symm
   ·rename_i hb
    have hN:=hlt _ hb (by intro e;cases e)
    rw[hb]at hr
    simp only[RelV]at hr
    have hft:f t=undef:=by rw[←hr,Kx.ev hN rfl]
    cases hg
    exact wanted_u (yields_u ht hN hft) want
   ·cases hg
  ·cases hg
theorem dEv_rel{M:Mem}{ρ:Rho}{f:Nat→Value}{g:Nat→V}{sl:Tri}{K rs:List Nat}(h:∀t,t<N→RelV M ρ (g t) (f t))(hg:∀t,memN t rs=true→g t=gOf N sl t)(hG:GlOk M)(x:Operand):RelV M (keepR K ρ) (dEv N sl K rs x) ((fr N f ds).eval x):=by
 cases x with
 |tmp t=>
  simp only[dEv]
  split
  ·rename_i hm
   split
   ·rename_i hr
    have e:=hg t hm
    unfold gOf at e
    by_cases ht:t<N
    ·have hb:Nat.blt t N=true:=by simpa[Nat.blt_eq] using ht
     rw[Kx.ev hb rfl]
     refine refs_rel _ hr ?_
     rw[←e];exact h t ht
    ·have hb:Nat.blt t N=false:=by
      cases hb:Nat.blt t N with
      |true=>exact absurd (nb_lt hb) ht
      |false=>rfl
     simp only[evalV,hb]
     exact relV_undef _
   ·exact relV_undef _
  ·exact relV_undef _
 |const v=>exact valV_rel v
 |func g=>simp only[dEv,evalV,RelV];exact .fnc g
 |global g=>
  simp only[dEv,evalV]
  split
  ·rename_i cs hgl
   obtain⟨us,h1,h2⟩:=hG.d g cs hgl
   simp only[RelV]
   exact⟨g,0,us,rfl,h1,h2⟩
  ·exact relV_undef _
theorem allClosed_spec{ob:List (Nat×IObj)}{K:List Nat}:∀{l:List Nat},allClosed ob K l=true→∀r o,memN r l=true→obGet ob r=some o→closedO K o=true
 |[],_,r,o,h,_=>by cases h
 |x::l,hc,r,o,h,ho=>by
  unfold memN at h
  unfold allClosed at hc
  split at h
  ·rename_i hb
   obtain rfl:=Nat.eq_of_beq_eq_true hb
   rw[ho]at hc
   simp only at hc
   split at hc
   ·assumption
   ·cases hc
  ·split at hc
   ·split at hc
    ·exact allClosed_spec hc r o h ho
    ·cases hc
   ·exact allClosed_spec hc r o h ho
theorem keysIn_mem{R:List Nat}:∀{wr:Wr},keysIn R wr=true→∀x∈wkeys wr,memN x R=true
 |[],_,x,hx=>by cases hx
 |(d,o)::wr,h,x,hx=>by
  unfold keysIn at h
  split at h
  ·cases h
  ·rename_i hd _
   rcases List.mem_cons.1 hx with rfl|hx
   ·exact hd
   ·exact keysIn_mem h x hx
  ·cases h
theorem dok{o:Oper}{K R rs:List Nat}{v:V}{wr:Wr}(hgd:gdD (dEv N q.sl K rs) q.all o=some true)(hcl:allClosed q.ob K R=true)(hsub:subN R K=true)(hd:dstB N o=true)(hk:keysIn R wr=true)
 (heff:∀S wl M0 M ρ f w,Ow S wl M0 M ρ (dOb q.ob K R) w→(∀x,RelV M ρ (dEv N q.sl K rs x) ((fr N f ds).eval x))→EffV r P (fr N f ds) o.op S wl M0 M ρ (dOb q.ob K R) w v wr):
 DOk r P N ds q.all o ⟨rs,K,R,gOf N q.sl,obGet q.ob,o.dst,v,wr⟩:=by
 intro S wl M0 M ρ g ob f w ha happ KK Q hK
 have hev:=fun x=>dEv_rel (N:=N) (ds:=ds) (sl:=q.sl) (K:=K) ha.sl happ.1 ha.ow.gl.ok x
 have hobe:keepO K R ob=dOb q.ob K R:=by
  funext x
  unfold dOb keepO
  split
  ·rename_i hm
   split
   ·rename_i hmr;exact happ.2.1 x hmr
   ·have:=happ.2.2 x hm
    simp only at this
    cases h1:ob x<;>cases h2:obGet q.ob x<;>rw[h1,h2]at this<;>first|rfl|cases this
  ·rfl
 have hcl':=fun x o' (hm:memN x R=true) (ho:ob x=some o')=>allClosed_spec hcl x o' hm ((happ.2.1 x hm).symm.trans ho)
 rw[if_pos (gdD_spec (ev:=dEv N q.sl K rs) (fun t=>hev (.tmp t)) hgd)]
 have hp:=ha.ow.part K R hcl'
 rw[hobe]at hp
 obtain⟨d,op,ty,pos,aft,gg⟩:=o
 refine heff _ _ _ _ _ f w hp hev d ty pos aft gg KK Q fun u w' ⟨M',ρ',h1,h2,h3⟩=> ?_
 rw[←hobe]at h2
 obtain⟨h4,h5,h6⟩:=ha.ow.back hcl' (subN_spec hsub) (fun x i _ _ hi=>(keepR_some hi).2) hk h2 h1
 rw[fr_putd]
 refine hK M' (joinR K ρ ρ') _ w' ⟨h5,fun t ht=> ?_⟩
 cases d with
 |none=>exact RelV.mono h4 _ (ha.sl t ht)
 |some d=>
  simp only[updG]
  cases hb:Nat.beq t d with
  |true=>
   obtain rfl:=Nat.eq_of_beq_eq_true hb
   simp only[upd_same];exact RelV.mono h6 _ h3
  |false=>
   simp only
   rw[upd_ne _ _ (fun e=>by subst e;rw[Nat.beq_refl]at hb;cases hb)]
   exact RelV.mono h4 _ (ha.sl t ht)
theorem dok_skip{o:Oper}{rs:List Nat}(hgd:gdD (dEv N q.sl [] rs) q.all o=some false):DOk r P N ds q.all o ⟨rs,[],[],gOf N q.sl,obGet q.ob,o.dst,.un,[]⟩:=by
 intro S wl M0 M ρ g ob f w ha happ KK Q hK
 have hev:=fun x=>dEv_rel (N:=N) (ds:=ds) (sl:=q.sl) (K:=[]) ha.sl happ.1 ha.ow.gl.ok x
 have hw:=gdD_spec (ev:=dEv N q.sl [] rs) (fun t=>hev (.tmp t)) hgd
 rw[if_neg (by rw[hw];simp),fr_putd]
 refine hK M ρ _ w ⟨ha.ow,fun t ht=> ?_⟩
 obtain⟨d,op,ty,pos,aft,gg⟩:=o
 cases d with
 |none=>exact ha.sl t ht
 |some d=>
  simp only[updG]
  cases hb:Nat.beq t d with
  |true=>
   obtain rfl:=Nat.eq_of_beq_eq_true hb
   simp only[upd_same,RelV]
  |false=>
   simp only
   rw[upd_ne _ _ (fun e=>by subst e;rw[Nat.beq_refl]at hb;cases hb)]
   exact ha.sl t ht
theorem dNow_is(h:dNow P N q≠ .bad):∃o rest,q.rest=o::rest∧gdD (dEv N q.sl (kOf N q o) (rsOf q.all o)) q.all o=some true∧allClosed q.ob (kOf N q o) (rOf N q o (kOf N q o))=true∧dstB N o=true∧
 dNow P N q=evOp P (dOb q.ob (kOf N q o) (rOf N q o (kOf N q o))) (o.dst.getD 0) o.type (dEv N q.sl (kOf N q o) (rsOf q.all o)) o.op:=by
 unfold dNow at h⊢
 split at h
 ·rename_i o rest hr
  simp only at h
  split at h
  ·rename_i h1 h2 h3
   refine⟨o,rest,hr,h1,h2,h3,?_⟩
   simp only[h1,h2,h3]
  ·exact absurd rfl h
 ·exact absurd rfl h
theorem dGo_is{v:V}{wr:Wr}{q':CfgD}{o:Oper}{rest:List Oper}(hr:q.rest=o::rest)(h:dGo N q v wr=some q'):keysIn (rOf N q o (kOf N q o)) wr=true∧pairWith q.all ⟨rsOf q.all o,kOf N q o,rOf N q o (kOf N q o),wkeys wr,newK (obGet q.ob) wr,o.dst⟩ q.ks.length q.ks=true∧subN (rOf N q o (kOf N q o)) (kOf N q o)=true∧q'=⟨putS N q.sl o.dst v,obWr q.ob wr,q.all,rest,⟨rsOf q.all o,kOf N q o,rOf N q o (kOf N q o),wkeys wr,newK (obGet q.ob) wr,o.dst⟩::q.ks,q.td⟩:=by
 unfold dGo at h
 rw[hr]at h
 simp only at h
 split at h
 ·rename_i h1 h2 h3;cases h;exact⟨h1,h2,h3,rfl⟩
 ·cases h
theorem JD_eff{v:V}{wr:Wr}{q':CfgD}(hb:dNow P N q≠ .bad)(hgo:dGo N q v wr=some q')
 (heff:∀(op:Op) (d:Nat) (ty:TypeId) (ob:Nat→Option IObj) (ev:Operand→V),dNow P N q=evOp P ob d ty ev op→∀S wl M0 M ρ f w,Ow S wl M0 M ρ ob w→(∀x,RelV M ρ (ev x) ((fr N f ds).eval x))→EffV r P (fr N f ds) op S wl M0 M ρ ob w v wr) (hk:JD r P N ds fin q'):JD r P N ds fin q:=by
 obtain⟨o,rest,hr,h1,h2,h3,h4⟩:=dNow_is hb
 obtain⟨h5,h6,h7,rfl⟩:=dGo_is hr hgo
 exact JD_cons hr h3 (dok h1 h2 h7 h3 h5 (heff o.op _ _ _ _ h4)) (keysIn_mem h5) h6 hk
theorem JD_adv1{q':CfgD}(h:advd P N q=some q')(hk:JD r P N ds fin q'):JD r P N ds fin q:=by
 unfold advd at h
 have skip:dSkip N q=some q'→JD r P N ds fin q:=fun h=>by
  unfold dSkip at h
  split at h
  ·rename_i o rest hr
   split at h
   ·rename_i h1 h2 h3
    cases h
    exact JD_cons hr h2 (dok_skip h1) (fun x hx=>by cases hx) h3 hk
   ·cases h
  ·cases h
 split at h
 ·rename_i v wr he
  refine JD_eff (by rw[he];intro e;cases e) h (fun op d ty ob ev heq S wl M0 M ρ f w ho hev=> ?_) hk
  have:=evOp_sound (r:=r) (P:=P) (a:=fr N f ds) (op:=op) (d:=d) (ty:=ty) ho hev
  rw[←heq,he]at this
  exact this
 ·exact skip h
theorem JD_adv:∀(n:Nat) {q:CfgD},JD r P N ds fin (advdN P N n q)→JD r P N ds fin q
 |0,_,h=>h
 |n+1,q,h=>by
  unfold advdN at h
  split at h
  ·rename_i c' hc;exact JD_adv1 hc (JD_adv n h)
  ·exact h
def dopt1(P:Program)(N:Nat)(q:CfgD):Option (Option (List Dat)):=match dNow P N q with| .opt1 o _=>some o|_=>none
def dopt2(P:Program)(N:Nat)(q:CfgD):Option (Option (List (List Dat))):=match dNow P N q with| .opt2 o _=>some o|_=>none
def dgoB(N:Nat)(q:CfgD)(v:V)(wr:Wr):Bool:=match dGo N q v wr with|some _=>true|none=>false
def dgo(N:Nat)(q:CfgD)(v:V)(wr:Wr):CfgD:=match dGo N q v wr with|some q'=>q'|none=>q
theorem dgo_is{v:V}{wr:Wr}(h:dgoB N q v wr=true):dGo N q v wr=some (dgo N q v wr):=by
 unfold dgoB at h
 unfold dgo
 split at h
 ·rename_i hq;rw[hq]
 ·cases h
def dok1(P:Program)(N:Nat)(q:CfgD)(x:List Dat):Bool:=match dNow P N q with| .opt1 _ k=>dgoB N q (k x).1 (k x).2|_=>false
def dres1(P:Program)(N:Nat)(q:CfgD)(x:List Dat):CfgD:=match dNow P N q with| .opt1 _ k=>dgo N q (k x).1 (k x).2|_=>q
def dok2(P:Program)(N:Nat)(q:CfgD)(x:List (List Dat)):Bool:=match dNow P N q with| .opt2 _ k=>dgoB N q (k x).1 (k x).2|_=>false
def dres2(P:Program)(N:Nat)(q:CfgD)(x:List (List Dat)):CfgD:=match dNow P N q with| .opt2 _ k=>dgo N q (k x).1 (k x).2|_=>q
theorem JD_opt1{o:Option (List Dat)}(x:List Dat)(ho:dopt1 P N q=some o)(hb:dok1 P N q x=true)(hx:o=some x)(hk:JD r P N ds fin (dres1 P N q x)):JD r P N ds fin q:=by
 unfold dopt1 at ho
 unfold dok1 at hb
 unfold dres1 at hk
 split at ho
 ·rename_i o' k he
  cases ho
  rw[he]at hb hk
  refine JD_eff (by rw[he];intro e;cases e) (dgo_is hb) (fun op d ty ob ev heq S wl M0 M ρ f w ho hev=> ?_) hk
  have:=evOp_sound (r:=r) (P:=P) (a:=fr N f ds) (op:=op) (d:=d) (ty:=ty) ho hev
  rw[←heq,he]at this
  exact this x hx
 ·cases ho
theorem JD_opt2{o:Option (List (List Dat))}(x:List (List Dat))(ho:dopt2 P N q=some o)(hb:dok2 P N q x=true)(hx:o=some x)(hk:JD r P N ds fin (dres2 P N q x)):JD r P N ds fin q:=by
 unfold dopt2 at ho
 unfold dok2 at hb
 unfold dres2 at hk
 split at ho
 ·rename_i o' k he
  cases ho
  rw[he]at hb hk
  refine JD_eff (by rw[he];intro e;cases e) (dgo_is hb) (fun op d ty ob ev heq S wl M0 M ρ f w ho hev=> ?_) hk
  have:=evOp_sound (r:=r) (P:=P) (a:=fr N f ds) (op:=op) (d:=d) (ty:=ty) ho hev
  rw[←heq,he]at this
  exact this x hx
 ·cases ho
def dobNow(N:Nat)(q:CfgD):Nat→Option IObj:=match q.rest with|o::_=>dOb q.ob (kOf N q o) (rOf N q o (kOf N q o))|[]=>fun _=>none
def dcall(P:Program)(N:Nat)(q:CfgD):Option (FuncId×List V):=match dNow P N q with
 | .call g args=>match argsOf (dobNow N q) args with
   |some (xs,_)=>some (g,xs)
   |none=>none
 |_=>none
def dokC(P:Program)(N:Nat)(q:CfgD)(v:V):Bool:=match dNow P N q with
 | .call _ args=>match argsOf (dobNow N q) args with
   |some (_,wr)=>dgoB N q v wr
   |none=>false
 |_=>false
def dresC(P:Program)(N:Nat)(q:CfgD)(v:V):CfgD:=match dNow P N q with
 | .call _ args=>match argsOf (dobNow N q) args with
   |some (_,wr)=>dgo N q v wr
   |none=>q
 |_=>q
theorem JD_callF{g:FuncId}{xs:List V}(ys:List V)(v:V)(hc:dcall P N q=some (g,xs))(hb:dokC P N q v=true)(he:entersT P g)(hre:Res' xs ys)(hcall:CallF P g ys v)(hk:JD r P N ds fin (dresC P N q v)):JD r P N ds fin q:=by
 unfold dcall at hc
 unfold dokC at hb
 unfold dresC at hk
 split at hc
 ·rename_i g' args hev
  split at hc
  ·rename_i xs' wr hargs
   cases hc
   rw[hev]at hb hk
   simp only[hargs]at hb hk
   obtain⟨o,rest,hr,h1,h2,h3,h4⟩:=dNow_is (P:=P) (N:=N) (q:=q) (by rw[hev];intro e;cases e)
   obtain⟨h5,h6,h8,h7⟩:=dGo_is hr (dgo_is hb)
   rw[h7]at hk
   refine JD_cons hr h3 (dok h1 h2 h8 h3 h5 (fun S wl M0 M ρ f w ho hev'=> ?_)) (keysIn_mem h5) h6 hk
   have hob:dobNow N q=dOb q.ob (kOf N q o) (rOf N q o (kOf N q o)):=by unfold dobNow;rw[hr]
   rw[hob]at hargs
   rw[h4]at hev
   obtain⟨vals,h1,h2⟩:=call_eff (r:=r) (w:=w) hev hev' he
   obtain⟨M1,r1,o1,d1⟩:=argsOf_sound ho h1 hargs
   refine h2 _ _ (hcall M1 w vals o1.sits o1.gla (hre.rel (d1 noR))) ?_
   rintro e w' ⟨u,M2,rfl,hext,hv⟩
   obtain⟨h3,h4⟩:=o1.call hext
   exact⟨u,rfl,M2,ρ,r1.trans h3,h4,relV_noR hv⟩
  ·cases hc
 ·cases hc
def putD(q:CfgD)(t:Nat)(v:V):CfgD:=⟨q.sl.set 10 t v,q.ob,q.all,q.rest,q.ks,q.td⟩
theorem JD_known(t:Nat){b v:Bool}(h:b=v)(hb:evalV N q.sl (.tmp t)= .d (.bool b))(hk:JD r P N ds fin (putD q t (.d (.bool v)))):JD r P N ds fin q:=by
 subst h
 have hlt:Nat.blt t N=true:=by
  simp only[evalV]at hb
  split at hb
  ·assumption
  ·cases hb
 refine⟨hk.1,fun hok=> ?_⟩
 obtain⟨Δ,c,h1,h2,h3,h4,h5,h6⟩:=hk.2 (Tri.set_ok _ _ _ _ hok)
 refine⟨Δ,c,h1,h2,h3,?_,h5,h6⟩
 have e:gOf N (putD q t (.d (.bool b))).sl=gOf N q.sl:=by
  funext s
  by_cases hs:s=t
  ·subst hs
   unfold gOf
   rw[hb]
   simp only[evalV,hlt,putD,Tri.get_set_same]
  ·unfold gOf
   simp only[evalV,putD]
   split
   ·rename_i hsN
    have h1:=nb_lt hsN;have h2:=nb_lt hlt;have:=hk.1
    rw[Tri.get_set_ne _ _ _ _ _ hok (by omega) (by omega) (fun e=>hs e.symm)]
   ·rfl
 rw[e]at h4
 exact h4
theorem JD_bool(t:Nat){b:Bool}(hb:evalV N q.sl (.tmp t)= .d (.bool b))(ht:b=true→JD r P N ds fin (putD q t (.d (.bool true))))(hf:b=false→JD r P N ds fin (putD q t (.d (.bool false)))):JD r P N ds fin q:=by
 cases b with
 |true=>exact JD_known t rfl hb (ht rfl)
 |false=>exact JD_known t rfl hb (hf rfl)
def allPrd(l:List Oper):Nat→List Oper→Bool
 |_,[]=>true
 |j,_::rest=>match allLt j (prd l j) with|true=>allPrd l (j+1) rest|false=>false
def idx:Nat→List Dlt→List (Nat×Dlt)
 |_,[]=>[]
 |i,δ::Δ=>(i,δ)::idx (i+1) Δ
theorem idx_run:∀{Δ:List Dlt} {i:Nat} {g:Nat→V} {ob:Nat→Option IObj} {gE:Nat→V} {obE:Nat→Option IObj},RunD Δ g ob gE obE→RunR (idx i Δ) g ob gE obE
 |[],_,_,_,_,_,h=>h
 |_::_,_,_,_,_,_,h=>⟨h.1,idx_run h.2⟩
theorem idx_len:∀{Δ:List Dlt} {i:Nat},(idx i Δ).length=Δ.length
 |[],_=>rfl
 |_::_,_=>by simp only[idx,List.length_cons,idx_len]
theorem idx_mem:∀{Δ:List Dlt} {i:Nat} {x:Nat×Dlt},x∈idx i Δ→i≤x.1∧x.1<i+Δ.length∧Δ[x.1-i]? =some x.2
 |[],_,_,h=>by cases h
 |δ::Δ,i,x,h=>by
  rcases List.mem_cons.1 h with rfl|h
  ·simp
  ·obtain⟨h1,h2,h3⟩:=idx_mem h
   refine⟨by omega,by simp;omega,?_⟩
   obtain⟨k,hk⟩:∃k,x.1=i+1+k:=⟨x.1-(i+1),by omega⟩
   rw[hk]at h3⊢
   rw[show i+1+k-(i+1)=k by omega]at h3
   rw[show i+1+k-i=k+1 by omega]
   exact h3
theorem idx_all:∀{Δ:List Dlt} {i j:Nat},i≤j→j<i+Δ.length→∃x∈idx i Δ,x.1=j
 |[],i,j,h1,h2=>by simp at h2;omega
 |δ::Δ,i,j,h1,h2=>by
  rcases Nat.eq_or_lt_of_le h1 with rfl|h1
  ·exact⟨(i,δ),List.mem_cons_self,rfl⟩
  ·obtain⟨x,hx,he⟩:=idx_all (Δ:=Δ) (i:=i+1) (j:=j) h1 (by simp at h2;omega)
   exact⟨x,List.mem_cons_of_mem _ hx,he⟩
theorem idx_sorted:∀{Δ:List Dlt} {i:Nat},(idx i Δ).Pairwise (fun a b=>a.1<b.1)
 |[],_=>List.Pairwise.nil
 |δ::Δ,i=>List.pairwise_cons.2 ⟨fun x hx=>by have:=(idx_mem hx).1;simp only;omega,idx_sorted⟩
theorem pairWith_mem{all:List Oper}{b:Keys}{n:Nat}{κ:Keys}{ks:List Keys}:∀{A:List Keys},pairWith all b n (A++κ::ks)=true→indepK κ b=true∨ordB all 12 ks.length n=true
 |[],h=>by
  simp only[List.nil_append]at h
  unfold pairWith at h
  split at h
  ·rename_i hi;exact .inl hi
  ·split at h
   ·rename_i ho;exact .inr ho
   ·cases h
 |a::A,h=>by
  simp only[List.cons_append]at h
  unfold pairWith at h
  split at h
  ·exact pairWith_mem h
  ·split at h
   ·exact pairWith_mem h
   ·cases h
theorem PW_rel{all:List Oper}{κ:Keys}{ks:List Keys}:∀{Δ:List Dlt} {A:List Keys},PW all (A++κ::ks) Δ→∀x∈idx (A.length+1+ks.length) Δ,ordB all 12 ks.length x.1=true∨indepK κ (keysOf x.2)=true
 |[],_,_,x,hx=>by cases hx
 |δ::Δ,A,h,x,hx=>by
  rcases List.mem_cons.1 hx with rfl|hx
  ·have:=pairWith_mem h.1
   rw[show(A++κ::ks).length=A.length+1+ks.length by simp;omega]at this
   exact this.symm
  ·have:=PW_rel (A:=keysOf δ::A) (κ:=κ) (ks:=ks) h.2 x (by rw[show(keysOf δ::A).length+1+ks.length=A.length+1+ks.length+1 by simp;omega];exact hx)
   exact this
theorem PW_pair{all:List Oper}:∀{Δ:List Dlt} {ks:List Keys},PW all ks Δ→(idx ks.length Δ).Pairwise (Rel2 all 12)
 |[],_,_=>List.Pairwise.nil
 |δ::Δ,ks,h=>by
  refine List.pairwise_cons.2 ⟨fun x hx=> ?_,PW_pair (ks:=keysOf δ::ks) h.2⟩
  have:=PW_rel (A:=[]) (κ:=keysOf δ) (ks:=ks) h.2 x (by rw[show([]:List Keys).length+1+ks.length=ks.length+1 by simp;omega];exact hx)
  exact this
theorem OkD_get{all:List Oper}:∀{l:List Oper} {Δ:List Dlt},OkD r P N ds all l Δ→l.length=Δ.length∧∀(j:Nat) (δ:Dlt),Δ[j]? =some δ→∃o,opAt l j=some o∧DOk r P N ds all o δ∧WOk δ
 |[],[],_=>⟨rfl,fun j δ h=>by cases j<;>cases h⟩
 |o::l,δ::Δ,h=>by
  obtain⟨h1,h2⟩:=OkD_get h.2
  refine⟨by simp[h1],fun j δ' hj=> ?_⟩
  cases j with
  |zero=>simp at hj;subst hj;exact⟨o,rfl,h.1.1,h.1.2⟩
  |succ j=>simp at hj;exact h2 j δ' hj
 |[],_::_,h=>h.elim
 |_::_,[],h=>h.elim
theorem allPrd_spec{l:List Oper}:∀{rest:List Oper} {j:Nat},allPrd l j rest=true→∀k,j≤k→k<j+rest.length→∀p∈prd l k,p<k
 |[],j,_,k,h1,h2=>by simp at h2;omega
 |_::rest,j,h,k,h1,h2=>by
  unfold allPrd at h
  split at h
  ·rename_i ha
   rcases Nat.eq_or_lt_of_le h1 with rfl|h1
   ·exact allLt_spec ha
   ·exact allPrd_spec h k h1 (by simp at h2;omega)
  ·cases h
def atDraw(c:Cfg):Option CfgD:=match c.td with
 | .code (.region _ ops true)::k=>match allPrd ops.toList 0 ops.toList with
   |true=>some ⟨c.sl,c.ob,ops.toList,ops.toList,[],k⟩
   |false=>none
 |_=>none
def inDraw(c:Cfg):CfgD:=match atDraw c with|some q=>q|none=>⟨c.sl,c.ob,[],[],[],[]⟩
def isDraw(c:Cfg):Bool:=match atDraw c with|some _=>true|none=>false
theorem J_draw{c:Cfg}(hm:P.follows .mixedOrders=true)(hd:isDraw c=true)(hk:JD r P N ds fin (inDraw c)):J r P N ds fin c:=by
 unfold isDraw at hd
 unfold inDraw at hk
 split at hd
 ·rename_i q hq
  rw[hq]at hk
  unfold atDraw at hq
  split at hq
  ·rename_i id ops k ht
   split at hq
   ·rename_i hall
    cases hq
    refine⟨hk.1,fun S wl M0 hH M ρ f w ha=> ?_⟩
    obtain⟨Δ,c',h1,h2,h3,h4,h5,h6⟩:=hk.2 ha.ok
    simp only at h1 h4 h5 h6
    rw[ht]
    simp only[Wk,Exit.then]
    refine W_of ?_
    obtain⟨hlen,hget⟩:=OkD_get h5
    have key:=any_run (r:=r) (P:=P) (N:=N) (ds:=ds) (l:=ops.toList) (S:=S) (wl:=wl) (M0:=M0) (gE:=gOf N c'.sl) (obE:=obGet c'.ob) (Q:=Wk r P (fin S wl M0) k) (F:=12)
     (fun j o ho p hp=>allPrd_spec hall j (Nat.zero_le _) (by have:=opAt_lt ho;omega) p hp)
     (fun M ρ f w ha=>by
      rw[←h1]
      refine h3.2 S wl M0 hH M ρ f w ⟨ha.ow,h2,fun t ht=> ?_⟩
      have:=ha.sl t ht
      unfold gOf at this
      simp only[evalV,show Nat.blt t N=true by simpa[Nat.blt_eq] using ht]at this
      exact this)
     ops.size (idx 0 Δ) (Array.replicate ops.size false) M ρ (gOf N c.sl) (obGet c.ob) f w.drew (by rw[idx_len,←hlen];simp) idx_sorted (by simp)
     (fun j=>by
      constructor
      ·intro hj
       have:j<ops.size:=by
        rcases Nat.lt_or_ge j ops.size with h'|h'
        ·exact h'
        ·simp[h']at hj
       exact idx_all (Nat.zero_le _) (by rw[←hlen];simpa using this)
      ·rintro ⟨x,hx,rfl⟩
       have:=(idx_mem hx).2.1
       rw[←hlen]at this
       simp at this
       simp[this])
     (fun x hx=>by
      obtain⟨_,_,h9⟩:=idx_mem hx
      exact hget _ _ (by simpa using h9))
     (PW_pair (ks:=[]) h6)
     (fun k o _ hl=>by
      exfalso
      rcases Nat.lt_or_ge k ops.size with h'|h'
      ·simp[h']at hl
      ·simp[h']at hl)
     ⟨ha.ow.drew,fun t ht=>by
      unfold gOf
      simp only[evalV,show Nat.blt t N=true by simpa[Nat.blt_eq] using ht]
      exact ha.sl t ht⟩ (idx_run h4)
    have:=wpIn_region_any (F:=WF r) (n:=0) (id:=id) (ops:=ops) hm key
    exact this
   ·cases hq
  ·cases hq
 ·cases hd
end
end Go.Proofs.YtfgbhfphjmmiaaaGreatDoor.Kx
end
section
namespace Go.Proofs.YtfgbhfphjmmiaaaGreatDoor.Kx
open Go Go.RowKit
def lk:List (Nat×Nat)→Nat→Option Nat
 |[],_=>none
 |(a,b)::l,r=>match Nat.beq r a with|true=>some b|false=>lk l r
def inv:List (Nat×Nat)→List (Nat×Nat)
 |[]=>[]
 |(a,b)::l=>(b,a)::inv l
def firsts:List (Nat×Nat)→List Nat
 |[]=>[]
 |(a,_)::l=>a::firsts l
theorem inv_inv:∀(l:List (Nat×Nat)),inv (inv l)=l
 |[]=>rfl
 |(a,b)::l=>by simp only[inv,inv_inv l]
def bijL(p q:List (Nat×Nat)):List (Nat×Nat)→Bool
 |[]=>true
 |(a,b)::l=>match lk p a,lk q b with
  |some x,some y=>match Nat.beq x b,Nat.beq y a with|true,true=>bijL p q l|_,_=>false
  |_,_=>false
def bij(p:List (Nat×Nat)):Bool:=bijL p (inv p) p
theorem lk_mem:∀{l:List (Nat×Nat)} {r s:Nat},lk l r=some s→(r,s)∈l
 |[],_,_,h=>by cases h
 |(a,b)::l,r,s,h=>by
  simp only[lk]at h
  split at h
  ·rename_i hb;cases h;rw[Nat.eq_of_beq_eq_true hb];exact List.mem_cons_self
  ·exact List.mem_cons_of_mem _ (lk_mem h)
theorem inv_mem:∀{l:List (Nat×Nat)} {r s:Nat},(r,s)∈inv l→(s,r)∈l
 |[],_,_,h=>by cases h
 |(a,b)::l,r,s,h=>by
  rcases List.mem_cons.1 h with e|h
  ·cases e;exact List.mem_cons_self
  ·exact List.mem_cons_of_mem _ (inv_mem h)
theorem bijL_spec{p q:List (Nat×Nat)}:∀{l:List (Nat×Nat)},bijL p q l=true→∀a b,(a,b)∈l→lk p a=some b∧lk q b=some a
 |[],_,a,b,h=>by cases h
 |(x,y)::l,h,a,b,hm=>by
  unfold bijL at h
  split at h
  ·rename_i u v h1 h2
   split at h
   ·rename_i h3 h4
    rcases List.mem_cons.1 hm with e|hm
    ·cases e
     rw[Nat.eq_of_beq_eq_true h3]at h1;rw[Nat.eq_of_beq_eq_true h4]at h2
     exact⟨h1,h2⟩
    ·exact bijL_spec h a b hm
   ·cases h
  ·cases h
theorem bij_to{p:List (Nat×Nat)}(h:bij p=true){a b:Nat}(hl:lk p a=some b):lk (inv p) b=some a:=(bijL_spec h a b (lk_mem hl)).2
theorem bij_of{p:List (Nat×Nat)}(h:bij p=true){a b:Nat}(hl:lk (inv p) b=some a):lk p a=some b:=(bijL_spec h a b (inv_mem (lk_mem hl))).1
section
variable (p:List (Nat×Nat))
mutual
def renV:V→V
 | .ptr r k=>match lk p r with|some s=> .ptr s k|none=> .undef
 | .suf r g off=>match lk p r with|some s=> .suf s g off|none=> .undef
 | .osl r g off len=>match lk p r with|some s=> .osl s g off len|none=> .undef
 | .ept r g j k=>match lk p r with|some s=> .ept s g j k|none=> .undef
 | .mp r=>match lk p r with|some s=> .mp s|none=> .undef
 | .yl r=>match lk p r with|some s=> .yl s|none=> .undef
 | .fn f a b=> .fn f (renVs a) (renVs b)
 | .agg cs=> .agg (renVs cs)
 | .tup vs=> .tup (renVs vs)
 | .d x=> .d x
 | .rp cs k=> .rp cs k
 | .esl n=> .esl n
 | .undef=> .undef
 | .un=> .un
def renVs:List V→List V
 |[]=>[]
 |v::l=>renV v::renVs l
end
def renO:IObj→IObj
 | .box te cs=> .box te (renVs p cs)
 | .fzb cs=> .fzb (renVs p cs)
 | .tree g e sz shs es h=> .tree g e sz shs es (match h with|none=>none|some (k,cs)=>some (k,renVs p cs))
 |o=>o
def renR(ρ:Rho):Rho:=fun s=>match lk (inv p) s with|some r=>ρ r|none=>none
def renOb(ob:Nat→Option IObj):Nat→Option IObj:=fun s=>match lk (inv p) s with|some r=>(match ob r with|some o=>some (renO p o)|none=>none)|none=>none
end
theorem renR_at{p:List (Nat×Nat)}{ρ:Rho}{r s:Nat}(hb:bij p=true)(h:lk p r=some s):renR p ρ s=ρ r:=by simp only[renR,bij_to hb h]
section
variable {p:List (Nat×Nat)} {M:Mem} {ρ:Rho}
mutual
theorem ren_rel(hb:bij p=true):∀(v:V) {u:Value},RelV M ρ v u→RelV M (renR p ρ) (renV p v) u
 | .ptr r k,u,hv=>by
   simp only[renV]
   split
   ·rename_i s hs;simp only[RelV,renR_at hb hs]at hv⊢;exact hv
   ·exact relV_undef _
 | .suf r g off,u,hv=>by
   simp only[renV]
   split
   ·rename_i s hs;simp only[RelV,renR_at hb hs]at hv⊢;exact hv
   ·exact relV_undef _
 | .osl r g off len,u,hv=>by
   simp only[renV]
   split
   ·rename_i s hs;simp only[RelV,renR_at hb hs]at hv⊢;exact hv
   ·exact relV_undef _
 | .ept r g j k,u,hv=>by
   simp only[renV]
   split
   ·rename_i s hs;simp only[RelV,renR_at hb hs]at hv⊢;exact hv
   ·exact relV_undef _
 | .mp r,u,hv=>by
   simp only[renV]
   split
   ·rename_i s hs;simp only[RelV,renR_at hb hs]at hv⊢;exact hv
   ·exact relV_undef _
 | .yl r,u,hv=>by
   simp only[renV]
   split
   ·rename_i s hs;simp only[RelV,renR_at hb hs]at hv⊢;exact hv
   ·exact relV_undef _
 | .fn f a b,u,hv=>by
   simp only[renV,RelV]at hv⊢
   obtain⟨fs,cs,e,h1,h2⟩:=hv
   exact⟨fs,cs,e,ren_rels hb a h1,ren_rels hb b h2⟩
 | .agg cs,u,hv=>by simp only[renV,RelV]at hv⊢;obtain⟨us,e,h1⟩:=hv;exact⟨us,e,ren_rels hb cs h1⟩
 | .tup cs,u,hv=>by simp only[renV,RelV]at hv⊢;obtain⟨us,e,h1⟩:=hv;exact⟨us,e,ren_rels hb cs h1⟩
 | .d x,u,hv=>by simp only[renV,RelV]at hv⊢;exact hv
 | .rp cs k,u,hv=>by simp only[renV,RelV]at hv⊢;exact hv
 | .esl n,u,hv=>by simp only[renV,RelV]at hv⊢;exact hv
 | .undef,u,_=>by simp only[renV];exact relV_undef _
 | .un,u,hv=>by simp only[renV,RelV]at hv⊢;exact hv
theorem ren_rels(hb:bij p=true):∀(vs:List V) {us:List Value},RelVs M ρ vs us→RelVs M (renR p ρ) (renVs p vs) us
 |[],us,hv=>by simp only[renVs,RelVs]at hv⊢;exact hv
 |v::l,us,hv=>by
  simp only[renVs,RelVs]at hv⊢
  obtain⟨u,us',e,h1,h2⟩:=hv
  exact⟨u,us',e,ren_rel hb v h1,ren_rels hb l h2⟩
end
end
section
variable {s:Nat→Prop} {r0 r1:Rho} {wl w:World} {M0 M:Mem} {ρ:Rho} {ob:Nat→Option IObj} {p:List (Nat×Nat)}
def isFrn:IObj→Bool
 | .frn _=>true
 |_=>false
theorem renO_frn{o:IObj}:isFrn (renO p o)=isFrn o:=by cases o<;>rfl
theorem renO_live{i:Inf}{o:IObj}:live i (renO p o)=live i o:=by cases o<;>rfl
theorem renO_blk{i:Inf}{o:IObj}{b:Nat}(h:blk i (renO p o) b):blk i o b:=blk_map rfl rfl (by cases o<;>rfl) (by rw[renO_live];exact id) h
theorem renOb_some{t:Nat}{o':IObj}(h:renOb p ob t=some o'):∃r o,lk (inv p) t=some r∧ob r=some o∧o'=renO p o:=by
 unfold renOb at h
 split at h
 ·rename_i r hr
  split at h
  ·rename_i o ho;cases h;exact⟨r,o,hr,ho,rfl⟩
  ·cases h
 ·cases h
theorem Ow.ren(h:Ow ⟨s,r0⟩ wl M0 M ρ ob w)(hb:bij p=true)(hnf:∀r o t,lk p r=some t→ob r=some o→isFrn o=false)(hh:∀t i,Nat.ble 2000 t=true→r1 t=some i→∃i',renR p ρ t=some i'∧Ile i i'):Ow ⟨s,r1⟩ wl M0 M (renR p ρ) (renOb p ob) w:=by
 refine⟨h.size,h.os,h.tape,h.output,h.old,h.sits,h.le,h.gl,h.new,fun t o' ho=> ?_,fun t i hi=> ?_,fun t t' o o' i i' b h1 h2 h3 h4 l1 l2=> ?_,hh⟩
 ·obtain⟨r,o,h1,h2',rfl⟩:=renOb_some ho
  obtain⟨i,hi,hok⟩:=h.own r o h2'
  refine⟨i,by simp only[renR,h1];exact hi,?_⟩
  cases o with
  |box te cs=>
   obtain⟨h0,hm,us,e,h2,h3,h4⟩:=hok
   exact⟨h0,hm,us,e,h2,ren_rels hb cs h3,h4⟩
  |tree g e sz shs es hh=>
   obtain⟨a1,a2,a3,a4,a5,a6,a7,a8,a9,a10⟩:=hok
   refine⟨a1,a2,a3,a4,a5,a6,a7,a8,a9,fun hp=> ?_⟩
   obtain⟨b1,b2,pre,us,sp,b3,b4,b5,b6⟩:=a10 hp
   refine⟨b1,b2,pre,us,sp,b3,b4,b5,b6.mono (fun j x u b _ k=> ?_)⟩
   unfold OwnEl at k⊢
   split at k
   ·exact k
   ·exact⟨fun e=>⟨(k.1 e).1,ren_rels hb _ (k.1 e).2.1,(k.1 e).2.2⟩,k.2⟩
  |buf g e sz es=>exact hok
  |fzs g sz es=>exact hok
  |fzb cs=>
   obtain⟨h0,c0,us,h1,hP,h2,h3⟩:=hok
   exact⟨h0,c0,us,h1,hP,ren_rels hb cs h2,h3⟩
  |mapo kk ag sz es=>exact hok
  |raw b x=>exact hok
  |frn q=>have:=hnf r _ t (bij_of hb h1) h2';cases this
 ·unfold renR at hi
  split at hi
  ·rename_i r hr
   obtain⟨o,ho⟩:=h.dom r i hi
   exact⟨renO p o,by simp only[renOb,hr,ho]⟩
  ·cases hi
 ·obtain⟨r,x,a1,a2,rfl⟩:=renOb_some h1
  obtain⟨r',x',b1,b2,rfl⟩:=renOb_some h2
  simp only[renR,a1]at h3
  simp only[renR,b1]at h4
  obtain rfl:=h.inj r r' x x' i i' b a2 b2 h3 h4 (renO_blk l1) (renO_blk l2)
  have e1:=bij_of hb a1
  have e2:=bij_of hb b1
  rw[e1]at e2;cases e2;rfl
end
def CallR(P:Program)(g:FuncId)(os:List (Nat×IObj))(args:List V)(H:List (Nat×IObj))(v:V):Prop:=
 ∀s wl M0 M ρ w vals,Ow ⟨s,ρ⟩ wl M0 M ρ (obGet os) w→RelVs M ρ args vals→Calls P g vals.toArray w (fun e w'=>∃u M' ρ',e= .returned u∧Ow ⟨s,ρ⟩ wl M0 M' ρ' (obGet H) w'∧RelV M' ρ' v u)
section
variable {r:Option Nat} {P:Program} {N:Nat} {S:Hand} {wl w:World} {M0 M:Mem} {ρ:Rho} {ob:Nat→Option IObj}
def argR(K:List Nat)(ob:Nat→Option IObj)(v:V):Option (V×Wr):=match refsV v [] with
 |[]=>argOf ob v
 |_=>match refsIn K v with|true=>some (v,[])|false=>argOf ob v
def argsR(K:List Nat)(ob:Nat→Option IObj):List V→Option (List V×Wr)
 |[]=>some ([],[])
 |v::l=>match argR K ob v with
  |some (x,wr)=>match argsR K (wrO ob wr) l with
   |some (xs,wr')=>some (x::xs,wr++wr')
   |none=>none
  |none=>none
theorem argR_sound(h:Ow S wl M0 M ρ ob w){K:List Nat}{v x:V}{u:Value}{wr:Wr}(hv:RelV M ρ v u)(hd:argR K ob v=some (x,wr)):∃M',Rle M M' ρ ρ∧Ow S wl M0 M' ρ (wrO ob wr) w∧RelV M' ρ x u:=by
 have arg:argOf ob v=some (x,wr)→∃M',Rle M M' ρ ρ∧Ow S wl M0 M' ρ (wrO ob wr) w∧RelV M' ρ x u:=fun hd=>by
  obtain⟨M',h1,h2,h3⟩:=argsOf_sound (vs:=[v]) (us:=[u]) (xs:=[x]) (wr:=wr) h (by simp only[RelVs];exact⟨u,[],rfl,hv,rfl⟩) (by simp only[argsOf,hd,List.append_nil])
  have:=h3 ρ
  simp only[RelVs]at this
  obtain⟨u',us',e,h4,_⟩:=this
  cases e
  exact⟨M',h1,h2,h4⟩
 unfold argR at hd
 split at hd
 ·exact arg hd
 ·split at hd
  ·cases hd;exact⟨M,Rle.refl _ _,h,hv⟩
  ·exact arg hd
theorem argsR_sound{K:List Nat}:∀{vs:List V} {ob:Nat→Option IObj} {M:Mem} (_h:Ow S wl M0 M ρ ob w) {us:List Value} {xs:List V} {wr:Wr},RelVs M ρ vs us→argsR K ob vs=some (xs,wr)→∃M',Rle M M' ρ ρ∧Ow S wl M0 M' ρ (wrO ob wr) w∧RelVs M' ρ xs us
 |[],ob,M,h,us,xs,wr,hv,hd=>by
  simp only[argsR,Option.some.injEq,Prod.mk.injEq]at hd
  obtain⟨rfl,rfl⟩:=hd
  exact⟨M,Rle.refl _ _,h,hv⟩
 |v::vs,ob,M,h,us,xs,wr,hv,hd=>by
  simp only[RelVs]at hv
  obtain⟨u,us',rfl,h1,h2⟩:=hv
  unfold argsR at hd
  split at hd
  ·rename_i x wr1 hx
   split at hd
   ·rename_i xs' wr2 hs
    cases hd
    obtain⟨M1,a1,a2,a3⟩:=argR_sound h h1 hx
    obtain⟨M2,b1,b2,b3⟩:=argsR_sound a2 (RelVs.mono a1 _ h2) hs
    exact⟨M2,a1.trans b1,by rw[wrO_append];exact b2,by simp only[RelVs];exact⟨u,us',rfl,RelV.mono b1 _ a3,b3⟩⟩
   ·cases hd
  ·cases hd
def osOf(p:List (Nat×Nat))(ob:Nat→Option IObj):List (Nat×Nat)→List (Nat×IObj)
 |[]=>[]
 |(a,b)::l=>match ob a with|some o=>(b,renO p o)::osOf p ob l|none=>osOf p ob l
theorem osOf_get{p:List (Nat×Nat)}{ob:Nat→Option IObj}:∀{l:List (Nat×Nat)} {t:Nat} {r:Nat},(∀a b,(a,b)∈l→lk p a=some b∧lk (inv p) b=some a)→lk (inv p) t=some r→
 (∀o,obGet (osOf p ob l) t=some o→∃x,ob r=some x∧o=renO p x)∧((r,t)∈l→∀x,ob r=some x→obGet (osOf p ob l) t=some (renO p x))
 |[],t,r,_,_=>⟨fun o h=>by simp[osOf,obGet]at h,fun h=>by cases h⟩
 |(a,b)::l,t,r,hl,ht=>by
  obtain⟨i1,i2⟩:=osOf_get (l:=l) (ob:=ob) (fun a b h=>hl a b (List.mem_cons_of_mem _ h)) ht
  have hab:=hl a b List.mem_cons_self
  have hne:Nat.beq t b=true→a=r:=fun h=>by
   obtain rfl:=Nat.eq_of_beq_eq_true h
   rw[hab.2]at ht;cases ht;rfl
  constructor
  ·intro o ho
   unfold osOf at ho
   split at ho
   ·rename_i x hx
    simp only[obGet]at ho
    split at ho
    ·rename_i hb
     cases ho
     obtain rfl:=hne hb
     exact⟨x,hx,rfl⟩
    ·exact i1 o ho
   ·exact i1 o ho
  ·intro hm x hx
   unfold osOf
   rcases List.mem_cons.1 hm with e|hm
   ·cases e
    simp only[hx,obGet,Nat.beq_refl]
   ·split
    ·rename_i y hy
     simp only[obGet]
     split
     ·rename_i hb
      obtain rfl:=hne hb
      rw[hx]at hy;cases hy;rfl
     ·exact i2 hm x hx
    ·exact i2 hm x hx
theorem osOf_none{p:List (Nat×Nat)}{ob:Nat→Option IObj}:∀{l:List (Nat×Nat)} {t:Nat},(∀a,(a,t)∉l)→obGet (osOf p ob l) t=none
 |[],_,_=>rfl
 |(a,b)::l,t,h=>by
  have ih:=osOf_none (p:=p) (ob:=ob) (l:=l) (t:=t) (fun a hm=>h a (List.mem_cons_of_mem _ hm))
  unfold osOf
  split
  ·simp only[obGet]
   split
   ·rename_i hb
    obtain rfl:=Nat.eq_of_beq_eq_true hb
    exact absurd List.mem_cons_self (h a)
   ·exact ih
  ·exact ih
theorem lk_of_mem:∀{l:List (Nat×Nat)} {a b:Nat},(a,b)∈l→∃c,lk l a=some c
 |(x,y)::l,a,b,h=>by
  simp only[lk]
  split
  ·exact⟨y,rfl⟩
  ·rename_i hb
   rcases List.mem_cons.1 h with e|h
   ·cases e;rw[Nat.beq_refl]at hb;cases hb
   ·exact lk_of_mem h
theorem inv_mem':∀{l:List (Nat×Nat)} {r s:Nat},(r,s)∈l→(s,r)∈inv l
 |(a,b)::l,r,s,h=>by
  rcases List.mem_cons.1 h with e|h
  ·cases e;exact List.mem_cons_self
  ·exact List.mem_cons_of_mem _ (inv_mem' h)
theorem osOf_eq{p:List (Nat×Nat)}(hb:bij p=true)(ob:Nat→Option IObj):obGet (osOf p ob p)=renOb p ob:=by
 funext t
 unfold renOb
 split
 ·rename_i r hr
  obtain⟨i1,i2⟩:=osOf_get (ob:=ob) (bijL_spec hb) hr
  split
  ·rename_i o ho;exact i2 (inv_mem (lk_mem hr)) o ho
  ·rename_i ho
   cases h:obGet (osOf p ob p) t with
   |none=>rfl
   |some x=>obtain⟨y,hy,_⟩:=i1 x h;rw[ho]at hy;cases hy
 ·rename_i hr
  refine osOf_none fun a hm=> ?_
  obtain⟨c,hc⟩:=lk_of_mem (inv_mem' hm)
  rw[hr]at hc;cases hc
theorem memN_firsts{r:Nat}:∀{l:List (Nat×Nat)},memN r (firsts l)=true↔∃s,lk l r=some s
 |[]=>by simp[firsts,memN,lk]
 |(a,b)::l=>by
  simp only[firsts,memN,lk]
  cases Nat.beq r a with
  |true=>simp
  |false=>exact memN_firsts
def backOf(p:List (Nat×Nat))(H:List (Nat×IObj)):List (Nat×Nat)→Option Wr
 |[]=>some []
 |(a,b)::l=>match obGet H b,backOf p H l with|some o,some wr=>(match isFrn o with|true=>none|false=>some ((a,renO (inv p) o)::wr))|_,_=>none
theorem backOf_keys{p:List (Nat×Nat)}{H:List (Nat×IObj)}:∀{l:List (Nat×Nat)} {wr:Wr},backOf p H l=some wr→wkeys wr=firsts l
 |[],wr,h=>by simp only[backOf,Option.some.injEq]at h;subst h;rfl
 |(a,b)::l,wr,h=>by
  unfold backOf at h
  split at h
  ·rename_i o wr' h1 h2
   split at h
   ·cases h
   ·cases h
    simp only[wkeys,firsts,backOf_keys h2]
  ·cases h
theorem backOf_H{p:List (Nat×Nat)}{H:List (Nat×IObj)}:∀{l:List (Nat×Nat)} {wr:Wr},backOf p H l=some wr→∀a b o,(a,b)∈l→obGet H b=some o→isFrn o=false
 |[],_,_,a,b,o,hm,_=>by cases hm
 |(x,y)::l,wr,h,a,b,o,hm,ho=>by
  unfold backOf at h
  split at h
  ·rename_i o' wr' h1 h2
   split at h
   ·cases h
   ·rename_i hf
    rcases List.mem_cons.1 hm with e|hm
    ·cases e;rw[ho]at h1;cases h1;exact hf
    ·exact backOf_H h2 a b o hm ho
  ·cases h
theorem backOf_get{p:List (Nat×Nat)}{H:List (Nat×IObj)}(ob:Nat→Option IObj){r s:Nat}:∀{l:List (Nat×Nat)} {wr:Wr},(∀a b,(a,b)∈l→lk p a=some b)→backOf p H l=some wr→lk p r=some s→r∈firsts l→wrO ob wr r=(match obGet H s with|some o=>some (renO (inv p) o)|none=>none)
 |[],wr,_,_,_,hm=>by cases hm
 |(a,b)::l,wr,hl,h,hr,hm=>by
  unfold backOf at h
  split at h
  ·rename_i o wr' h1 h2
   split at h
   ·cases h
   cases h
   simp only[wrO]
   by_cases hin:r∈firsts l
   ·rw[←backOf_get (updO ob a (renO (inv p) o)) (fun a b h=>hl a b (List.mem_cons_of_mem _ h)) h2 hr hin]
   ·rw[wrO_not (by rw[backOf_keys h2];exact hin)]
    rcases List.mem_cons.1 hm with rfl|hm
    ·have:=hl r b List.mem_cons_self
     rw[hr]at this;cases this
     rw[updO_same,h1]
    ·exact absurd hm hin
  ·cases h
def allBig:List (Nat×Nat)→Bool
 |[]=>true
 |(_,b)::l=>match Nat.ble 2000 b with|true=>allBig l|false=>false
theorem allBig_spec:∀{l:List (Nat×Nat)} {r s:Nat},allBig l=true→lk l r=some s→Nat.ble 2000 s=true
 |[],_,_,_,h=>by cases h
 |(a,b)::l,r,s,hb,h=>by
  unfold allBig at hb
  simp only[lk]at h
  split at hb
  ·rename_i h1
   split at h
   ·cases h;exact h1
   ·exact allBig_spec hb h
  ·cases hb
def noFrn:Wr→Bool
 |[]=>true
 |(_,o)::l=>match isFrn o with|true=>false|false=>noFrn l
theorem backOf_nf{p:List (Nat×Nat)}{H:List (Nat×IObj)}:∀{l:List (Nat×Nat)} {wr:Wr},backOf p H l=some wr→noFrn wr=true
 |[],wr,h=>by simp only[backOf,Option.some.injEq]at h;subst h;rfl
 |(a,b)::l,wr,h=>by
  unfold backOf at h
  split at h
  ·rename_i o wr' h1 h2
   split at h
   ·cases h
   ·rename_i hf
    cases h
    unfold noFrn
    rw[renO_frn,hf]
    exact backOf_nf h2
  ·cases h
theorem keysIn_of{K:List Nat}:∀{wr:Wr},noFrn wr=true→(∀x∈wkeys wr,memN x K=true)→keysIn K wr=true
 |[],_,_=>rfl
 |(d,o)::wr,hn,h=>by
  unfold noFrn at hn
  unfold keysIn
  rw[h d List.mem_cons_self]
  split at hn
  ·cases hn
  ·rename_i hf
   cases o<;>first|(cases hf;done)|exact keysIn_of hn fun x hx=>h x (List.mem_cons_of_mem _ hx)
def closedAll(ob:Nat→Option IObj)(K:List Nat):List Nat→Bool
 |[]=>true
 |r::l=>match ob r with
  |some o=>match closedO K o with|true=>closedAll ob K l|false=>false
  |none=>closedAll ob K l
theorem closedAll_spec{ob:Nat→Option IObj}{K:List Nat}:∀{l:List Nat},closedAll ob K l=true→∀r o,memN r l=true→ob r=some o→closedO K o=true
 |[],_,r,o,h,_=>by cases h
 |x::l,hc,r,o,h,ho=>by
  unfold memN at h
  unfold closedAll at hc
  split at h
  ·rename_i hb
   obtain rfl:=Nat.eq_of_beq_eq_true hb
   rw[ho]at hc
   simp only at hc
   split at hc
   ·assumption
   ·cases hc
  ·split at hc
   ·split at hc
    ·exact closedAll_spec hc r o h ho
    ·cases hc
   ·exact closedAll_spec hc r o h ho
def handOf(ob:Nat→Option IObj)(p:List (Nat×Nat))(args:List V):Option (List (Nat×IObj)×List V×Wr):=match argsR (firsts p) ob args,bij p,allBig p with
 |some (xs,wr),true,true=>match closedAll (wrO ob wr) (firsts p) (firsts p) with
  |true=>some (osOf p (wrO ob wr) p,renVs p xs,wr)
  |false=>none
 |_,_,_=>none
theorem callR_eff{a:Act}{w:World}{op:Op}{d:Nat}{ty:TypeId}{ev:Operand→V}{g:FuncId}{args xs ys:List V}{p:List (Nat×Nat)}{os H:List (Nat×IObj)}{v:V}{wr bk:Wr}(ho:Ow S wl M0 M ρ ob w)(hev:∀x,RelV M ρ (ev x) (a.eval x))(hc:evOp P ob d ty ev op= .call g args)(he:entersT P g)
 (hh:handOf ob p args=some (os,xs,wr)) (hre:Res' xs ys) (hcall:CallR P g os ys H v) (hbk:backOf p H p=some bk):EffV r P a op S wl M0 M ρ ob w (renV (inv p) v) (wr++bk):=by
 obtain⟨vals,h1,h2⟩:=call_eff (r:=r) (w:=w) hc hev he
 unfold handOf at hh
 split at hh
 ·rename_i xs0 wr0 hargs hbij hbig
  split at hh
  ·rename_i hcl
   cases hh
   obtain⟨M1,r1,o1,d1⟩:=argsR_sound ho h1 hargs
   have hp:=o1.part (firsts p) (firsts p) (fun x o hm hx=>closedAll_spec hcl x o hm hx)
   have eR:renR p (keepR (firsts p) ρ)=renR p ρ:=by
    funext t
    unfold renR
    split
    ·rename_i q hq
     exact keepR_in (memN_firsts.2 ⟨t,bij_of hbij hq⟩)
    ·rfl
   have eO:renOb p (keepO (firsts p) (firsts p) (wrO ob wr))=renOb p (wrO ob wr):=by
    funext t
    unfold renOb
    split
    ·rename_i q hq
     rw[keepO_in (memN_firsts.2 ⟨t,bij_of hbij hq⟩) (memN_firsts.2 ⟨t,bij_of hbij hq⟩)]
    ·rfl
   have hq:=hp.ren (r1:=renR p ρ) hbij (fun q o t hq ho=>by
    have hm:=memN_firsts.2 ⟨t,hq⟩
    rw[keepO_in hm hm]at ho
    have:=closedAll_spec hcl q o hm ho
    cases o<;>first|rfl|cases this) (fun t i _ hi=>⟨i,by rw[eR];exact hi,Ile.refl i⟩)
   rw[eR,eO,←osOf_eq hbij]at hq
   refine h2 _ _ (hcall _ _ _ _ _ w vals hq (hre.rel (ren_rels hbij _ d1))) ?_
   rintro e w' ⟨u,M2,ρ2,rfl,hE,hv⟩
   have hbi:bij (inv p)=true:=by
    have:∀{l:List (Nat×Nat)},(∀a b,(a,b)∈l→lk (inv p) a=some b∧lk p b=some a)→bijL (inv p) p l=true:=fun{l} hl=>by
     induction l with
     |nil=>rfl
     |cons x l ih=>
      obtain⟨a,b⟩:=x
      obtain⟨q1,q2⟩:=hl a b List.mem_cons_self
      unfold bijL
      simp only[q1,q2,Nat.beq_refl]
      exact ih fun a b h=>hl a b (List.mem_cons_of_mem _ h)
    unfold bij
    rw[inv_inv]
    exact this fun a b hm=>by
     obtain⟨q1,q2⟩:=bijL_spec hbij b a (inv_mem hm)
     exact⟨q2,q1⟩
   have hB:=hE.ren (r1:=noR) hbi (fun q o t hq ho=>backOf_H hbk t q o (inv_mem (lk_mem hq)) ho) (fun t i _ hi=>by cases hi)
   have hkeys:∀x,memN x (firsts p)=true↔x∈wkeys bk:=fun x=>by rw[backOf_keys hbk];exact⟨memN_spec,memN_of⟩
   have eB:renOb (inv p) (obGet H)=wrO (keepO (firsts p) (firsts p) (wrO ob wr)) bk:=by
    funext x
    cases hm:memN x (firsts p) with
    |true=>
     obtain⟨t,ht⟩:=memN_firsts.1 hm
     rw[backOf_get _ (fun a b h=>(bijL_spec hbij a b h).1) hbk ht (memN_spec hm)]
     unfold renOb
     rw[inv_inv,ht]
    |false=>
     rw[wrO_not (fun hx=>by rw[(hkeys x).2 hx]at hm;cases hm)]
     have:lk p x=none:=by
      cases hl:lk p x with
      |none=>rfl
      |some t=>rw[memN_firsts.2 ⟨t,hl⟩]at hm;cases hm
     unfold renOb keepO
     rw[inv_inv,this,hm]
   rw[eB]at hB
   have hR:Rle M1 M2 (keepR (firsts p) ρ) (renR (inv p) ρ2):=⟨hE.le,fun x i hi=>by
    obtain⟨hm,hi⟩:=keepR_some hi
    obtain⟨t,ht⟩:=memN_firsts.1 hm
    obtain⟨i',h3,h4⟩:=hE.held t i (allBig_spec hbig ht) (by show renR p ρ t=some i;rw[renR_at hbij ht];exact hi)
    refine⟨i',?_,h4⟩
    unfold renR
    rw[inv_inv,ht];exact h3⟩
   obtain⟨b1,b2,b3⟩:=o1.back (fun x o hm hx=>closedAll_spec hcl x o hm hx) (fun _ h=>h) (fun _ _ h h'=>by rw[h]at h';cases h') (keysIn_of (backOf_nf hbk) fun x hx=>(hkeys x).2 hx) hB hR
   exact⟨u,rfl,M2,_,r1.trans b1,by rw[wrO_append];exact b2,RelV.mono b3 _ (ren_rel hbi _ hv)⟩
  ·cases hh
 ·cases hh
end
section
variable {r:Option Nat} {P:Program} {N:Nat} {ds:List Deferred} {fin:Fin} {c:Cfg} {q:CfgD}
def callROf(P:Program)(N:Nat)(c:Cfg)(p:List (Nat×Nat)):Option (FuncId×List (Nat×IObj)×List V):=match evNow P N c with
 | .call g args=>match handOf (obGet c.ob) p args with
   |some (os,xs,_)=>some (g,os,xs)
   |none=>none
 |_=>none
def okR(P:Program)(N:Nat)(c:Cfg)(p:List (Nat×Nat))(H:List (Nat×IObj)):Bool:=match evNow P N c,backOf p H p with
 | .call _ _,some _=>true
 |_,_=>false
def resR(P:Program)(N:Nat)(c:Cfg)(p:List (Nat×Nat))(H:List (Nat×IObj))(v:V):Cfg:=match evNow P N c with
 | .call _ args=>match handOf (obGet c.ob) p args,backOf p H p with
   |some (_,_,wr),some bk=>after N c (renV (inv p) v) (wr++bk)
   |_,_=>c
 |_=>c
theorem J_callR{g:FuncId}{os:List (Nat×IObj)}{xs:List V}(p:List (Nat×Nat))(ys:List V)(H:List (Nat×IObj))(v:V)(hc:callROf P N c p=some (g,os,xs))(hb:okR P N c p H=true)(he:entersT P g)(hre:Res' xs ys)(hcall:CallR P g os ys H v)(hk:J r P N ds fin (resR P N c p H v)):J r P N ds fin c:=by
 unfold callROf at hc
 split at hc
 ·rename_i g' args hev
  split at hc
  ·rename_i os' xs' wr hh
   cases hc
   unfold okR at hb
   rw[hev]at hb
   split at hb
   ·rename_i bk _ hbk
    obtain⟨op,all,rest,k',ht,hg⟩:=evNow_is (P:=P) (N:=N) (c:=c) (by rw[hev];intro e;cases e)
    unfold resR at hk
    rw[hev]at hk
    simp only[hh,hbk,after_eq ht]at hk
    refine J_eff ht hg (fun S wl M0 M ρ f w ha=> ?_) hk
    rw[evNow_ops ht hg]at hev
    exact callR_eff ha.ow (evalV_rel (ds:=ds) ha) hev he hh hre hcall hbk
   ·cases hb
  ·cases hc
 ·cases hc
def dcallR(P:Program)(N:Nat)(q:CfgD)(p:List (Nat×Nat)):Option (FuncId×List (Nat×IObj)×List V):=match dNow P N q with
 | .call g args=>match handOf (dobNow N q) p args with
   |some (os,xs,_)=>some (g,os,xs)
   |none=>none
 |_=>none
def dokR(P:Program)(N:Nat)(q:CfgD)(p:List (Nat×Nat))(H:List (Nat×IObj))(v:V):Bool:=match dNow P N q with
 | .call _ args=>match handOf (dobNow N q) p args,backOf p H p with
   |some (_,_,wr),some bk=>dgoB N q (renV (inv p) v) (wr++bk)
   |_,_=>false
 |_=>false
def dresR(P:Program)(N:Nat)(q:CfgD)(p:List (Nat×Nat))(H:List (Nat×IObj))(v:V):CfgD:=match dNow P N q with
 | .call _ args=>match handOf (dobNow N q) p args,backOf p H p with
   |some (_,_,wr),some bk=>dgo N q (renV (inv p) v) (wr++bk)
   |_,_=>q
 |_=>q
theorem JD_callR{g:FuncId}{os:List (Nat×IObj)}{xs:List V}(p:List (Nat×Nat))(ys:List V)(H:List (Nat×IObj))(v:V)(hc:dcallR P N q p=some (g,os,xs))(hb:dokR P N q p H v=true)(he:entersT P g)(hre:Res' xs ys)(hcall:CallR P g os ys H v)(hk:JD r P N ds fin (dresR P N q p H v)):JD r P N ds fin q:=by
 unfold dcallR at hc
 split at hc
 ·rename_i g' args hev
  split at hc
  ·rename_i os' xs' wr hh
   cases hc
   unfold dokR at hb
   unfold dresR at hk
   rw[hev]at hb hk
   simp only[hh]at hb hk
   split at hb
   ·rename_i os2 xs2 wr2 bk hh2 hbk
    cases hh2
    simp only[hbk]at hk
    obtain⟨o,rest,hr,h1,h2,h3,h4⟩:=dNow_is (P:=P) (N:=N) (q:=q) (by rw[hev];intro e;cases e)
    obtain⟨h5,h6,h8,h7⟩:=dGo_is hr (dgo_is hb)
    rw[h7]at hk
    refine JD_cons hr h3 (dok h1 h2 h8 h3 h5 (fun S wl M0 M ρ f w ho hev'=> ?_)) (keysIn_mem h5) h6 hk
    have hob:dobNow N q=dOb q.ob (kOf N q o) (rOf N q o (kOf N q o)):=by unfold dobNow;rw[hr]
    rw[hob]at hh
    rw[h4]at hev
    exact callR_eff ho hev' hev he hh hre hcall hbk
   ·cases hb
  ·cases hc
 ·cases hc
def keepH:List (Nat×IObj)→List (Nat×IObj)
 |[]=>[]
 |(r,o)::l=>match Nat.ble 2000 r with|true=>(r,o)::keepH l|false=>keepH l
theorem keepH_get:∀(l:List (Nat×IObj)) (r:Nat),obGet (keepH l) r=match Nat.ble 2000 r with|true=>obGet l r|false=>none
 |[],r=>by simp only[keepH,obGet];split<;>rfl
 |(q,o)::l,r=>by
  have ih:=keepH_get l r
  unfold keepH
  split
  ·rename_i hq
   simp only[obGet]
   cases hb:Nat.beq r q with
   |true=>
    obtain rfl:=Nat.eq_of_beq_eq_true hb
    simp only[hq]
   |false=>exact ih
  ·rename_i hq
   rw[ih]
   cases hr:Nat.ble 2000 r with
   |false=>rfl
   |true=>
    simp only[obGet]
    cases hb:Nat.beq r q with
    |true=>
     obtain rfl:=Nat.eq_of_beq_eq_true hb
     rw[hr]at hq;cases hq
    |false=>rfl
def idsOf:List (Nat×IObj)→List Nat
 |[]=>[]
 |(r,_)::l=>r::idsOf l
theorem idsOf_mem:∀{l:List (Nat×IObj)} {r:Nat},memN r (idsOf l)=true↔∃o,obGet l r=some o
 |[],r=>by simp[idsOf,memN,obGet]
 |(q,o)::l,r=>by
  simp only[idsOf,memN,obGet]
  cases Nat.beq r q with
  |true=>simp
  |false=>exact idsOf_mem
theorem Ow.onlyH{S:Hand}{wl w:World}{M0 M:Mem}{ρ:Rho}{l:List (Nat×IObj)}(h:Ow S wl M0 M ρ (obGet l) w)(hc:closedAll (obGet l) (idsOf (keepH l)) (idsOf (keepH l))=true):Ow S wl M0 M (keepR (idsOf (keepH l)) ρ) (obGet (keepH l)) w:=by
 have e:obGet (keepH l)=keepO (idsOf (keepH l)) (idsOf (keepH l)) (obGet l):=by
  funext r
  cases hm:memN r (idsOf (keepH l)) with
  |true=>
   rw[keepO_in hm hm]
   obtain⟨o,ho⟩:=idsOf_mem.1 hm
   rw[ho]
   rw[keepH_get]at ho
   split at ho
   ·exact ho.symm
   ·cases ho
  |false=>
   simp only[keepO,hm]
   cases ho:obGet (keepH l) r with
   |none=>rfl
   |some o=>rw[idsOf_mem.2 ⟨o,ho⟩]at hm;cases hm
 rw[e]
 refine⟨h.size,h.os,h.tape,h.output,h.old,h.sits,h.le,h.gl,h.new,fun r o hr=> ?_,fun r i hi=> ?_,fun r r' o o' i i' b h1 h2 h3 h4 l1 l2=>h.inj r r' o o' i i' b (keepO_live h1 l1).2 (keepO_live h2 l2).2 (keepR_some h3).2 (keepR_some h4).2 l1 l2,fun r i hb hi=> ?_⟩
 ·obtain⟨hm,⟨_,ho⟩|⟨hn,_⟩⟩:=keepO_some hr
  rotate_left
  ·rw[hm]at hn;cases hn
  obtain⟨i,hi,hok⟩:=h.own r o ho
  refine⟨i,by rw[keepR_in hm];exact hi,?_⟩
  have hcl:=closedAll_spec hc r o hm ho
  cases o with
  |box te cs=>
   obtain⟨h0,h1,us,e,h2,h3,h4⟩:=hok
   exact⟨h0,h1,us,e,h2,refs_rels cs hcl h3,h4⟩
  |tree g e sz shs es hh=>exact ObjOk.tree hok (fun b hb=>(blk_mine hok hb).1) (fun k cs e us hus=>by subst e;exact refs_rels cs hcl hus)
  |buf g e sz es=>exact hok
  |fzs g sz es=>exact hok
  |fzb cs=>
   obtain⟨h0,c0,us,h1,hP,h2,h3⟩:=hok
   exact⟨h0,c0,us,h1,hP,refs_rels cs hcl h2,h3⟩
  |mapo kk ag sz es=>exact hok
  |raw b x=>exact hok
  |frn q=>cases hcl
 ·obtain⟨hm,hi⟩:=keepR_some hi
  obtain⟨o,ho⟩:=h.dom r i hi
  exact⟨o,by rw[keepO_in hm hm];exact ho⟩
 ·obtain⟨i',h1,h2⟩:=h.held r i hb hi
  obtain⟨o,ho⟩:=h.dom r i' h1
  have hm:memN r (idsOf (keepH l))=true:=idsOf_mem.2 ⟨o,by rw[keepH_get,hb];exact ho⟩
  exact⟨i',by rw[keepR_in hm];exact h1,h2⟩
def finR(P:Program)(fn:Func)(H:List (Nat×IObj))(v:V):Fin:= .mk (fun _ _ _=>True) fun S wl M0 e a w=>bodyPost P fn (fun e w'=>∃u M' ρ',e= .returned u∧Ow S wl M0 M' ρ' (obGet H) w'∧RelV M' ρ' v u) e a w
def retROf(P:Program)(N:Nat)(c:Cfg)(rs:List ResultVar):Option (List V×List (Nat×IObj)):=match atRet c with
 |true=>match retV P N c rs with
  |some vs=>match argsOf (obGet c.ob) vs with
   |some (xs,wr)=>match closedAll (obGet (obWr c.ob wr)) (idsOf (keepH (obWr c.ob wr))) (idsOf (keepH (obWr c.ob wr))) with
    |true=>some (xs,keepH (obWr c.ob wr))
    |false=>none
   |none=>none
  |none=>none
 |false=>none
theorem J_retR{fn:Func}{v:V}{rs:List ResultVar}{xs:List V}{H:List (Nat×IObj)}(ys:List V)(hfn:fn.results=rs.toArray)(hN:Nat.ble N 1024=true)(hv:retROf P N c rs=some (xs,H))(hre:Res' xs ys)(he:tupV ys=v):J r P N [] (finR P fn H v) c:=by
 refine⟨nb_le hN,fun S wl M0 hH M ρ f w h=> ?_⟩
 unfold retROf at hv
 split at hv
 ·rename_i hat
  split at hv
  ·rename_i vs hvs
   split at hv
   ·rename_i xs' wr hx
    split at hv
    ·rename_i hcl
     cases hv
     obtain⟨us,h1,h2⟩:=retV_ok h hvs
     obtain⟨M',r1,o1,d1⟩:=argsOf_sound h.ow h2 hx
     rw[←obGet_wr]at o1
     have o2:=o1.onlyH hcl
     have key:bodyPost P fn (fun e w'=>∃u M' ρ',e= .returned u∧Ow S wl M0 M' ρ' (obGet (keepH (obWr c.ob wr))) w'∧RelV M' ρ' v u) .ret (fr N f []) w:=
      ⟨rfl,tupv us,results_run hfn h1,tupv us,M',_,rfl,o2,by rw[←he];exact tupV_rel (hre.rel (d1 _))⟩
     unfold atRet at hat
     split at hat
     ·rename_i ht
      rw[ht]
      exact W_ret (Wk_ret _ hat key)
     ·rename_i ht
      rw[ht]
      exact key
     ·cases hat
    ·cases hv
   ·cases hv
  ·cases hv
 ·cases hv
def retRROf(P:Program)(N:Nat)(c:Cfg)(rs:List ResultVar):Option (List V×List (Nat×IObj)):=match atRet c with
 |true=>match retV P N c rs with
  |some vs=>match argsR (idsOf (keepH c.ob)) (obGet c.ob) vs with
   |some (xs,wr)=>match closedAll (obGet (obWr c.ob wr)) (idsOf (keepH (obWr c.ob wr))) (idsOf (keepH (obWr c.ob wr))),refsIns (idsOf (keepH (obWr c.ob wr))) xs with
    |true,true=>some (xs,keepH (obWr c.ob wr))
    |_,_=>none
   |none=>none
  |none=>none
 |false=>none
theorem J_retRR{fn:Func}{v:V}{rs:List ResultVar}{xs:List V}{H:List (Nat×IObj)}(ys:List V)(hfn:fn.results=rs.toArray)(hN:Nat.ble N 1024=true)(hv:retRROf P N c rs=some (xs,H))(hre:Res' xs ys)(he:tupV ys=v):J r P N [] (finR P fn H v) c:=by
 refine⟨nb_le hN,fun S wl M0 hH M ρ f w h=> ?_⟩
 unfold retRROf at hv
 split at hv
 ·rename_i hat
  split at hv
  ·rename_i vs hvs
   split at hv
   ·rename_i xs' wr hx
    split at hv
    ·rename_i hcl hrf
     cases hv
     obtain⟨us,h1,h2⟩:=retV_ok h hvs
     obtain⟨M',r1,o1,d1⟩:=argsR_sound h.ow h2 hx
     rw[←obGet_wr]at o1
     have o2:=o1.onlyH hcl
     have key:bodyPost P fn (fun e w'=>∃u M' ρ',e= .returned u∧Ow S wl M0 M' ρ' (obGet (keepH (obWr c.ob wr))) w'∧RelV M' ρ' v u) .ret (fr N f []) w:=
      ⟨rfl,tupv us,results_run hfn h1,tupv us,M',_,rfl,o2,by rw[←he];exact tupV_rel (hre.rel (refs_rels _ hrf d1))⟩
     unfold atRet at hat
     split at hat
     ·rename_i ht
      rw[ht]
      exact W_ret (Wk_ret _ hat key)
     ·rename_i ht
      rw[ht]
      exact key
     ·cases hat
    ·cases hv
   ·cases hv
  ·cases hv
 ·cases hv
theorem callR_of{g:FuncId}{fn:Func}{b:Code}{os H:List (Nat×IObj)}{args:List V}{v:V}(hf:P.funcs[g]? =some fn)(hb:fn.body=some b)(hN:fn.ntmps=N)(hv:Nat.ble args.length N=true)(h:J none P N [] (finR P fn H v) ⟨mkT (argT 0 args),os,[.code b]⟩):CallR P g os args H v:=by
 intro s wl M0 M ρ w vals ho hr
 have hl:=nb_le hv
 refine entry hf hb hN (by rw[hr.len];exact hl) ?_
 refine W_mono (h.2 ⟨s,ρ⟩ wl M0 trivial M ρ (argf vals) w ⟨ho,mkT_ok _,mkT_rel h.1 _ (fun t v hm=> ?_)⟩) (fun e a w hq=>hq)
 obtain⟨_,h2⟩:=argT_mem hm
 rw[Nat.sub_zero]at h2
 obtain⟨u,h3,h4⟩:=hr.get h2
 exact⟨Nat.lt_of_lt_of_le (List.getElem?_eq_some_iff.1 h2).1 hl,by unfold argf;rw[h3];exact h4⟩
end
end Go.Proofs.YtfgbhfphjmmiaaaGreatDoor.Kx
end
section
namespace Go.Proofs.YtfgbhfphjmmiaaaGreatDoor.Kx
open Go Go.RowKit
section
variable {r:Option Nat} {P:Program} {N:Nat} {ds:List Deferred} {fin:Fin} {c:Cfg} {q:CfgD}
end
section
variable {κ β:Type} [DecidableEq κ]
def mhasF:List (κ×β)→κ→Bool
 |[],_=>false
 |x::l,k=>bif decide (x.1=k) then true else mhasF l k
def pe(ke:κ→Dat)(ve:β→List Dat)(x:κ×β):Dat×List Dat:=(ke x.1,ve x.2)
variable {ke:κ→Dat} {ve:β→List Dat}
theorem hsm(hk:∀a b,dkeq (ke a) (ke b)=decide (a=b)):∀(l:List (κ×β)) (k:κ),mhas (l.map (pe ke ve)) (ke k)=mhasF l k
 |[],_=>rfl
 |x::l,k=>by
  simp only[List.map_cons,mhas,mhasF,pe,hk]
  cases decide (x.1=k) with
  |true=>rfl
  |false=>simp only[cond_false];exact hsm hk l k
end
end Go.Proofs.YtfgbhfphjmmiaaaGreatDoor.Kx
end
section
namespace Go.Proofs.YtfgbhfphjmmiaaaGreatDoor.Kx
open Go Go.RowKit
structure ItStep(T:Nat→Prop)(M:Mem)(w:World)(T':Nat→Prop)(M':Mem)(w':World):Prop where
 size:w.heap.size≤w'.heap.size
 os:w'.os=w.os
 tape:w'.tape=w.tape
 output:w'.output=w.output
 old:∀k,k<w.heap.size→¬T k→w'.heap[k]? =w.heap[k]?
 le:M.le M'
 sits:Sits M' w'
 new:∀b c,M' b=some c→b<w.heap.size→M b=some c∨T b
 grow:∀b,T' b→T b∨w.heap.size≤b
 own:∀b,T' b→b<w'.heap.size
section
variable {S:Hand} {wl w w':World} {M0 M M':Mem} {ρ:Rho} {ob:Nat→Option IObj}
def TA(ρ:Rho)(ob:Nat→Option IObj):Nat→Prop:=fun b=>∃r i o,ρ r=some i∧ob r=some o∧blk i o b
theorem TA_mine(h:Ow S wl M0 M ρ ob w){b:Nat}(hb:TA ρ ob b):(S b∨wl.heap.size≤b)∧b<w.heap.size:=by
 obtain⟨r,i,o,h2,h3,h4⟩:=hb
 obtain⟨i',h5,h6⟩:=h.own r o h3
 rw[h2]at h5;cases h5
 exact blk_mine h6 h4
theorem Ow.step(h:Ow S wl M0 M ρ ob w):ItStep S.s M0 wl (TA ρ ob) M w:=
 ⟨h.size,h.os,h.tape,h.output,h.old,h.le,h.sits,h.new,fun _ hb=>(TA_mine h hb).1,fun _ hb=>(TA_mine h hb).2⟩
theorem Ow.it{T T':Nat→Prop}{M':Mem}{w':World}(h:Ow S wl M0 M ρ ob w)(k:ItStep T M w T' M' w')(hT:∀b,T b→¬TA ρ ob b∧(S b∨wl.heap.size≤b)):
 Ow S wl M0 M' ρ ob w'∧∀b,T' b→¬TA ρ ob b∧(S b∨wl.heap.size≤b):=by
 have hr:Rle M M' ρ ρ:=⟨k.le,fun _ j hj=>⟨j,hj,Ile.refl j⟩⟩
 refine⟨⟨Nat.le_trans h.size k.size,k.os.trans h.os,k.tape.trans h.tape,k.output.trans h.output,fun b hb hS=> ?_,k.sits,Mem.le_trans h.le k.le,h.gl.mono k.le,fun b c hb hlt=> ?_,fun q o hq=> ?_,h.dom,h.inj,h.held⟩,fun b hb=> ?_⟩
 ·rw[k.old b (by have:=h.size;omega) (fun ht=>(hT b ht).2.elim hS (fun hl=>by omega))];exact h.old b hb hS
 ·rcases k.new b c hb (by have:=h.size;omega) with h1|h1
  ·exact h.new b c h1 hlt
  ·exact(hT b h1).2.elim .inr (fun hl=>by omega)
 ·obtain⟨i,h1,h2⟩:=h.own q o hq
  have hTA:∀b,blk i o b→TA ρ ob b:=fun b hl=>⟨q,i,o,h1,hq,hl⟩
  refine⟨i,h1,h2.mono hr (fun y hl=> ?_) (fun y hl=>k.old _ (blk_mine h2 hl).2 (fun ht=>(hT _ ht).1 (hTA y hl)))⟩
  cases hm:M' y with
  |none=>
   cases hm0:M y with
   |none=>rfl
   |some c=>obtain⟨c',h3,_⟩:=k.le _ _ hm0;rw[hm]at h3;cases h3
  |some c=>
   rcases k.new _ _ hm (blk_mine h2 hl).2 with h3|h3
   ·exact h3.symm
   ·exact absurd (hTA y hl) (hT _ h3).1
 ·rcases k.grow b hb with h1|h1
  ·exact hT b h1
  ·refine⟨fun hta=> ?_,.inr (Nat.le_trans h.size h1)⟩
   have:=(TA_mine h hta).2
   omega
end
def panE(e:Ending):Prop:=∃t u,e= .panicked [{v:= .iface t u,recovered:=false}]
def PanD(wl:World)(M0:Mem):Ending→World→Prop:=fun e w'=>panE e∧∃M',Ext M0 M' wl w'
def CallP(P:Program)(g:FuncId)(args:List V):Prop:=∀M w vals,Sits M w→GlA M w→RelVs M noR args vals→Calls P g vals.toArray w (PanD w M)
def CallO(P:Program)(g:FuncId)(args:List V):Option V→Prop
 |some v=>CallF P g args v
 |none=>CallP P g args
section
variable {r:Option Nat} {P:Program} {N:Nat} {ds:List Deferred} {fin:Fin} {c:Cfg}
theorem Wk_pan{fin':Exit→Act→World→Prop}{a:Act}{w:World}{ch:List PanicEntry}:∀(k:List It),noBeg k=true→fin' (.panic ch) a w→Wk r P fin' k (.panic ch) a w
 |[],_,h=>h
 | .begR _::_,hn,_=>by cases hn
 | .code _::k,hn,h=>by simp only[Wk,Exit.then];exact Wk_pan k hn h
 | .inBlock _::k,hn,h=>by simp only[Wk,Exit.inBlock];exact Wk_pan k hn h
 | .inLoop _::k,hn,h=>by simp only[Wk,Exit.then];exact Wk_pan k hn h
 | .inScope::k,hn,h=>by simp only[Wk,Exit.noGoto];exact Wk_pan k hn h
 | .ops _ _::k,hn,h=>by simp only[Wk,Exit.then];exact Wk_pan k hn h
def JP(N:Nat)(ds:List Deferred)(fin:Fin)(sl:Tri)(ob:List (Nat×IObj)):Prop:=
 ∀S wl M0,fin.H S wl M0→∀r1 M ρ w f t u,(∀q i,S.r0 q=some i→(∃o,obGet ob q=some o)→r1 q=some i)→Ow ⟨S.s,r1⟩ wl M0 M ρ (obGet ob) w→(∀t,t<N→RelV M ρ (sl.get 10 t) (f t))→fin S wl M0 (.panic [{v:= .iface t u,recovered:=false}]) (fr N f ds) w
def begOk(c:Cfg):Bool:=match c.td with|_::k=>noBeg k|[]=>false
def restr(ids:List Nat)(ρ:Rho):Rho:=fun r=>match memN r ids with|true=>ρ r|false=>none
theorem restr_some{ids:List Nat}{ρ:Rho}{r:Nat}{i:Inf}(h:restr ids ρ r=some i):memN r ids=true∧ρ r=some i:=by
 unfold restr at h
 split at h
 ·rename_i hm;exact⟨hm,h⟩
 ·cases h
theorem noFrnP{l:List (Nat×IObj)}(h:noFrn l=true):∀q z,obGet l q≠some (.frn z):=by
 induction l with
 |nil=>intro q z h;cases h
 |cons x l ih=>
  obtain⟨r,o⟩:=x
  intro q z hx
  unfold noFrn at h
  split at h
  ·cases h
  ·rename_i hf
   simp only[obGet]at hx
   split at hx
   ·cases hx;cases hf
   ·exact ih h q z hx
end
end Go.Proofs.YtfgbhfphjmmiaaaGreatDoor.Kx
end
section
namespace Go.Proofs.YtfgbhfphjmmiaaaGreatDoor.Kx
open Go Go.RowKit
def Yields(P:Program)(l:Nat)(vals:List Value)(w:World)(R:Ending→World→Prop):Prop:=
 ∃fn tmps assign body,(Instr.yield l vals.toArray).run P w= .ok (.round l fn tmps assign body) w∧RoundIn (WF none) 0 P l fn tmps assign body w R
structure RoundsOk(P:Program)(l:Nat)(Inv:List (List V)→(Nat→Prop)→Mem→World→Prop)(Stop Pan:(Nat→Prop)→Mem→World→Prop):Prop where
 inv:∀ys T M w T' M' w',Inv ys T M w→ItStep T M w T' M' w'→Inv ys T' M' w'
 stop:∀T M w T' M' w',Stop T M w→ItStep T M w T' M' w'→Stop T' M' w'
 round:∀y ys T M w vals,Inv (y::ys) T M w→Sits M w→RelVs M noR y vals→(∀b,T b→b<w.heap.size)→Yields P l vals w (fun e w'=>∃M',M.le M'∧Sits M' w'∧Sz w'∧w.heap.size≤w'.heap.size∧(∀k,T k→w'.heap[k]? =w.heap[k]?∧M' k=M k)∧
  ((e= .returned (.bool true)∧Inv ys T M' w')∨(e= .returned (.bool false)∧Stop T M' w')∨(panE e∧Pan T M' w')))
def endI(Inv:List (List V)→(Nat→Prop)→Mem→World→Prop)(Stop Pan:(Nat→Prop)→Mem→World→Prop)(fl:Bool):Ending→World→Prop:=fun e w'=>
 ∃T' M',(∃v,e= .returned v∧((fl=false∧Inv [] T' M' w')∨Stop T' M' w'))∨(panE e∧((fl=true∧Inv [] T' M' w')∨Pan T' M' w'))
section
variable {S:Hand} {wl w w':World} {M0 M M':Mem} {ρ:Rho} {ob:Nat→Option IObj}
theorem Ow.base(h:Ow S wl M0 M ρ ob w){r0:Rho}(hle:M.le M')(hs:Sits M' w')(hsz:w.heap.size≤w'.heap.size)(hk:∀k,TA ρ ob k→w'.heap[k]? =w.heap[k]?∧M' k=M k)
 (hfr:∀q i,ob q=some (.frn q)→ρ q=some i→r0 q=some i) (hfq:∀q x,ob q=some (.frn x)→x=q) (hh:∀r i,Nat.ble 2000 r=true→r0 r=some i→ρ r=some i) (hz:Sz w'):Ow ⟨TA ρ ob,r0⟩ w' M' M' ρ ob w':=by
 have hr:Rle M M' ρ ρ:=⟨hle,fun _ j hj=>⟨j,hj,Ile.refl j⟩⟩
 refine⟨Nat.le_refl _,rfl,rfl,rfl,fun _ _ _=>rfl,hs,M'.le_refl,⟨h.gl.ok.mono hle,fun _ _ e hb=>h.offm e (TA_mine h hb).1,hz⟩,fun _ _ hb _=> .inl hb,fun r o ho=> ?_,h.dom,h.inj,fun r i hb hi=>⟨i,hh r i hb hi,Ile.refl i⟩⟩
 obtain⟨i,hi,hok⟩:=h.own r o ho
 refine⟨i,hi,?_⟩
 have hTb:∀b,blk i o b→TA ρ ob b:=fun b hl=>⟨r,i,o,hi,ho,hl⟩
 have hT:live i o→TA ρ ob i.b:=fun hl=>hTb _ (blk_live hl)
 have hok':=hok.mono hr (fun _ hl=>(hk _ (hTb _ hl)).2) (fun _ hl=>(hk _ (hTb _ hl)).1)
 cases o with
 |tree g e sz shs es hh=>exact ObjOk.tree hok' (fun b hb=> .inl (hTb b hb)) (fun _ _ _ _ h=>h)
 |box te cs=>
  obtain⟨h0,h1,rest⟩:=hok'
  exact⟨h0,⟨.inl (hT trivial),h1.2⟩,rest⟩
 |buf g e sz es=>
  obtain⟨h0,hg,hss,hn,ht,hx,h1⟩:=hok'
  refine⟨h0,hg,hss,hn,ht,hx,fun hp=> ?_⟩
  obtain⟨h1,rest⟩:=h1 hp
  exact⟨⟨.inl (hT hp),h1.2⟩,rest⟩
 |fzs g sz es=>exact hok'
 |fzb cs=>exact hok'
 |mapo kk ag sz es=>
  obtain⟨h0,h1,rest⟩:=hok'
  exact⟨h0,⟨.inl (hT trivial),h1.2⟩,rest⟩
 |raw b x=>
  obtain⟨h0,e,h1,rest⟩:=hok'
  exact⟨h0,e,⟨.inl (hT trivial),h1.2⟩,rest⟩
 |frn q=>
  obtain rfl:=hfq r q ho
  exact hfr _ i ho hi
end
def finI(P:Program)(fn:Func)(l:Nat)(Inv:List (List V)→(Nat→Prop)→Mem→World→Prop)(Stop Pan:(Nat→Prop)→Mem→World→Prop)(fl:Bool)(st:Option (List (List V))):Fin where
 H:=fun S wl M0=>(match st with|some ys=>Inv ys S.s M0 wl|none=>Stop S.s M0 wl)∧∃i,S.r0 2000=some i∧i.b=l
 post:=fun _ _ _ e a w=>bodyPost P fn (endI Inv Stop Pan fl) e a w
def frnOk:List (Nat×IObj)→Bool
 |[]=>true
 |(r,o)::l=>match o with| .frn x=>(match Nat.beq x r with|true=>frnOk l|false=>false)|_=>frnOk l
theorem frnOk_spec:∀{l:List (Nat×IObj)},frnOk l=true→∀q x,obGet l q=some (.frn x)→x=q
 |[],_,q,x,h=>by cases h
 |(r,o)::l,h,q,x,hx=>by
  unfold frnOk at h
  simp only[obGet]at hx
  split at hx
  ·rename_i hb
   obtain rfl:=Nat.eq_of_beq_eq_true hb
   cases hx
   simp only at h
   split at h
   ·rename_i hb;exact Nat.eq_of_beq_eq_true hb
   ·cases h
  ·split at h
   ·split at h
    ·exact frnOk_spec h q x hx
    ·cases h
   ·exact frnOk_spec h q x hx
def yieldOf(N:Nat)(c:Cfg):Option (List V×Wr):=match c.td with
 | .ops all (o::_)::_=>match gd N c.sl all o,o.op with
   |some true,.call cl=>match cl.callee with
    | .value f=>match evalV N c.sl f,obGet c.ob 2000,frnOk c.ob with
      | .yl 2000,some (.frn 2000),true=>argsOf (obGet c.ob) (evsV (evalV N c.sl) cl.args.toList)
      |_,_,_=>none
    |_=>none
   |_,_=>none
 |_=>none
def yieldX(N:Nat)(c:Cfg):Option (List V):=match yieldOf N c with|some (xs,wr)=>(match frnOk (obWr c.ob wr) with|true=>some xs|false=>none)|none=>none
def resY(N:Nat)(c:Cfg)(b:Bool):Cfg:=match yieldOf N c with|some (_,wr)=>after N c (.d (.bool b)) wr|none=>c
section
variable {P:Program} {N:Nat} {fn:Func} {l:Nat} {Inv:List (List V)→(Nat→Prop)→Mem→World→Prop} {Stop Pan:(Nat→Prop)→Mem→World→Prop} {fl:Bool} {c:Cfg}
theorem run_yieldOp{a:Act}{w:World}{o:Oper}{cl:Call}{f:Operand}{l fn':Nat}{tmps:Array Value}{assign body:Code}(ho:o.op= .call cl)(hc:cl.callee= .value f)(hf:a.eval f= .func (.yield l) #[] #[])
 (hy:(Instr.yield l (cl.args.map a.eval)).run P w= .ok (.round l fn' tmps assign body) w):(execOp a.eval o).run P w= .ok (.round l fn' tmps assign body) w:=by
 obtain⟨callee,args,tys⟩:=cl
 simp only at hc
 subst hc
 simp only at hy
 simp[execOp,ho,resolve,Deferred.ofValue,hf,invoke,hy,Result.andThen]
theorem J_yield(R:RoundsOk P l Inv Stop Pan){xs:List V}(y:List V){ys:List (List V)}(hx:yieldX N c=some xs)(hb:begOk c=true)(hre:Res' xs y)(ht:J none P N [] (finI P fn l Inv Stop Pan fl (some ys)) (resY N c true))(hs:J none P N [] (finI P fn l Inv Stop Pan fl none) (resY N c false)):J none P N [] (finI P fn l Inv Stop Pan fl (some (y::ys))) c:=by
 refine⟨ht.1,fun S wl M0 hH M ρ f w ha=> ?_⟩
 unfold yieldX at hx
 split at hx
 ·rename_i xs' wr hyo
  split at hx
  ·rename_i hfk
   cases hx
   unfold resY at ht hs
   rw[hyo]at ht hs
   unfold yieldOf at hyo
   split at hyo
   ·rename_i all o rest k htd
    split at hyo
    ·rename_i cl hg hop
     split at hyo
     ·rename_i fop hcal
      split at hyo
      ·rename_i hfv hob _
       simp only[after_eq htd]at ht hs
       have hfe:=evalV_rel (ds:=[]) ha fop
       rw[hfv]at hfe
       simp only[RelV]at hfe
       obtain⟨i,hi,_,hfe⟩:=hfe
       obtain⟨i',hi',hok⟩:=ha.ow.own 2000 _ hob
       rw[hi]at hi';cases hi'
       have hok:S.r0 2000=some i:=hok
       obtain⟨hinv,j,hj,hjl⟩:=hH
       rw[hok]at hj;cases hj
       rw[hjl]at hfe
       have hargs:=evsV_rel (xs:=cl.args.toList) (evalV_rel (ds:=[]) ha)
       obtain⟨M1,r1,o1,d1⟩:=argsOf_sound ha.ow hargs hyo
       have hst:=o1.step
       have hinv1:=R.inv _ _ _ _ _ _ _ hinv hst
       obtain⟨fn',tmps,assign,body,hrun,hround⟩:=R.round y ys _ M1 w _ hinv1 o1.sits (hre.rel (d1 noR)) hst.own
       rw[htd]
       simp only[Wk,Exit.then]
       refine L_wp (gd_spec ha hg) ?_
       have hexec:=run_yieldOp (P:=P) (a:=fr N f []) (w:=w) hop hcal hfe (by
        have e:cl.args.map (fr N f []).eval=(cl.args.toList.map (fr N f []).eval).toArray:=by apply Array.ext';simp
        rw[e];exact hrun)
       refine⟨fun _ _=>trivial,?_⟩
       rw[show(WF none).round=none from rfl,sem_plain (by rw[hop];rfl),hexec]
       refine⟨fun h=>(by cases h),RoundIn.mono hround ?_⟩
       rintro e w2 ⟨M2,hle,hsit,hszw,hsz,hkept,hcase⟩
       have hb:noBeg k=true:=by unfold begOk at hb;rw[htd]at hb;exact hb
       have o1':Ow S wl M0 M1 ρ (obGet (obWr c.ob wr)) w:=by rw[obGet_wr];exact o1
       have hTA:TA ρ (wrO (obGet c.ob) wr)=TA ρ (obGet (obWr c.ob wr)):=by rw[obGet_wr]
       rw[hTA]at hkept hcase
       have hb':=o1'.base (r0:=ρ) hle hsit hsz hkept (fun _ _ _ h=>h) (frnOk_spec hfk) (fun _ _ _ h=>h) hszw
       have hR:Rle M M2 ρ ρ:=⟨Mem.le_trans r1.le hle,fun _ j hj=>⟨j,hj,Ile.refl j⟩⟩
       have hput:=fun(b:Bool) (td:List It)=>putS_abs (S:=⟨TA ρ (obGet (obWr c.ob wr)),ρ⟩) (wl:=w2) (M0:=M2) (M:=M2) (ρ:=ρ) (N:=N) (c:=⟨c.sl,obWr c.ob wr,td⟩) (f:=f) (w:=w2) ⟨hb',ha.ok,fun t ht=>RelV.mono hR _ (ha.sl t ht)⟩ ht.1 (Rle.refl _ _) (ob':=obWr c.ob wr) hb' (v:= .d (.bool b)) (u:= .bool b) mk_bool o.dst (.ops all rest::k)
       rcases hcase with⟨rfl,hT⟩|⟨rfl,hF⟩|⟨⟨t,u,rfl⟩,hP⟩
       ·dsimp only
        rw[fr_putd]
        have:=ht.2 ⟨TA ρ (obGet (obWr c.ob wr)),ρ⟩ w2 M2 ⟨hT,i,hi,hjl⟩ M2 ρ _ w2 (hput true [])
        simp only[Wk,Exit.then]at this
        exact this
       ·dsimp only
        rw[fr_putd]
        have:=hs.2 ⟨TA ρ (obGet (obWr c.ob wr)),ρ⟩ w2 M2 ⟨hF,i,hi,hjl⟩ M2 ρ _ w2 (hput false [])
        simp only[Wk,Exit.then]at this
        exact this
       ·exact Wk_pan k hb ⟨rfl,_,M2,.inr ⟨⟨t,u,rfl⟩,.inr hP⟩⟩
      ·cases hyo
     ·cases hyo
    ·cases hyo
   ·cases hyo
  ·cases hx
 ·cases hx
theorem J_doneI(R:RoundsOk P l Inv Stop Pan){st:Option (List (List V))}(hst:(st=some []∧fl=false)∨st=none)(hN:Nat.ble N 1024=true)(hfn:fn.results= #[])(hat:atRet c=true):J none P N [] (finI P fn l Inv Stop Pan fl st) c:=by
 refine⟨nb_le hN,fun S wl M0 hH M ρ f w ha=> ?_⟩
 have hend:(fl=false∧Inv [] (TA ρ (obGet c.ob)) M w)∨Stop (TA ρ (obGet c.ob)) M w:=by
  rcases hst with⟨rfl,h⟩|rfl
  ·exact .inl ⟨h,R.inv _ _ _ _ _ _ _ hH.1 ha.ow.step⟩
  ·exact .inr (R.stop _ _ _ _ _ _ hH.1 ha.ow.step)
 have key:(finI P fn l Inv Stop Pan fl st) S wl M0 .ret (fr N f []) w:=⟨rfl,_,results_run (rs:=[]) (vs:=[]) (by rw[hfn]) trivial,_,M,.inl ⟨_,rfl,hend⟩⟩
 unfold atRet at hat
 split at hat
 ·rename_i ht
  rw[ht]
  exact W_ret (Wk_ret _ hat key)
 ·rename_i ht
  rw[ht]
  exact key
 ·cases hat
def IterC(P:Program)(g:FuncId)(os:List (Nat×IObj))(args:List V)(ys:List (List V))(fl:Bool):Prop:=
 ∀l Inv Stop Pan,RoundsOk P l Inv Stop Pan→∀s M ρ w vals i,Ow ⟨s,ρ⟩ w M M ρ (obGet os) w→Inv ys s M w→ρ 2000=some i→i.b=l→RelVs M ρ args vals→Calls P g vals.toArray w (endI Inv Stop Pan fl)
theorem iterC_of{g:FuncId}{b:Code}{os:List (Nat×IObj)}{args:List V}{ys:List (List V)}(hf:P.funcs[g]? =some fn)(hb:fn.body=some b)(hN:fn.ntmps=N)(hv:Nat.ble args.length N=true)(h:∀l Inv Stop Pan,RoundsOk P l Inv Stop Pan→J none P N [] (finI P fn l Inv Stop Pan fl (some ys)) ⟨mkT (argT 0 args),os,[.code b]⟩):IterC P g os args ys fl:=by
 intro l Inv Stop Pan R s M ρ w vals i ho hi h2 hl hr
 have h:=h l Inv Stop Pan R
 have hlen:=nb_le hv
 refine entry hf hb hN (by rw[hr.len];exact hlen) ?_
 refine W_mono (h.2 ⟨s,ρ⟩ w M ⟨hi,i,h2,hl⟩ M ρ (argf vals) w ⟨ho,mkT_ok _,mkT_rel h.1 _ (fun t v hm=> ?_)⟩) (fun e a w hq=>hq)
 obtain⟨_,h2⟩:=argT_mem hm
 rw[Nat.sub_zero]at h2
 obtain⟨u,h3,h4⟩:=hr.get h2
 exact⟨Nat.lt_of_lt_of_le (List.getElem?_eq_some_iff.1 h2).1 hlen,by unfold argf;rw[h3];exact h4⟩
end
end Go.Proofs.YtfgbhfphjmmiaaaGreatDoor.Kx
end
section
namespace Go.Proofs.YtfgbhfphjmmiaaaGreatDoor.Kx
open Go Go.RowKit
section
variable {S:Hand} {wl w:World} {M0 M:Mem} {ρ:Rho} {ob:Nat→Option IObj}
theorem Ow.raw(h:Ow S wl M0 M ρ ob w){q b:Nat}{o:Obj}(hq:ob q=some (.raw b o))(o':Obj):w.heap[b]? =some o∧Ow S wl M0 M ρ (updO ob q (.raw b o')) (w.putObj b o'):=by
 obtain⟨i,hi,hfix,hib,hm,hw⟩:=h.own q _ hq
 have hlt:b<w.heap.size:=(Array.getElem?_eq_some_iff.1 hw).1
 obtain⟨h1,h2⟩:=h.turn (w':=w.putObj b o') hq hi i (.raw b o') (fun k _ hk=>World.putObj_heap_other (by have:=hk trivial;rw[hib]at this;exact this)) (by simp) rfl rfl rfl (fun _ c hc=>by rw[hm.2]at hc;cases hc) (Ile.refl i) (fun _=> .inl ⟨trivial,rfl⟩)
  (fun ρ' _ _=>⟨hfix,hib,hm,World.putObj_heap_same hlt⟩)
 refine⟨hw,?_⟩
 have e:updO ρ q i=ρ:=by
  funext s
  by_cases e:s=q
  ·subst e;rw[updO_same,hi]
  ·rw[updO_ne _ _ e]
 rw[e]at h2
 exact h2
theorem Ow.compP{r0 r1 r2:Rho}{M2:Mem}{ρ2:Rho}{ob2:Nat→Option IObj}{w2:World}(h:Ow ⟨S.s,r0⟩ wl M0 M ρ ob w)(h2:Ow ⟨TA ρ ob,r1⟩ w M M2 ρ2 ob2 w2)(hnf:∀q x,ob2 q≠some (.frn x))(hh:∀q i,Nat.ble 2000 q=true→r2 q=some i→∃k,ρ2 q=some k∧Ile i k):Ow ⟨S.s,r2⟩ wl M0 M2 ρ2 ob2 w2:=by
 refine⟨Nat.le_trans h.size h2.size,h2.os.trans h.os,h2.tape.trans h.tape,h2.output.trans h.output,fun k hk hS=> ?_,h2.sits,Mem.le_trans h.le h2.le,⟨h2.gl.ok,h.gl.off,h.gl.sz⟩,fun b c hb hlt=> ?_,fun q o hq=> ?_,h2.dom,h2.inj,fun q i hb hi=>hh q i hb hi⟩
 ·rw[h2.old k (by have:=h.size;omega) (fun ht=>(TA_mine h ht).1.elim hS (fun hl=>by omega))];exact h.old k hk hS
 ·rcases h2.new b c hb (by have:=h.size;omega) with h1|h1
  ·exact h.new b c h1 hlt
  ·exact(TA_mine h h1).1.elim .inr (fun hl=>by omega)
 ·obtain⟨i,hi,hok⟩:=h2.own q o hq
  refine⟨i,hi,?_⟩
  have hMb:∀b,blk i o b→S.s b∨wl.heap.size≤b:=fun b hl=>by
   rcases(blk_mine hok hl).1 with hs|hs
   ·exact(TA_mine h hs).1
   ·exact .inr (Nat.le_trans h.size hs)
  have hM:live i o→S.s i.b∨wl.heap.size≤i.b:=fun hl=>hMb _ (blk_live hl)
  cases o with
  |tree g e sz shs es hh=>exact ObjOk.tree hok hMb (fun _ _ _ _ h=>h)
  |box te cs=>obtain⟨h0,h1,rest⟩:=hok;exact⟨h0,⟨hM trivial,h1.2⟩,rest⟩
  |buf g e sz es=>
   obtain⟨h0,hg,hs,hn,ht,hx,h1⟩:=hok
   refine⟨h0,hg,hs,hn,ht,hx,fun hp=> ?_⟩
   obtain⟨h1,rest⟩:=h1 hp
   exact⟨⟨hM hp,h1.2⟩,rest⟩
  |fzs g sz es=>exact hok
  |fzb cs=>exact hok
  |mapo kk ag sz es=>obtain⟨h0,h1,rest⟩:=hok;exact⟨h0,⟨hM trivial,h1.2⟩,rest⟩
  |raw b x=>obtain⟨h0,e,h1,rest⟩:=hok;exact⟨h0,e,⟨hM trivial,h1.2⟩,rest⟩
  |frn x=>exact absurd hq (hnf q x)
theorem Ow.comp{r0:Rho}{M2:Mem}{ρ2:Rho}{ob2:Nat→Option IObj}{w2:World}(h:Ow ⟨S.s,r0⟩ wl M0 M ρ ob w)(h2:Ow ⟨TA ρ ob,ρ⟩ w M M2 ρ2 ob2 w2)(hnf:∀q x,ob2 q≠some (.frn x)):Ow ⟨S.s,r0⟩ wl M0 M2 ρ2 ob2 w2:=
 h.compP h2 hnf fun q i hb hi=>by
  obtain⟨j,h1,h3⟩:=h.held q i hb hi
  obtain⟨k,h4,h5⟩:=h2.held q j hb h1
  exact⟨k,h4,h3.trans h5⟩
end
section
variable {r:Option Nat} {P:Program} {N:Nat} {ds:List Deferred} {fin:Fin} {c:Cfg}
theorem J_begR{l q:Nat}{k:List It}{rec:Loop}(ht:c.td= .begR l::k)(hq:obGet c.ob q=some (.raw l (.loop rec)))(hs:rec.state= .ready)(hk:J r P N ds fin ⟨c.sl,obSet c.ob q (.raw l (.loop {rec with state:= .busy})),k⟩):J r P N ds fin c:=by
 refine⟨hk.1,fun S wl M0 hH M ρ f w ha=> ?_⟩
 rw[ht]
 obtain⟨h1,h2⟩:=ha.ow.raw hq (.loop {rec with state:= .busy})
 simp only[Wk,Exit.then]
 refine⟨_,run_beginRound h1 hs,hk.2 S wl M0 hH M ρ f _ ⟨?_,ha.ok,ha.sl⟩⟩
 dsimp only
 rw[obGet_set]
 exact h2
end
end Go.Proofs.YtfgbhfphjmmiaaaGreatDoor.Kx
end
section
namespace Go.Proofs.YtfgbhfphjmmiaaaGreatDoor.Kx
open Go Go.RowKit
structure Lp where
 D:Nat
 L:Nat
 fn:FuncId
 tmps:Array Value
 ps:Array Tmp
 as:Code
 bo:Code
def recOf(x:Lp)(st:LoopState)(pe:Option Code):Loop:={state:=st,pending:=pe,fn:=x.fn,tmps:=x.tmps,params:=x.ps,assign:=x.as,body:=x.bo,defers:=x.D}
def rob(x:Lp)(st:LoopState)(pe:Option Code)(ob:List (Nat×IObj)):List (Nat×IObj):=(3000,.raw x.D (.deferred (some [])))::(3001,.raw x.L (.loop (recOf x st pe)))::ob
def CInv(x:Lp)(S:Hand)(wl:World)(M0:Mem)(ρ0:Rho)(Ms:Mem)(Good:List (List V)→List (Nat×IObj)→Prop)(ys:List (List V))(T:Nat→Prop)(M:Mem)(w:World):Prop:=
 Ms.le M∧∃ρ ob,Good ys ob∧Ow ⟨S.s,ρ0⟩ wl M0 M ρ (obGet (rob x .ready none ob)) w∧∀b,T b→¬TA ρ (obGet (rob x .ready none ob)) b∧(S b∨wl.heap.size≤b)
def CStop(x:Lp)(S:Hand)(wl:World)(M0:Mem)(ρ0:Rho)(Ms:Mem)(GoodX:Code→List (Nat×IObj)→Prop)(T:Nat→Prop)(M:Mem)(w:World):Prop:=
 Ms.le M∧∃ρ ob j,GoodX j ob∧Ow ⟨S.s,ρ0⟩ wl M0 M ρ (obGet (rob x .done (some j) ob)) w∧∀b,T b→¬TA ρ (obGet (rob x .done (some j) ob)) b∧(S b∨wl.heap.size≤b)
theorem CInv.it{x:Lp}{S:Hand}{wl:World}{M0 Ms:Mem}{ρ0:Rho}{Good:List (List V)→List (Nat×IObj)→Prop}:∀ys T M w T' M' w',CInv x S wl M0 ρ0 Ms Good ys T M w→ItStep T M w T' M' w'→CInv x S wl M0 ρ0 Ms Good ys T' M' w':=
 fun _ _ _ _ _ _ _ ⟨h0,ρ,ob,h1,h2,h3⟩ k=>by obtain⟨h4,h5⟩:=h2.it k h3;exact⟨Mem.le_trans h0 k.le,ρ,ob,h1,h4,h5⟩
theorem CStop.it{x:Lp}{S:Hand}{wl:World}{M0 Ms:Mem}{ρ0:Rho}{GoodX:Code→List (Nat×IObj)→Prop}:∀T M w T' M' w',CStop x S wl M0 ρ0 Ms GoodX T M w→ItStep T M w T' M' w'→CStop x S wl M0 ρ0 Ms GoodX T' M' w':=
 fun _ _ _ _ _ _ ⟨h0,ρ,ob,j,h1,h2,h3⟩ k=>by obtain⟨h4,h5⟩:=h2.it k h3;exact⟨Mem.le_trans h0 k.le,ρ,ob,j,h1,h4,h5⟩
def CPan(x:Lp)(S:Hand)(wl:World)(M0:Mem)(ρ0:Rho)(Ms:Mem)(GoodP:List (Nat×IObj)→Prop)(T:Nat→Prop)(M:Mem)(w:World):Prop:=
 Ms.le M∧∃r1 ρ ob,GoodP ob∧(∀q i,ρ0 q=some i→(∃o,obGet ob q=some o)→r1 q=some i)∧Ow ⟨S.s,r1⟩ wl M0 M ρ (obGet (rob x .busy none ob)) w∧∀b,T b→¬TA ρ (obGet (rob x .busy none ob)) b∧(S b∨wl.heap.size≤b)
def finB(x:Lp)(Good:List (List V)→List (Nat×IObj)→Prop)(GoodX:Code→List (Nat×IObj)→Prop)(GoodP:List (Nat×IObj)→Prop)(ys:List (List V)):Fin where
 H:=fun _ _ _=>True
 post:=fun S wl M0 e a w=>a.defers=[]∧((∃ρ M ob,Ow S wl M0 M ρ (obGet (rob x .busy none ob)) w∧(∀q z,obGet ob q≠some (.frn z))∧((e= .normal∧Good ys ob)∨(e= .ret∧GoodX .ret ob)∨∃id,e= .exit id∧GoodX (.exit id) ob))∨
  (∃t u,e= .panic [{v:= .iface t u,recovered:=false}])∧∃r1 ρ M ob,Ow ⟨S.s,r1⟩ wl M0 M ρ (obGet (rob x .busy none ob)) w∧(∀q i,S.r0 q=some i→(∃o,obGet (rob x .busy none ob) q=some o)→r1 q=some i)∧(∀q z,obGet ob q≠some (.frn z))∧GoodP ob)
def roundPostP(P:Program)(l:Nat)(R:Ending→World→Prop):Exit→Act→World→Prop
 | .normal,_,w=>∃v w',(Instr.endRound l none).run P w= .ok v w'∧R (.returned v) w'
 | .ret,_,w=>∃v w',(Instr.endRound l (some .ret)).run P w= .ok v w'∧R (.returned v) w'
 | .exit id,_,w=>∃v w',(Instr.endRound l (some (.exit id))).run P w= .ok v w'∧R (.returned v) w'
 | .panic ch,a,w=>a.defers=[]∧R (.panicked ch) w
 |_,_,_=>False
theorem roundIn_of_W{P:Program}{l:Nat}{f:FuncId}{tmps:Array Value}{assign body:Code}{w:World}{R:Ending→World→Prop}(hf:∃fn,P.funcs[f]? =some fn)
 (h:W (some l) P assign (Exit.then (fun a₁ w₁=>∃w₂,(Instr.beginRound l).run P w₁= .ok () w₂∧W (some l) P body (roundPostP P l R) a₁ w₂) (fun _ _ _=>False)) {tmps:=tmps,defers:=[]} w):
 RoundIn (WF none) 0 P l f tmps assign body w R:=by
 refine⟨trivial,fun c cs hr=> ?_⟩
 let b:Frame:={(default:Frame) with fn:=f,kind:= .normal,roundOf:=some l}
 have hb0:Frame.round l f tmps assign body .normal=b.atR {tmps:=tmps,defers:=[]} [.code assign,.beginRound,.code body]:=by
  simp[Frame.round,Frame.atR,b]
 obtain⟨e,a₁,w₁,hq,harr⟩:=W_at h b [.beginRound,.code body] (c::cs) rfl hf
 rw[←hb0]at harr
 cases e with
 |normal=>
  obtain⟨w₂,hbr,hbody⟩:=hq
  have s1:StepsIn (Machine.fenced P (WF (some l))) P (lone (b.atR a₁ [.beginRound,.code body]) (c::cs) w₁) (lone (b.atR a₁ [.code body]) (c::cs) w₂):=
   .one (WF_calm (fr:=b.atR a₁ [.beginRound,.code body]) rfl) (stepR_beginRound rfl hbr)
  obtain⟨e₂,a₂,w₃,hq₂,harr₂⟩:=W_at hbody b [] (c::cs) rfl hf
  cases e₂ with
  |normal=>
   obtain⟨v,w₄,hend,hR⟩:=hq₂
   exact⟨.returned v,w₄,hR,(StepsIn.trans harr s1).trans (StepsIn.trans harr₂ (.one (WF_calm (fr:=b.atR a₂ []) rfl) (stepR_round_end rfl rfl hend)))⟩
  |ret=>
   obtain⟨v,w₄,hend,hR⟩:=hq₂
   obtain⟨k₁,hs⟩:=harr₂.2 rfl
   exact⟨.returned v,w₄,hR,(StepsIn.trans harr s1).trans (StepsIn.trans hs (.one (WF_calm (fr:=b.atR a₂ (.code .ret::k₁)) rfl) (stepR_round_ret rfl rfl hend)))⟩
  |exit id=>
   obtain⟨v,w₄,hend,hR⟩:=hq₂
   obtain⟨k₁,hk,hs⟩:=harr₂.2 rfl rfl
   exact⟨.returned v,w₄,hR,(StepsIn.trans harr s1).trans (StepsIn.trans hs (.one (WF_calm (fr:=b.atR a₂ (.code (.exit id)::k₁)) rfl) (stepR_round_exit rfl rfl hk hend)))⟩
  |panic chain=>
   obtain⟨hd,hR⟩:=hq₂
   obtain⟨todo,hs⟩:=harr₂
   obtain⟨fn,hfn⟩:=hf
   have hl:Frame.leaving P {b.atR a₂ todo with mode:= .panicking chain} w₃ (.panicked chain):=⟨rfl,hd,fn,hfn⟩
   exact⟨.panicked chain,w₃,hR,(StepsIn.trans harr s1).trans (StepsIn.trans hs (.one (fenced_leaving (n:=0) trivial (WF_room _ _) hl) (step_leave_panicked hl)))⟩
  |goto t=>exact hq₂.elim
  |outgrown=>exact hq₂.elim
 |exit id=>exact hq.elim
 |goto t=>exact hq.elim
 |ret=>exact hq.elim
 |panic chain=>exact hq.elim
 |outgrown=>exact hq.elim
def setPs(N:Nat)(sl:Tri):List Tmp→List V→Option Tri
 |[],[]=>some sl
 |p::ps,v::vs=>match Nat.blt p N with|true=>setPs N (sl.set 10 p v) ps vs|false=>none
 |_,_=>none
def setF(f:Nat→Value):List (Tmp×Value)→Nat→Value
 |[]=>f
 |(p,v)::l=>setF (upd f p v) l
theorem fr_params{N:Nat}:∀(l:List (Tmp×Value)) (f:Nat→Value),l.foldl (fun t (p,v)=>t.setIfInBounds p v) (fr N f []).tmps=(fr N (setF f l) []).tmps
 |[],_=>rfl
 |(p,v)::l,f=>by
  simp only[List.foldl_cons,setF]
  have e:(fr N f []).tmps.setIfInBounds p v=(fr N (upd f p v) []).tmps:=by
   have:=congrArg Act.tmps (fr_put (N:=N) (f:=f) (ds:=[]) (d:=p) (v:=v))
   exact this
  rw[e]
  exact fr_params l (upd f p v)
theorem setPs_rel{N:Nat}(hN:N≤1024){M:Mem}{ρ:Rho}:∀{ps:List Tmp} {vs:List V} {us:List Value} {sl sl':Tri} {f:Nat→Value},setPs N sl ps vs=some sl'→sl.ok 10→RelVs M ρ vs us→(∀t,t<N→RelV M ρ (sl.get 10 t) (f t))→
 sl'.ok 10∧(∀t,t<N→RelV M ρ (sl'.get 10 t) (setF f (ps.zip us) t))∧us.length=ps.length
 |[],[],us,sl,sl',f,h,hok,hr,hs=>by
  simp only[setPs,Option.some.injEq]at h
  subst h
  simp only[RelVs]at hr
  subst hr
  exact⟨hok,hs,rfl⟩
 |p::ps,v::vs,us,sl,sl',f,h,hok,hr,hs=>by
  unfold setPs at h
  split at h
  ·rename_i hp
   simp only[RelVs]at hr
   obtain⟨u,us',rfl,h1,h2⟩:=hr
   have hp:=nb_lt hp
   obtain⟨a1,a2,a3⟩:=setPs_rel hN (f:=upd f p u) h (Tri.set_ok _ _ _ _ hok) h2 (fun t ht=>by
    by_cases e:t=p
    ·subst e;rw[Tri.get_set_same,upd_same];exact h1
    ·rw[Tri.get_set_ne _ _ _ _ _ hok (by omega) (by omega) (fun e'=>e e'.symm),upd_ne _ _ e];exact hs t ht)
   exact⟨a1,a2,by simp[a3]⟩
  ·cases h
 |[],_::_,_,_,_,_,h,_,_,_=>by cases h
 |_::_,[],_,_,_,_,h,_,_,_=>by cases h
section
variable {P:Program} {N:Nat} {x:Lp} {S:Hand} {wl:World} {M0 Ms:Mem} {ρ0:Rho} {Good:List (List V)→List (Nat×IObj)→Prop} {GoodX:Code→List (Nat×IObj)→Prop} {GoodP:List (Nat×IObj)→Prop} {sl:Tri} {f:Nat→Value}
theorem round_of(hfx:∃fn,P.funcs[x.fn]? =some fn)(hN:N≤1024)(hx:x.tmps=(fr N f []).tmps)(hok:sl.ok 10)(hsl:∀t,t<N→RelV Ms ρ0 (sl.get 10 t) (f t))(hbig:∀r i,ρ0 r=some i→Nat.ble 2000 r=true)
 (hnf:∀ys ob,Good ys ob→∀q z,obGet ob q≠some (.frn z))
 (hJ:∀y ys ob,Good (y::ys) ob→∃sl',setPs N sl x.ps.toList y=some sl'∧J (some x.L) P N [] (finB x Good GoodX GoodP ys) ⟨sl',rob x .ready none ob,[.code x.as,.begR x.L,.code x.bo]⟩)
 (y:List V) (ys:List (List V)) (T:Nat→Prop) (M:Mem) (w:World) (vals:List Value) (hI:CInv x S wl M0 ρ0 Ms Good (y::ys) T M w) (hs:Sits M w) (hr:RelVs M noR y vals) (hT0:∀b,T b→b<w.heap.size):
 Yields P x.L vals w (fun e w'=>∃M',M.le M'∧Sits M' w'∧Sz w'∧w.heap.size≤w'.heap.size∧(∀k,T k→w'.heap[k]? =w.heap[k]?∧M' k=M k)∧
  ((e= .returned (.bool true)∧CInv x S wl M0 ρ0 Ms Good ys T M' w')∨(e= .returned (.bool false)∧CStop x S wl M0 ρ0 Ms GoodX T M' w')∨(panE e∧CPan x S wl M0 ρ0 Ms GoodP T M' w'))):=by
 obtain⟨hle,ρ,ob,hg,ho,hT⟩:=hI
 obtain⟨sl',hset,hj⟩:=hJ y ys ob hg
 have hnf':∀(st:LoopState) (pe:Option Code) (ob:List (Nat×IObj)),(∀q z,obGet ob q≠some (.frn z))→∀q z,obGet (rob x st pe ob) q≠some (.frn z):=fun st pe ob h q z=>by
  simp only[rob,obGet]
  split
  ·intro e;cases e
  ·split
   ·intro e;cases e
   ·exact h q z
 have h1:obGet (rob x .ready none ob) 3001=some (.raw x.L (.loop (recOf x .ready none))):=rfl
 have hR:Rle Ms M ρ0 ρ:=⟨hle,fun r i hi=>ho.held r i (hbig r i hi) hi⟩
 obtain⟨a1,a2,a3⟩:=setPs_rel hN (f:=f) hset hok (RelVs.mono (ρ':=ρ) ⟨M.le_refl,fun r i hi=>by cases hi⟩ _ hr) (fun t ht=>RelV.mono hR _ (hsl t ht))
 have hy:=run_yield (P:=P) (args:=vals.toArray) (ho.raw h1 (.loop (recOf x .ready none))).1 (by simp[recOf,a3])
 refine⟨x.fn,_,x.as,x.bo,hy,roundIn_of_W hfx ?_⟩
 have hb:=ho.base (r0:=ρ) M.le_refl hs (Nat.le_refl _) (fun k hk=>⟨rfl,rfl⟩) (fun q i hq _=>absurd hq (hnf' _ _ _ (hnf _ _ hg) q q)) (fun q z hq=>absurd hq (hnf' _ _ _ (hnf _ _ hg) q z)) (fun _ _ _ h=>h) ho.szw
 have hw:=hj.2 ⟨TA ρ (obGet (rob x .ready none ob)),ρ⟩ w M trivial M ρ (setF f (x.ps.toList.zip vals)) w ⟨hb,a1,a2⟩
 have hfr:({tmps:=((recOf x .ready none).params.zip vals.toArray).foldl (fun t (p,v)=>t.setIfInBounds p v) (recOf x .ready none).tmps,defers:=[]}:Act)=fr N (setF f (x.ps.toList.zip vals)) []:=by
  have e:((recOf x .ready none).params.zip vals.toArray).foldl (fun t (p,v)=>t.setIfInBounds p v) (recOf x .ready none).tmps=(fr N (setF f (x.ps.toList.zip vals)) []).tmps:=by
   rw[←fr_params,←Array.foldl_toList]
   simp[recOf,hx]
  rw[e];rfl
 rw[hfr]
 simp only[Wk,Exit.then]at hw
 have hup:∀(st st':LoopState) (pe pe':Option Code) (ob:List (Nat×IObj)),updO (obGet (rob x st pe ob)) 3001 (.raw x.L (.loop (recOf x st' pe')))=obGet (rob x st' pe' ob):=fun st st' pe pe' ob=>by
  funext q
  by_cases e:q=3001
  ·subst e;rw[updO_same];rfl
  ·rw[updO_ne _ _ e]
   simp only[rob,obGet]
   split
   ·rfl
   ·have:Nat.beq q 3001=false:=beq_false e
    simp only[this]
 have hLTA:TA ρ (obGet (rob x .ready none ob)) x.L:=by
  obtain⟨i,hi,_,hib,_⟩:=ho.own 3001 _ h1
  exact⟨3001,i,_,hi,h1,.inl ⟨trivial,hib⟩⟩
 have fin:∀(st':LoopState) (pe':Option Code) (ρ2:Rho) (M2:Mem) (ob2:List (Nat×IObj)) (w3:World),Ow ⟨TA ρ (obGet (rob x .ready none ob)),ρ⟩ w M M2 ρ2 (obGet (rob x .busy none ob2)) w3→(∀q z,obGet ob2 q≠some (.frn z))→
  w3.heap[x.L]? =some (.loop (recOf x .busy none))∧M.le M2∧Sits M2 (w3.putObj x.L (.loop (recOf x st' pe')))∧w.heap.size≤(w3.putObj x.L (.loop (recOf x st' pe'))).heap.size∧(∀k,T k→(w3.putObj x.L (.loop (recOf x st' pe'))).heap[k]? =w.heap[k]?∧M2 k=M k)∧
  Ow ⟨S.s,ρ0⟩ wl M0 M2 ρ2 (obGet (rob x st' pe' ob2)) (w3.putObj x.L (.loop (recOf x st' pe')))∧∀b,T b→¬TA ρ2 (obGet (rob x st' pe' ob2)) b∧(S b∨wl.heap.size≤b):=fun st' pe' ρ2 M2 ob2 w3 h2 hn2=>by
  have hc:=ho.comp h2 (hnf' _ _ _ hn2)
  have h3:obGet (rob x .busy none ob2) 3001=some (.raw x.L (.loop (recOf x .busy none))):=rfl
  obtain⟨hh,h4⟩:=hc.raw h3 (.loop (recOf x st' pe'))
  obtain⟨_,h5⟩:=h2.raw h3 (.loop (recOf x st' pe'))
  rw[hup]at h4 h5
  refine⟨hh,h2.le,h5.sits,h5.size,fun k hk=>⟨h5.old k (hT0 k hk) (hT k hk).1,?_⟩,h4,fun b hb=>⟨fun hta=> ?_,(hT b hb).2⟩⟩
  ·cases hm:M2 k with
   |none=>
    cases hm0:M k with
    |none=>rfl
    |some c=>obtain⟨c',h3,_⟩:=h2.le _ _ hm0;rw[hm]at h3;cases h3
   |some c=>
    rcases h2.new k c hm (hT0 k hk) with h6|h6
    ·exact h6.symm
    ·exact absurd h6 (hT k hk).1
  ·rcases(TA_mine h5 hta).1 with h6|h6
   ·exact(hT b hb).1 h6
   ·have:=hT0 b hb;omega
 have pan:∀(r1 ρ2:Rho) (M2:Mem) (ob2:List (Nat×IObj)) (w3:World),Ow ⟨TA ρ (obGet (rob x .ready none ob)),r1⟩ w M M2 ρ2 (obGet (rob x .busy none ob2)) w3→(∀q i,ρ q=some i→(∃o,obGet (rob x .busy none ob2) q=some o)→r1 q=some i)→(∀q z,obGet ob2 q≠some (.frn z))→
  M.le M2∧Sits M2 w3∧w.heap.size≤w3.heap.size∧(∀k,T k→w3.heap[k]? =w.heap[k]?∧M2 k=M k)∧
  ∃r2,(∀q i,ρ0 q=some i→(∃o,obGet ob2 q=some o)→r2 q=some i)∧Ow ⟨S.s,r2⟩ wl M0 M2 ρ2 (obGet (rob x .busy none ob2)) w3∧∀b,T b→¬TA ρ2 (obGet (rob x .busy none ob2)) b∧(S b∨wl.heap.size≤b):=fun r1 ρ2 M2 ob2 w3 h2 hr1 hn2=>by
  have hob:∀q,(∃o,obGet ob2 q=some o)→∃o,obGet (rob x .busy none ob2) q=some o:=fun q ⟨o,ho⟩=>by
   simp only[rob,obGet]
   split
   ·exact⟨_,rfl⟩
   ·split
    ·exact⟨_,rfl⟩
    ·exact⟨o,ho⟩
  have hc:=ho.compP h2 (hnf' _ _ _ hn2) (r2:=restr (idsOf ob2) ρ0) (fun q i hb hq=>by
   obtain⟨hm,hq⟩:=restr_some hq
   obtain⟨j,h3,h4⟩:=ho.held q i hb hq
   obtain⟨k,h5,h6⟩:=h2.held q j hb (hr1 q j h3 (hob q (idsOf_mem.1 hm)))
   exact⟨k,h5,h4.trans h6⟩)
  refine⟨h2.le,h2.sits,h2.size,fun k hk=>⟨h2.old k (hT0 k hk) (hT k hk).1,?_⟩,_,fun q i hq ho'=> ?_,hc,fun b hb=>⟨fun hta=> ?_,(hT b hb).2⟩⟩
  ·cases hm:M2 k with
   |none=>
    cases hm0:M k with
    |none=>rfl
    |some c=>obtain⟨c',h3,_⟩:=h2.le _ _ hm0;rw[hm]at h3;cases h3
   |some c=>
    rcases h2.new k c hm (hT0 k hk) with h6|h6
    ·exact h6.symm
    ·exact absurd h6 (hT k hk).1
  ·unfold restr
   rw[idsOf_mem.2 ho']
   exact hq
  ·rcases(TA_mine h2 hta).1 with h6|h6
   ·exact(hT b hb).1 h6
   ·have:=hT0 b hb;omega
 refine W_mono hw (fun e a1 w1 hq=> ?_)
 cases e with
 |normal=>
  obtain⟨w2,hbr,hbo⟩:=hq
  refine⟨w2,hbr,W_mono hbo (fun e2 a2 w3 hfin=> ?_)⟩
  obtain⟨hdf,hfin⟩:=hfin
  rcases hfin with⟨ρ2,M2,ob2,h2,hn2,hcase⟩|⟨⟨t,u,rfl⟩,r1,ρ2,M2,ob2,h2,hr1,hn2,hgp⟩
  ·rcases hcase with⟨rfl,hgd⟩|⟨rfl,hgx⟩|⟨id,rfl,hgx⟩
   ·obtain⟨b1,b2,b3,b4,b5,b6,b7⟩:=fin .ready none ρ2 M2 ob2 w3 h2 hn2
    exact⟨_,_,run_endRound (P:=P) none b1,M2,b2,b3,b6.szw,b4,b5,.inl ⟨rfl,Mem.le_trans hle b2,ρ2,ob2,hgd,b6,b7⟩⟩
   ·obtain⟨b1,b2,b3,b4,b5,b6,b7⟩:=fin .done (some .ret) ρ2 M2 ob2 w3 h2 hn2
    exact⟨_,_,run_endRound (P:=P) (some .ret) b1,M2,b2,b3,b6.szw,b4,b5,.inr (.inl ⟨rfl,Mem.le_trans hle b2,ρ2,ob2,.ret,hgx,b6,b7⟩)⟩
   ·obtain⟨b1,b2,b3,b4,b5,b6,b7⟩:=fin .done (some (.exit id)) ρ2 M2 ob2 w3 h2 hn2
    exact⟨_,_,run_endRound (P:=P) (some (.exit id)) b1,M2,b2,b3,b6.szw,b4,b5,.inr (.inl ⟨rfl,Mem.le_trans hle b2,ρ2,ob2,.exit id,hgx,b6,b7⟩)⟩
  ·obtain⟨b2,b3,b4,b5,r2,b8,b6,b7⟩:=pan r1 ρ2 M2 ob2 w3 h2 hr1 hn2
   exact⟨hdf,M2,b2,b3,b6.szw,b4,b5,.inr (.inr ⟨⟨t,u,rfl⟩,Mem.le_trans hle b2,r2,ρ2,ob2,hgp,b8,b6,b7⟩)⟩
 |_=>exact hq
end
end Go.Proofs.YtfgbhfphjmmiaaaGreatDoor.Kx
end
section
namespace Go.Proofs.YtfgbhfphjmmiaaaGreatDoor.Kx
open Go Go.RowKit
def triRefs(K:List Nat):Tri→Bool
 | .e=>true
 | .lf v=>refsIn K v
 | .nd l r=>match triRefs K l with|true=>triRefs K r|false=>false
theorem triRefs_spec{K:List Nat}:∀(d:Nat) (t:Tri) (n:Nat),triRefs K t=true→refsIn K (t.get d n)=true
 |_,.e,_,_=>by rw[Tri.get_e];rfl
 |0,.lf v,_,h=>h
 |d+1,.lf v,_,h=>h
 |0,.nd _ _,_,_=>rfl
 |d+1,.nd l r,n,h=>by
  simp only[triRefs]at h
  split at h
  ·rename_i hl
   simp only[Tri.get]
   split
   ·exact triRefs_spec d l _ hl
   ·exact triRefs_spec d r _ h
  ·cases h
def allBigL:List Nat→Bool
 |[]=>true
 |k::l=>match Nat.ble 2000 k with|true=>allBigL l|false=>false
theorem allBigL_spec:∀{l:List Nat} {r:Nat},allBigL l=true→memN r l=true→Nat.ble 2000 r=true
 |[],_,_,h=>by cases h
 |k::l,r,hb,h=>by
  unfold allBigL at hb
  split at hb
  ·rename_i h1
   unfold memN at h
   split at h
   ·rename_i he;rw[Nat.eq_of_beq_eq_true he];exact h1
   ·exact allBigL_spec hb h
  ·cases hb
def rangeOf(N:Nat)(c:Cfg):Option (FuncId×List V×List V):=match c.td with
 | .code (.rangeFunc g _ _ _)::_=>match evalV N c.sl g with
   | .fn gf first cap=>some (gf,first,cap)
   | .d (.fnc gf)=>some (gf,[],[])
   |_=>none
 |_=>none
theorem rangeOf_spec{N:Nat}{c:Cfg}{gf:FuncId}{first cap:List V}(h:rangeOf N c=some (gf,first,cap)):∃g ps as bo k,c.td= .code (.rangeFunc g ps as bo)::k∧∀{S:Hand} {wl w:World} {M0 M:Mem} {ρ:Rho} {f:Nat→Value} {ds:List Deferred},Abs S wl M0 M ρ N c f w→∃fs cs,(fr N f ds).eval g= .func (.func gf) fs.toArray cs.toArray∧RelVs M ρ first fs∧RelVs M ρ cap cs:=by
 unfold rangeOf at h
 split at h
 ·rename_i g ps as bo k ht
  refine⟨g,ps,as,bo,k,ht,?_⟩
  intro S wl w M0 M ρ f ds ha
  have hr:=evalV_rel (ds:=ds) ha g
  split at h
  ·rename_i gf' first' cap' hv
   cases h
   rw[hv]at hr
   simp only[RelV]at hr
   exact hr
  ·rename_i gf' hv
   cases h
   rw[hv]at hr
   have hr:=relV_d hr
   generalize (fr N f ds).eval g=u at hr⊢
   cases hr
   exact⟨[],[],rfl,by simp only[RelVs],by simp only[RelVs]⟩
  ·cases h
 ·cases h
def dfsB(base:List Deferred):List Nat→List Deferred
 |[]=>base
 |D::Ds=>{target:= .collected D,args:= #[]}::dfsB base Ds
abbrev dfs(Ds:List Nat):List Deferred:=dfsB [] Ds
structure Bas where
 w:World
 s:Nat→Prop
abbrev Bas.of(w:World):Bas:=⟨w,fun _=>False⟩
structure ExtS(s0:Nat→Prop)(M0 M:Mem)(w0 w:World):Prop where
 os:w.os=w0.os
 tape:w.tape=w0.tape
 output:w.output=w0.output
 size:w0.heap.size≤w.heap.size
 block:∀k,k<w0.heap.size→¬s0 k→w.heap[k]? =w0.heap[k]?
 le:Mem.le M0 M
 sits:Sits M w
 new:∀b c,M b=some c→b<w0.heap.size→M0 b=some c∨s0 b
theorem toS{s0:Nat→Prop}{M0 M:Mem}{w0 w:World}(h:Ext M0 M w0 w):ExtS s0 M0 M w0 w:=
 ⟨h.below.os,h.below.tape,h.below.output,h.below.size,fun k hk _=>h.below.block k hk,h.le,h.sits,fun b c hb hlt=> .inl (h.new b c hb hlt)⟩
def RetO(wl:World)(M0:Mem):Option V→Ending→World→Prop
 |some v=>RetD wl M0 v
 |none=>PanD wl M0
def HM(w0:Bas)(M00:Mem)(Ds:List Nat)(S:Hand)(wl:World)(M0:Mem):Prop:=
 ExtS w0.s M00 M0 w0.w wl∧(∀b,S.s b→w0.s b∨w0.w.heap.size≤b)∧(∀D,D∈Ds→w0.w.heap.size≤D∧D<wl.heap.size∧¬S.s D∧M0 D=none∧wl.heap[D]? =some (.deferred (some [])))∧Ds.Nodup
def finG(P:Program)(fn:Func)(R:Ending→World→Prop)(w0:Bas)(M00:Mem)(hr:Rho)(Ds:List Nat):Fin where
 H:=fun S wl M0=>S.r0=hr∧HM w0 M00 Ds S wl M0
 post:=fun _ _ _ e a w=>bodyPostM (WF none) 0 P fn R e a w
abbrev finD(P:Program)(fn:Func)(v:Option V)(w0:World)(M00:Mem)(hr:Rho)(Ds:List Nat):Fin:=finG P fn (RetO w0 M00 v) (.of w0) M00 hr Ds
abbrev finM(P:Program)(fn:Func)(v:V)(w0:World)(M00:Mem)(Ds:List Nat):Fin:=finD P fn (some v) w0 M00 noR Ds
section
variable {P:Program} {N:Nat} {fn:Func} {v:V} {w0:World} {M00:Mem} {b0:Bas} {Ds:List Nat} {c:Cfg} {S:Hand} {wl w:World} {M0 M:Mem} {ρ:Rho} {ob:Nat→Option IObj} {f:Nat→Value}
theorem HM_base(hH:HM b0 M00 Ds S wl M0)(h:Ow S wl M0 M ρ ob w)(hn:∀q z,ob q≠some (.frn z)):
 HM b0 M00 Ds ⟨TA ρ ob,noR⟩ w M∧Ow ⟨TA ρ ob,noR⟩ w M M ρ ob w:=by
 obtain⟨h1,h2,h3,h4⟩:=hH
 refine⟨⟨⟨h.os.trans h1.os,h.tape.trans h1.tape,h.output.trans h1.output,Nat.le_trans h1.size h.size,fun k hk hs0=> ?_,Mem.le_trans h1.le h.le,h.sits,fun b c hb hlt=> ?_⟩,fun b hb=> ?_,fun D hD=> ?_,h4⟩,h.base M.le_refl h.sits (Nat.le_refl _) (fun k hk=>⟨rfl,rfl⟩) (fun q i hq _=>absurd hq (hn q q)) (fun q z hq=>absurd hq (hn q z)) (fun _ _ _ h=>(by cases h)) h.szw⟩
 ·rw[h.old k (Nat.lt_of_lt_of_le hk h1.size) (fun hs=>by rcases h2 k hs with h5|h5;exact hs0 h5;omega)];exact h1.block k hk hs0
 ·rcases h.new b c hb (Nat.lt_of_lt_of_le hlt h1.size) with h5|h5
  ·exact h1.new b c h5 hlt
  ·rcases h2 b h5 with h6|h6
   ·exact .inr h6
   ·omega
 ·rcases(TA_mine h hb).1 with h5|h5
  ·exact h2 b h5
  ·exact .inr (Nat.le_trans h1.size h5)
 ·obtain⟨a1,a2,a3,a4,a5⟩:=h3 D hD
  refine⟨a1,Nat.lt_of_lt_of_le a2 h.size,fun ht=> ?_,?_,by rw[h.old D a2 a3];exact a5⟩
  ·rcases(TA_mine h ht).1 with h5|h5
   ·exact a3 h5
   ·omega
  ·cases hm:M D with
   |none=>rfl
   |some c=>
    rcases h.new D c hm a2 with h5|h5
    ·rw[a4]at h5;cases h5
    ·exact absurd h5 a3
theorem pop_marks{tmps:Array Value}{R:Ending→World→Prop}{base:List Deferred}{u:FrameMode}(hu:u≠ .run)(hn:∀q z,ob q≠some (.frn z))(hbase:∀S w,HM b0 M00 [] S w M→Ow S w M M ρ ob w→LeavesInM (WF none) 0 P fn tmps R base u w):
 ∀(Ds:List Nat) (S:Hand) (wl w:World) (M0:Mem),HM b0 M00 Ds S wl M0→Ow S wl M0 M ρ ob w→LeavesInM (WF none) 0 P fn tmps R (dfsB base Ds) u w
 |[],S,wl,w,M0,hH,h=>by
  obtain⟨h1,h2⟩:=HM_base hH h hn
  exact hbase _ _ h1 h2
 |D::Ds,S,wl,w,M0,hH,h=>by
  obtain⟨⟨h1,h2,h3,h4⟩,h5⟩:=HM_base hH h hn
  obtain⟨a1,a2,a3,a4,a5⟩:=h3 D List.mem_cons_self
  refine⟨hu,.inl ⟨D,w.putObj D (.deferred none),rfl,run_takeDeferred a5,?_⟩⟩
  have hoth:∀k,k≠D→(w.putObj D (.deferred none)).heap[k]? =w.heap[k]? :=fun k hk=>World.putObj_heap_other hk
  have hsits:Sits M (w.putObj D (.deferred none)):=fun b c hb=>by
   have:b≠D:=fun e=>by rw[e,a4]at hb;cases hb
   rw[hoth b this];exact h5.sits b c hb
  refine pop_marks hu hn hbase Ds ⟨TA ρ ob,noR⟩ (w.putObj D (.deferred none)) (w.putObj D (.deferred none)) M ⟨⟨h1.os,h1.tape,h1.output,by simpa using h1.size,fun k hk hs0=> ?_,h1.le,hsits,h1.new⟩,h2,fun D' hD'=> ?_,(List.nodup_cons.1 h4).2⟩ ?_
  ·rw[hoth k (by omega)];exact h1.block k hk hs0
  ·obtain⟨b1,b2,b3,b4,b5⟩:=h3 D' (List.mem_cons_of_mem _ hD')
   refine⟨b1,by simpa using b2,b3,b4,?_⟩
   rw[hoth D' (fun e=>(List.nodup_cons.1 h4).1 (e▸hD'))];exact b5
  ·exact h.base M.le_refl hsits (by simp) (fun k hk=>⟨hoth k (fun e=>a3 (e▸hk)),rfl⟩) (fun q i hq _=>absurd hq (hn q q)) (fun q z hq=>absurd hq (hn q z)) (fun _ _ _ h=>(by cases h)) (h.szw.frame fun k _ ⟨cs,e⟩=>hoth k fun e'=>by
   obtain⟨us,⟨c,hc,_⟩,_⟩:=h.gl.ok.d k cs e
   rw[e',a4]at hc;cases hc)
theorem noFrn_spec{l:List (Nat×IObj)}(h:noFrn l=true):∀q z,obGet l q≠some (.frn z):=noFrnP h
theorem ret_read{rs:List ResultVar}{vs xs ys:List V}{wr:Wr}(hfn:fn.results=rs.toArray)(hv:retV P N c rs=some vs)(hx:argsOf (obGet c.ob) vs=some (xs,wr))(hre:Res' xs ys)(he:tupV ys=v)
 (hH:HM (.of w0) M00 [] S wl M0) (h:Abs S wl M0 M ρ N c f w):LeavesInM (WF none) 0 P fn (fr N f []).tmps (RetD w0 M00 v) [] .returning w:=by
 obtain⟨us,h3,h4⟩:=retV_ok h hv
 obtain⟨M',r1,o1,d1⟩:=argsOf_sound h.ow h4 hx
 obtain⟨h1,h2,_⟩:=hH
 refine⟨tupv us,results_run (ds:=[]) hfn h3,tupv us,M',rfl,⟨⟨o1.os.trans h1.os,o1.tape.trans h1.tape,o1.output.trans h1.output,Nat.le_trans h1.size o1.size,fun k hk=> ?_⟩,Mem.le_trans h1.le o1.le,o1.sits,fun b c hb hlt=> ?_⟩,?_⟩
 ·rw[o1.old k (Nat.lt_of_lt_of_le hk h1.size) (fun hs=>by rcases h2 k hs with h5|h5;exact h5;exact absurd hk (Nat.not_lt.2 h5))];exact h1.block k hk id
 ·rcases o1.new b c hb (Nat.lt_of_lt_of_le hlt h1.size) with h5|h5
  ·exact(h1.new b c h5 hlt).resolve_right id
  ·rcases h2 b h5 with h6|h6
   ·exact h6.elim
   ·exact absurd hlt (Nat.not_lt.2 h6)
 ·rw[←he]
  exact tupV_rel (hre.rel (d1 noR))
theorem J_retM{rs:List ResultVar}{xs:List V}(ys:List V)(hfn:fn.results=rs.toArray)(hN:Nat.ble N 1024=true)(hv:retOf P N c rs=some xs)(hre:Res' xs ys)(he:tupV ys=v)(hn:noFrn c.ob=true):J none P N (dfs Ds) (finM P fn v w0 M00 Ds) c:=by
 refine⟨nb_le hN,fun S wl M0 hH M ρ f w h=> ?_⟩
 unfold retOf at hv
 split at hv
 ·rename_i hat
  split at hv
  ·rename_i vs hvs
   split at hv
   ·rename_i xs' wr hx
    cases hv
    have key:bodyPostM (WF none) 0 P fn (RetD w0 M00 v) .ret (fr N f (dfs Ds)) w:=pop_marks (tmps:=(fr N f []).tmps) (by intro e;cases e) (noFrn_spec hn) (fun S w h1 h2=>ret_read hfn hvs hx hre he h1 ⟨h2,h.ok,h.sl⟩) Ds S wl w M0 hH.2 h.ow
    unfold atRet at hat
    split at hat
    ·rename_i ht
     rw[ht]
     exact W_ret (Wk_ret _ hat key)
    ·rename_i ht
     rw[ht]
     exact key
    ·cases hat
   ·cases hv
  ·cases hv
 ·cases hv
theorem entryM{g:FuncId}{c:Code}{vs:List Value}{R:Ending→World→Prop}(hf:P.funcs[g]? =some fn)(hb:fn.body=some c)(hN:fn.ntmps=N)(hv:vs.length≤N)
 (h:W none P c (bodyPostM (WF none) 0 P fn R) (fr N (argf vs) []) w):Calls P g vs.toArray w R:=by
 refine CallsIn.calls (F:=WF none) (n:=0) ⟨trivial,fun cs hr=> ?_⟩ (WF_room none)
 let b:Frame:={(default:Frame) with fn:=g,kind:= .normal,roundOf:=none}
 have henter:Frame.enter P g vs.toArray .normal=b.atR (fr N (argf vs) []) [.code c]:=by
  rw[←fr_entry N vs hv,←hN]
  simp[Frame.enter,Frame.atR,hf,hb,b]
 obtain⟨e,a',w',hq,harr⟩:=W_at h b [] cs rfl ⟨fn,hf⟩
 rw[←henter]at harr
 cases e with
 |normal=>
  obtain⟨e',w'',fr',hR,hs,hfn,hl⟩:=leaves_stepsInM (F:=WF none) a'.defers .returning w' {b.atR a' [] with mode:= .returning} cs rfl rfl rfl hf rfl trivial hr hq
  exact⟨e',w'',fr',hR,ComesIn.of_steps (StepsIn.trans harr (.one (WF_calm (fr:=b.atR a' []) rfl) (stepR_end rfl))) hs,hfn,hl⟩
 |ret=>
  obtain⟨todo,hs₀⟩:=harr.1 rfl
  obtain⟨e',w'',fr',hR,hs,hfn,hl⟩:=leaves_stepsInM (F:=WF none) a'.defers .returning w' {b.atR a' todo with mode:= .returning} cs rfl rfl rfl hf rfl trivial hr hq
  exact⟨e',w'',fr',hR,ComesIn.of_steps hs₀ hs,hfn,hl⟩
 |panic chain=>
  obtain⟨todo,hs₀⟩:=harr
  obtain⟨e',w'',fr',hR,hs,hfn,hl⟩:=leaves_stepsInM (F:=WF none) a'.defers (.panicking chain) w' {b.atR a' todo with mode:= .panicking chain} cs rfl rfl rfl hf rfl trivial hr hq
  exact⟨e',w'',fr',hR,ComesIn.of_steps hs₀ hs,hfn,hl⟩
 |exit id=>exact hq.elim
 |goto l=>exact hq.elim
 |outgrown=>exact⟨.outgrown,w',b,hq,harr.resolve_left (by simp[b]),rfl,trivial⟩
theorem callM_O{g:FuncId}{b:Code}{args:List V}{o:Option V}(hf:P.funcs[g]? =some fn)(hb:fn.body=some b)(hN:fn.ntmps=N)(hv:Nat.ble args.length N=true)(h:∀w0 M00,J none P N (dfs []) (finD P fn o w0 M00 noR []) ⟨mkT (argT 0 args),[],[.code b]⟩):CallO P g args o:=by
 have key:∀M w vals,Sits M w→GlA M w→RelVs M noR args vals→Calls P g vals.toArray w (RetO w M o):=by
  intro M w vals hs hgl hr
  have hl:=nb_le hv
  refine entryM hf hb hN (by rw[hr.len];exact hl) ?_
  have h:=h w M
  have:=h.2 ⟨fun _=>False,noR⟩ w M ⟨rfl,toS (Ext.refl hs),fun _ h=>h.elim,fun _ h=>(by cases h),List.nodup_nil⟩ M noR (argf vals) w ⟨⟨Nat.le_refl _,rfl,rfl,rfl,fun _ _ _=>rfl,hs,M.le_refl,hgl.entry (fun _ _ _ h=>h),fun _ _ h _=> .inl h,fun r o h=>(by simp[obGet]at h),fun r i h=>(by cases h),fun r r' o o' i i' b h=>(by simp[obGet]at h),fun r i _ h=>(by cases h)⟩,mkT_ok _,mkT_rel h.1 _ (fun t v hm=>by
   obtain⟨_,h2⟩:=argT_mem hm
   rw[Nat.sub_zero]at h2
   obtain⟨u,h3,h4⟩:=hr.get h2
   exact⟨Nat.lt_of_lt_of_le (List.getElem?_eq_some_iff.1 h2).1 hl,by unfold argf;rw[h3];exact h4⟩)⟩
  simp only[Wk,Exit.then]at this
  exact this
 cases o with
 |some v=>exact key
 |none=>exact key
theorem callM_of{g:FuncId}{b:Code}{args:List V}(hf:P.funcs[g]? =some fn)(hb:fn.body=some b)(hN:fn.ntmps=N)(hv:Nat.ble args.length N=true)(h:∀w0 M00,J none P N (dfs []) (finM P fn v w0 M00 []) ⟨mkT (argT 0 args),[],[.code b]⟩):CallF P g args v:=
 callM_O (o:=some v) hf hb hN hv h
end
def okB(K:List Nat)(ob:List (Nat×IObj)):Bool:=match noFrn ob,closedAll (obGet ob) (idsOf ob) (idsOf ob),subN K (idsOf ob),memN 3000 (idsOf ob),memN 3001 (idsOf ob) with
 |true,true,true,false,false=>true
 |_,_,_,_,_=>false
theorem okB_spec{K:List Nat}{ob:List (Nat×IObj)}(h:okB K ob=true):noFrn ob=true∧closedAll (obGet ob) (idsOf ob) (idsOf ob)=true∧subN K (idsOf ob)=true∧memN 3000 (idsOf ob)=false∧memN 3001 (idsOf ob)=false:=by
 unfold okB at h
 split at h
 ·rename_i h1 h2 h3 h4 h5;exact⟨h1,h2,h3,h4,h5⟩
 ·cases h
section
variable {P:Program} {N:Nat} {x:Lp} {Good:List (List V)→List (Nat×IObj)→Prop} {GoodX:Code→List (Nat×IObj)→Prop} {GoodP:List (Nat×IObj)→Prop} {ys:List (List V)} {c:Cfg}
theorem J_endB(hN:Nat.ble N 1024=true)(ob:List (Nat×IObj))(ht:c.td=[])(hob:c.ob=rob x .busy none ob)(hn:noFrn ob=true)(hg:Good ys ob):J (some x.L) P N [] (finB x Good GoodX GoodP ys) c:=by
 refine⟨nb_le hN,fun S wl M0 hH M ρ f w h=> ?_⟩
 rw[ht]
 exact⟨rfl,.inl ⟨ρ,M,ob,hob▸h.ow,noFrn_spec hn,.inl ⟨rfl,hg⟩⟩⟩
theorem J_retB(hN:Nat.ble N 1024=true)(ob:List (Nat×IObj)){k:List It}(ht:c.td= .code .ret::k)(hk:noBeg k=true)(hob:c.ob=rob x .busy none ob)(hn:noFrn ob=true)(hg:GoodX .ret ob):J (some x.L) P N [] (finB x Good GoodX GoodP ys) c:=by
 refine⟨nb_le hN,fun S wl M0 hH M ρ f w h=> ?_⟩
 rw[ht]
 exact W_ret (Wk_ret _ hk ⟨rfl,.inl ⟨ρ,M,ob,hob▸h.ow,noFrn_spec hn,.inr (.inl ⟨rfl,hg⟩)⟩⟩)
end
def mapTri(g:V→V):Tri→Tri
 | .e=> .e
 | .lf v=> .lf (g v)
 | .nd l r=> .nd (mapTri g l) (mapTri g r)
theorem mapTri_get{g:V→V}(hg:g .undef= .undef):∀(d:Nat) (t:Tri) (n:Nat),(mapTri g t).get d n=g (t.get d n)
 |d,.e,n=>by simp only[mapTri];rw[Tri.get_e,hg]
 |0,.lf v,n=>rfl
 |d+1,.lf v,n=>by simp only[mapTri,Tri.get];try exact hg.symm
 |0,.nd l r,n=>by simp only[mapTri,Tri.get];try exact hg.symm
 |d+1,.nd l r,n=>by
  simp only[mapTri,Tri.get]
  split
  ·exact mapTri_get hg d l _
  ·exact mapTri_get hg d r _
theorem mapTri_ok{g:V→V}:∀(d:Nat) (t:Tri),t.ok d→(mapTri g t).ok d
 |0,.e,_=>trivial
 |_+1,.e,_=>trivial
 |0,.lf _,_=>rfl
 |d+1,.lf _,h=>h
 |0,.nd _ _,h=>h
 |d+1,.nd l r,h=>⟨mapTri_ok d l h.1,mapTri_ok d r h.2⟩
def renL(p:List (Nat×Nat))(ob:Nat→Option IObj):List (Nat×Nat)→List (Nat×IObj)
 |[]=>[]
 |(a,b)::l=>match ob a with|some o=>(b,renO p o)::renL p ob l|none=>renL p ob l
theorem renL_get{p:List (Nat×Nat)}{ob:Nat→Option IObj}(q:Nat):∀l:List (Nat×Nat),(∀a b,(a,b)∈l→∃o,ob a=some o)→obGet (renL p ob l) q=match lk (inv l) q with|some a=>(match ob a with|some o=>some (renO p o)|none=>none)|none=>none
 |[],_=>rfl
 |(a,b)::l,h=>by
  obtain⟨o,ha⟩:=h a b List.mem_cons_self
  have ih:=renL_get (p:=p) q l (fun a b hm=>h a b (List.mem_cons_of_mem _ hm))
  simp only[renL,inv,lk,ha,obGet]
  cases hq:Nat.beq q b with
  |true=>simp only[ha]
  |false=>exact ih
def allIn(p:List (Nat×Nat))(ob:Nat→Option IObj):List (Nat×Nat)→Bool
 |[]=>true
 |(a,_)::l=>match ob a with|some _=>allIn p ob l|none=>false
def bigSame(p:List (Nat×Nat)):List (Nat×IObj)→Bool
 |[]=>true
 |(r,_)::l=>match Nat.ble 2000 r with
  |true=>match lk p r with|some s=>(match Nat.beq s r with|true=>bigSame p l|false=>false)|none=>false
  |false=>bigSame p l
theorem bigSame_spec{p:List (Nat×Nat)}:∀{l:List (Nat×IObj)} {r:Nat} {o:IObj},bigSame p l=true→obGet l r=some o→Nat.ble 2000 r=true→lk p r=some r
 |[],_,_,_,h,_=>by cases h
 |(q,x)::l,r,o,h,ho,hb=>by
  unfold bigSame at h
  simp only[obGet]at ho
  cases hq:Nat.beq r q with
  |true=>
   obtain rfl:=Nat.eq_of_beq_eq_true hq
   rw[hb]at h
   simp only at h
   split at h
   ·rename_i s hs
    split at h
    ·rename_i he;rw[hs,Nat.eq_of_beq_eq_true he]
    ·cases h
   ·cases h
  |false=>
   rw[hq]at ho
   refine bigSame_spec (l:=l) ?_ ho hb
   split at h
   ·split at h
    ·split at h
     ·exact h
     ·cases h
    ·cases h
   ·exact h
section
variable {r:Option Nat} {P:Program} {N:Nat} {ds:List Deferred} {fin:Fin} {c:Cfg}
theorem allIn_spec{p:List (Nat×Nat)}{ob:Nat→Option IObj}:∀{l:List (Nat×Nat)},allIn p ob l=true→∀a b,(a,b)∈l→∃o,ob a=some o
 |[],_,a,b,h=>by cases h
 |(x,y)::l,h,a,b,hm=>by
  unfold allIn at h
  split at h
  ·rename_i o ho
   rcases List.mem_cons.1 hm with e|hm
   ·cases e;exact⟨o,ho⟩
   ·exact allIn_spec h a b hm
  ·cases h
theorem J_ren(p:List (Nat×Nat))(hb:bij p=true)(ha:allIn p (obGet c.ob) p=true)(hs:bigSame p c.ob=true)(hn:noFrn c.ob=true)(hk:J r P N ds fin ⟨mapTri (renV p) c.sl,renL p (obGet c.ob) p,c.td⟩):J r P N ds fin c:=by
 refine⟨hk.1,fun S wl M0 hH M ρ f w h=> ?_⟩
 have e:renOb p (obGet c.ob)=obGet (renL p (obGet c.ob) p):=by
  funext q
  rw[renL_get q p (fun a b hm=>allIn_spec ha a b hm)]
  unfold renOb
  cases lk (inv p) q with
  |none=>rfl
  |some a=>rfl
 have ho:=h.ow.ren (r1:=S.r0) hb (fun a o t h1 h2=>by
  cases hf:isFrn o with
  |false=>rfl
  |true=>
   cases o with
   |frn z=>exact absurd h2 (noFrn_spec hn a z)
   |_=>cases hf) (fun t i hbt hi=>by
  obtain⟨j,h1,h2⟩:=h.ow.held t i hbt hi
  obtain⟨o,h3⟩:=h.ow.dom t j h1
  exact⟨j,by rw[renR_at hb (bigSame_spec hs h3 hbt)];exact h1,h2⟩)
 rw[e]at ho
 refine hk.2 S wl M0 hH M (renR p ρ) f w ⟨ho,mapTri_ok 10 _ h.ok,fun t ht=> ?_⟩
 dsimp only
 rw[mapTri_get rfl]
 exact ren_rel hb _ (h.sl t ht)
theorem J_renD{fn:Func}{R:Ending→World→Prop}{w0:Bas}{M00:Mem}{Ds:List Nat}{hr:Rho}(p:List (Nat×Nat))(hhr:∀t i,hr t=some i→lk (inv p) t=some t)(hb:bij p=true)(ha:allIn p (obGet c.ob) p=true)(hn:noFrn c.ob=true)(hk:J r P N ds (finG P fn R w0 M00 hr Ds) ⟨mapTri (renV p) c.sl,renL p (obGet c.ob) p,c.td⟩):J r P N ds (finG P fn R w0 M00 hr Ds) c:=by
 refine⟨hk.1,fun S wl M0 hH M ρ f w h=> ?_⟩
 have e:renOb p (obGet c.ob)=obGet (renL p (obGet c.ob) p):=by
  funext q
  rw[renL_get q p (fun a b hm=>allIn_spec ha a b hm)]
  unfold renOb
  cases lk (inv p) q with
  |none=>rfl
  |some a=>rfl
 have ho:=h.ow.ren (r1:=S.r0) hb (fun a o t h1 h2=>by
  cases hf:isFrn o with
  |false=>rfl
  |true=>
   cases o with
   |frn z=>exact absurd h2 (noFrn_spec hn a z)
   |_=>cases hf) (fun t i hbt hi=>by
  obtain⟨j,h1,h2⟩:=h.ow.held t i hbt hi
  rw[show S.r0=hr from hH.1]at hi
  exact⟨j,by unfold renR;rw[hhr t i hi];exact h1,h2⟩)
 rw[e]at ho
 refine hk.2 S wl M0 hH M (renR p ρ) f w ⟨ho,mapTri_ok 10 _ h.ok,fun t ht=> ?_⟩
 dsimp only
 rw[mapTri_get rfl]
 exact ren_rel hb _ (h.sl t ht)
theorem J_renM{fn:Func}{v:Option V}{w0:World}{M00:Mem}{Ds:List Nat}(p:List (Nat×Nat))(hb:bij p=true)(ha:allIn p (obGet c.ob) p=true)(hn:noFrn c.ob=true)(hk:J r P N ds (finD P fn v w0 M00 noR Ds) ⟨mapTri (renV p) c.sl,renL p (obGet c.ob) p,c.td⟩):J r P N ds (finD P fn v w0 M00 noR Ds) c:=
 J_renD p (fun _ _ h=>by cases h) hb ha hn hk
theorem hJ_of{fin:Fin}{sl:Tri}{ps:List Tmp}{y:List V}{ob:List (Nat×IObj)}{td:List It}(h1:(setPs N sl ps y).isSome=true)(h2:J r P N ds fin ⟨(setPs N sl ps y).getD .e,ob,td⟩):∃sl',setPs N sl ps y=some sl'∧J r P N ds fin ⟨sl',ob,td⟩:=by
 cases h:setPs N sl ps y with
 |none=>rw[h]at h1;cases h1
 |some sl'=>rw[h]at h2;exact⟨sl',rfl,h2⟩
end
theorem smh{α β:Type}{l k:List α}{f:α→β}{lo:Int}(h:slc l lo (l.length:Int)=some k):slc (l.map f) lo ((l.map f).length:Int)=some (k.map f):=by
 rw[List.length_map];exact sm h
theorem gmd{α β:Type}{l:List α}{f:α→β}{n:Nat}{i:Int}{y:α}(h:geti (l.drop n) i=some y):geti ((l.map f).drop n) i=some (f y):=by
 rw[←List.map_drop];exact gm h
theorem gjd{α:Type}{l:List α}{n:Nat}{i:Int}{y:α}(h:geti (l.drop n) i=some y):l[(n+i.toNat)]? =some y:=by
 have:=(geti_nat h).2
 rwa [List.getElem?_drop]at this
end Go.Proofs.YtfgbhfphjmmiaaaGreatDoor.Kx
end
section
namespace Go.Proofs.YtfgbhfphjmmiaaaGreatDoor.Kx
open Go Go.RowKit
theorem RelVs.split{M:Mem}{ρ:Rho}:∀{us vs:List Value} {xs:List V},RelVs M ρ xs (us++vs)→RelVs M ρ (xs.take us.length) us∧RelVs M ρ (xs.drop us.length) vs
 |us,vs,xs,h=>by
  have h1:=RelVs.take us.length h
  have h2:=RelVs.drop us.length h
  simp at h1 h2
  exact⟨h1,h2⟩
def xsOf(c:Cfg)(vs:List V):Option (List V):=match argsOf (obGet c.ob) vs with|some (xs,_)=>some xs|none=>none
def obR(c:Cfg)(vs:List V):List (Nat×IObj):=match argsOf (obGet c.ob) vs with|some (_,wr)=>obWr c.ob wr|none=>c.ob
theorem J_frz{r:Option Nat}{P:Program}{N:Nat}{ds:List Deferred}{fin:Fin}{c:Cfg}(q:Nat){te:TypeId}(cs:List V)(hq:obGet c.ob q=some (.box te cs))(hx:(xsOf c [.ptr q 0]).isSome=true)(hk:J r P N ds fin ⟨c.sl,obR c [.ptr q 0],c.td⟩):J r P N ds fin c:=by
 refine⟨hk.1,fun S wl M0 hH M ρ f w ha=> ?_⟩
 obtain⟨i,hi,hf,_⟩:=ha.ow.own q _ hq
 have hu:RelVs M ρ [.ptr q 0] [.pointer (some ⟨i.b,0,none⟩)]:=by
  simp only[RelVs,RelV]
  exact⟨_,_,rfl,⟨i,hi,hf,rfl⟩,rfl⟩
 cases hx':argsOf (obGet c.ob) [.ptr q 0] with
 |none=>simp[xsOf,hx']at hx
 |some p=>
  obtain⟨xs,wr⟩:=p
  obtain⟨M',r0,o0,_⟩:=argsOf_sound ha.ow hu hx'
  rw[wrO_of]at o0
  have e:obR c [.ptr q 0]=obWr c.ob wr:=by unfold obR;rw[hx']
  rw[e]at hk
  exact hk.2 S wl M0 hH M' ρ f w ⟨o0,ha.ok,fun t ht=>RelV.mono r0 _ (ha.sl t ht)⟩
theorem W_rangeFunc{r:Option Nat}{P:Program}{g:Operand}{ps:Array Tmp}{assign body:Code}{Q:Exit→Act→World→Prop}{a:Act}{w:World}
 (h:∀fn,(∃x,P.funcs[fn]? =some x)→∃(l:Nat) (mark:List Deferred) (w₁:World) (d:Deferred) (w₁':World) (f:FuncId) (args:Array Value) (w₂:World),
  (Instr.enterLoop fn a.tmps ps assign body r).run P w= .ok (l,mark) w₁∧
  (resolve a.eval (rangeCall g l) 0).run P w₁= .ok d w₁'∧
  (invoke d.target d.args).run P w₁'= .ok (.enter f args) w₂∧
  CallsIn (WF r) 0 P f args w₂ (fun e w₃=>match e with
   | .returned _=>∃jump w₄,(Instr.endLoop l).run P w₃= .ok jump w₄∧(match jump with|none=>Q .normal {a with defers:=mark++a.defers} w₄|some c=>W r P c Q {a with defers:=mark++a.defers} w₄)
   | .panicked chain=>Q (.panic chain) {a with defers:=mark++a.defers} w₃
   | .outgrown=>False)):
 W r P (.rangeFunc g ps assign body) Q a w:=by
 unfold W
 intro b k cs hro hb
 obtain⟨l,mark,w₁,d,w₁',f,args,w₂,he,hres,hinv,hF,hcall⟩:=h b.fn hb
 rw[←hro]at he
 have h0:(lone (b.atR a (.code (.rangeFunc g ps assign body)::k)) cs w).fenced P (WF r):=
  fenced_lone (.inl trivial) (fun f' _=>trivial) (WF_room _ _)
 have henter:=stepR_rangeFunc (P:=P) (b:=b) (a:=a) (k:=k) (cs:=cs) (w:=w) he hres hinv
 obtain⟨e,w₃,fr,hR,hsteps,hfn,hleave⟩:=hcall (b.atR {a with defers:=mark++a.defers} (.inRangeFunc l::k)::cs) (WF_room _ _)
 cases e with
 |outgrown=>exact hR.elim
 |returned v=>
  have hl:(lone fr (b.atR {a with defers:=mark++a.defers} (.inRangeFunc l::k)::cs) w₃).fenced P (WF r):=fenced_leaving (n:=0) trivial (WF_room _ _) hleave
  obtain⟨jump,w₄,hend,hj⟩:=hR
  have sback:StepsIn (Machine.fenced P (WF r)) P (lone (b.atR a (.code (.rangeFunc g ps assign body)::k)) cs w) (lone (b.atR {a with defers:=mark++a.defers} ((jump.map Item.code).toList++k)) cs w₄):=by
   refine .head h0 henter (StepsIn.trans hsteps (.head hl ?_ (.one (WF_calm (fr:=b.atR {a with defers:=mark++a.defers} (.endRangeFunc l::k)) rfl) (stepR_endRangeFunc hend))))
   rw[←finish_atR_inRangeFunc l v];exact step_leave_returned hleave
  cases jump with
  |none=>exact⟨.normal,_,w₄,hj,sback⟩
  |some c=>
   obtain⟨e',a'',w₅,hq,harr⟩:=W_at hj b k cs hro hb
   exact⟨e',a'',w₅,hq,.of_steps sback harr⟩
 |panicked chain=>
  have hl:(lone fr (b.atR {a with defers:=mark++a.defers} (.inRangeFunc l::k)::cs) w₃).fenced P (WF r):=fenced_leaving (n:=0) trivial (WF_room _ _) hleave
  refine⟨.panic chain,_,w₃,hR,.inRangeFunc l::k,.head h0 henter (StepsIn.trans hsteps (.one hl ?_))⟩
  rw[←Frame.raise_atR];exact step_leave_panicked hleave
def rngOf(N:Nat)(c:Cfg)(p:List (Nat×Nat))(vs:List V)(keep ids:List Nat):Option (List (Nat×IObj)×List V×List (Nat×V)×List (Nat×IObj)):=match handOf (obGet c.ob) p vs with
 |some (os,xs,wr)=>match pos ids (obGet (obWr c.ob wr)) ids,keptH ids (obWr c.ob wr),noFrn (obWr c.ob wr),disj ids (firsts p),noFrn os,obGet os 2000 with
  |some obs,true,true,true,true,none=>some (os,xs,keepS N ids (obGet (obWr c.ob wr)) c.sl keep,obs)
  |_,_,_,_,_,_=>none
 |none=>none
def onlyV(K:List Nat)(v:V):V:=match refsIn K v with|true=>v|false=> .undef
theorem onlyV_undef(K:List Nat):onlyV K .undef= .undef:=by unfold onlyV;split<;>rfl
theorem closed_keep{ob3:List (Nat×IObj)}{ob':Nat→Option IObj}(hids:∀r,memN r (idsOf ob3)=true→ob' r=obGet ob3 r):keepO (idsOf ob3) (idsOf ob3) ob'=obGet ob3:=funext fun r=>by
 cases hm:memN r (idsOf ob3) with
 |true=>rw[keepO_in hm hm,hids r hm]
 |false=>
  have:obGet ob3 r=none:=by
   cases ho:obGet ob3 r with
   |none=>rfl
   |some o=>rw[idsOf_mem.2 ⟨o,ho⟩]at hm;cases hm
  simp only[keepO,hm,this]
theorem J_rangeD{P:Program}{N:Nat}{fn0:Func}{R0:Ending→World→Prop}{w00:Bas}{M00:Mem}{hr:Rho}{base:List Deferred}{Ds:List Nat}{c:Cfg}{g:Operand}{ps:Array Tmp}{asg bo:Code}{k:List It}{gf:FuncId}{first cap xs:List V}{os:List (Nat×IObj)}{S1:List (Nat×V)}{ob0:List (Nat×IObj)}(p:List (Nat×Nat))(keep ids:List Nat)(yl:List V){ysAll:List (List V)}{fl:Bool}(K KP:List Nat)(Good:List (List V)→List (Nat×IObj)→Prop)(GoodX:Code→List (Nat×IObj)→Prop)(GoodP:List (Nat×IObj)→Prop)
 (hN:Nat.ble N 1024=true) (ht:c.td= .code (.rangeFunc g ps asg bo)::k) (hk:noBeg k=true) (hv:rangeOf N c=some (gf,first,cap)) (hl:allLt N keep=true) (hx:rngOf N c p (first++cap) keep ids=some (os,xs,S1,ob0)) (hre:Res' xs yl) (he:entersT P gf)
 (hit:IterC P gf ((2000,.frn 2000)::os) (yl.take first.length++ .yl 2000::yl.drop first.length) ysAll fl) (hK:allBigL K=true) (hkept:keptH K ob0=true) (hslots:triRefs K (mkT S1)=true) (hKP:subN KP K=true) (hg0:Good ysAll ob0) (hnf:∀ys ob,Good ys ob→okB K ob=true) (hnfX:∀j ob,GoodX j ob→okB K ob=true) (hnfP:∀ob,GoodP ob→okB KP ob=true) (hnfP0:fl=true→∀ob,Good [] ob→okB KP ob=true)
 (hfree:obGet ob0 3000=none∧obGet ob0 3001=none)
 (hJ:∀x:Lp,x.as=asg→x.bo=bo→x.ps=ps→∀y ys ob,Good (y::ys) ob→∃sl',setPs N (mkT S1) ps.toList y=some sl'∧J (some x.L) P N [] (finB x Good GoodX GoodP ys) ⟨sl',rob x .ready none ob,[.code asg,.begR x.L,.code bo]⟩)
 (hdone:fl=false→∀D ob,Good [] ob→J none P N (dfsB base (D::Ds)) (finG P fn0 R0 w00 M00 hr (D::Ds)) ⟨mkT S1,ob,k⟩)
 (hstop:∀D ob j,GoodX j ob→J none P N (dfsB base (D::Ds)) (finG P fn0 R0 w00 M00 hr (D::Ds)) ⟨mkT S1,ob,.code j::k⟩)
 (hdie:fl=true→∀D ob,Good [] ob→JP N (dfsB base (D::Ds)) (finG P fn0 R0 w00 M00 hr (D::Ds)) (mapTri (onlyV KP) (mkT S1)) ob)
 (hpan:∀D ob,GoodP ob→JP N (dfsB base (D::Ds)) (finG P fn0 R0 w00 M00 hr (D::Ds)) (mapTri (onlyV KP) (mkT S1)) ob):J none P N (dfsB base Ds) (finG P fn0 R0 w00 M00 hr Ds) c:=by
 have hN:=nb_le hN
 unfold rngOf at hx
 split at hx
 case h_2=>cases hx
 rename_i os' xs' wr hh
 split at hx
 case h_2=>cases hx
 rename_i obs hpos hkeptI hnfw hdj hnfos h2000
 cases hx
 refine⟨hN,fun S wl M0 hH Mo ρo f w hao=> ?_⟩
 obtain⟨g',ps',as',bo',k',ht',hf⟩:=rangeOf_spec hv
 rw[ht]at ht'
 cases ht'
 obtain⟨fs,cs,hge,hfs,hcs⟩:=hf (ds:=dfsB base Ds) hao
 rw[ht]
 simp only[Wk,Exit.then]
 refine W_rangeFunc (fun fn hfn=> ?_)
 --what is handed out
 unfold handOf at hh
 split at hh
 case h_2=>cases hh
 rename_i xs0 wr0 hargs0 hbij hbig
 split at hh
 case h_2=>cases hh
 rename_i hcl
 cases hh
 obtain⟨M,r0,o1,d1⟩:=argsR_sound hao.ow (hfs.append hcs) hargs0
 have hp:=o1.part (firsts p) (firsts p) (fun x o hm hx=>closedAll_spec hcl x o hm hx)
 have eR:renR p (keepR (firsts p) ρo)=renR p ρo:=by
  funext t
  unfold renR
  split
  ·rename_i q hq
   exact keepR_in (memN_firsts.2 ⟨t,bij_of hbij hq⟩)
  ·rfl
 have eO:renOb p (keepO (firsts p) (firsts p) (wrO (obGet c.ob) wr))=renOb p (wrO (obGet c.ob) wr):=by
  funext t
  unfold renOb
  split
  ·rename_i q hq
   rw[keepO_in (memN_firsts.2 ⟨t,bij_of hbij hq⟩) (memN_firsts.2 ⟨t,bij_of hbij hq⟩)]
  ·rfl
 have hq:=hp.ren (r1:=renR p ρo) hbij (fun q o t hq ho=>by
  have hm:=memN_firsts.2 ⟨t,hq⟩
  rw[keepO_in hm hm]at ho
  have:=closedAll_spec hcl q o hm ho
  cases o<;>first|rfl|cases this) (fun t i _ hi=>⟨i,by rw[eR];exact hi,Ile.refl i⟩)
 rw[eR,eO,←osOf_eq hbij]at hq
 have hargs:=hre.rel (ren_rels hbij _ d1)
 have hlen:fs.length=first.length:=hfs.len
 rw[wrO_of]at o1 hq h2000 hnfos hit
 have hosE:obGet (osOf p (obGet (obWr c.ob wr)) p)=renOb p (obGet (obWr c.ob wr)):=osOf_eq hbij _
 --what is kept
 have o0:=o1.prune (ids:=ids) (fun q o hb hq=>keptH_spec hkeptI hq hb) hpos
 have hsl:∀t,t<N→RelV M (rhoK ids ρo) ((mkT (keepS N ids (obGet (obWr c.ob wr)) c.sl keep)).get 10 t) (f t):=fun t ht=>mkT_rel hN _ (fun t v hm=>by
  obtain⟨rfl,h7⟩:=keepS_mem hm
  have hlt:=allLt_spec hl t h7
  refine⟨hlt,pv_rel o1 _ ?_⟩
  have:=RelV.mono r0 _ (hao.sl t hlt)
  simp only[evalV,show Nat.blt t N=true by simpa[Nat.blt_eq] using hlt]
  exact this) t ht
 have hTA0:∀b,TA (renR p ρo) (renOb p (obGet (obWr c.ob wr))) b→¬TA (rhoK ids ρo) (obGet ob0) b∧(S b∨wl.heap.size≤b)∧b<w.heap.size:=fun b hb=>by
  obtain⟨q,i,o,hi,ho,hlv⟩:=hb
  obtain⟨r',o',h1,h2,rfl⟩:=renOb_some ho
  unfold renR at hi
  rw[h1]at hi
  dsimp only at hi
  have hlv:=renO_blk hlv
  have hta:TA ρo (obGet (obWr c.ob wr)) b:=⟨r',i,o',hi,h2,hlv⟩
  refine⟨fun hta'=> ?_,TA_mine o1 hta⟩
  obtain⟨q',i',o2,hi',ho',hl'⟩:=hta'
  obtain⟨hm',x,hx,hlx⟩:=prune_live hpos ho'
  unfold rhoK at hi'
  rw[hm']at hi'
  dsimp only at hi'
  cases hρ:ρo q' with
  |none=>rw[hρ]at hi';cases hi'
  |some j=>
   rw[hρ]at hi'
   cases hi'
   have:=o1.inj q' r' x o' j i _ hx h2 hρ hi (hlx j _ hl') hlv
   subst this
   have:=disj_spec hdj _ (memN_spec hm')
   rw[memN_firsts.2 ⟨q,bij_of hbij h1⟩]at this
   cases this
 have ha:Abs S wl M0 M (rhoK ids ρo) N ⟨mkT (keepS N ids (obGet (obWr c.ob wr)) c.sl keep),ob0,[]⟩ f w:=⟨o0,mkT_ok _,hsl⟩
 generalize keepS N ids (obGet (obWr c.ob wr)) c.sl keep=S1 at*
 generalize rhoK ids ρo=ρ at*
 have hargs':=hargs.split
 rw[hlen]at hargs'
 --the record and the deferred block
 let x:Lp:=⟨w.heap.size,w.heap.size+1,fn,(fr N f []).tmps,ps,asg,bo⟩
 have hdisj:∀r,obGet (rob x .ready none ob0) r=updO (updO (obGet ob0) 3000 (.raw x.D (.deferred (some [])))) 3001 (.raw x.L (.loop (recOf x .ready none))) r:=fun r=>by
  simp only[rob,obGet,updO]
  by_cases e:r=3001
  ·subst e;rfl
  ·rw[beq_false e]<;>dsimp only<;>cases Nat.beq r 3000<;>rfl
 have hM:∀b,w.heap.size≤b→M b=none:=fun b hb=>by
  cases hm:M b with
  |none=>rfl
  |some c=>exact absurd (ha.ow.sits.lt hm) (by omega)
 let w1:=(w.alloc (.deferred (some []))).alloc (.loop {state:= .ready,pending:=none,fn,tmps:=(fr N f (dfsB base Ds)).tmps,params:=ps,assign:=asg,body:=bo,defers:=w.heap.size})
 have hs1:(w.alloc (.deferred (some []))).heap.size=w.heap.size+1:=by simp
 obtain⟨r1,o1'⟩:=ha.ow.alloc (d:=3000) hfree.1 (.deferred (some [])) ⟨w.heap.size,0,0,0,0,0,true,[]⟩ (.raw x.D (.deferred (some []))) rfl (fun ρ' _ hm=>⟨rfl,rfl,⟨.inr ha.ow.size,hm⟩,World.alloc_heap_new _ _⟩)
 obtain⟨r2,o2⟩:=o1'.alloc (d:=3001) (by rw[updO_ne _ _ (by omega)];exact hfree.2) (.loop (recOf x .ready none)) ⟨w.heap.size+1,0,0,0,0,0,true,[]⟩ (.raw x.L (.loop (recOf x .ready none))) hs1.symm (fun ρ' _ hm=>⟨rfl,rfl,⟨.inr (Nat.le_succ_of_le ha.ow.size),by rw[hs1]at hm;exact hm⟩,by show((w.alloc (.deferred (some []))).alloc (.loop (recOf x .ready none))).heap[w.heap.size+1]? =some (.loop (recOf x .ready none));rw[←hs1];exact World.alloc_heap_new _ _⟩)
 have hob:updO (updO (obGet ob0) 3000 (.raw x.D (.deferred (some [])))) 3001 (.raw x.L (.loop (recOf x .ready none)))=obGet (rob x .ready none ob0):=funext fun r=>(hdisj r).symm
 rw[hob]at o2
 have r12:=r1.trans r2
 generalize hρ2:updO (updO ρ 3000 (⟨w.heap.size,0,0,0,0,0,true,[]⟩:Inf)) 3001 (⟨w.heap.size+1,0,0,0,0,0,true,[]⟩:Inf)=ρ2 at o2 r12 r2
 have o2:Ow S wl M0 M ρ2 (obGet (rob x .ready none ob0)) w1:=o2
 have hw1:∀b,b<w.heap.size→w1.heap[b]? =w.heap[b]? :=fun b hb=>by
  show((w.alloc (.deferred (some []))).alloc (.loop (recOf x .ready none))).heap[b]? =w.heap[b]?
  rw[Below.heap_alloc _ _ _ (by rw[hs1];omega),Below.heap_alloc _ _ _ hb]
 --what is kept of the numbers
 have hbig':∀r i,keepR K ρ r=some i→Nat.ble 2000 r=true:=fun r i h=>allBigL_spec hK (keepR_some h).1
 have hhr:∀r i,hr r=some i→Nat.ble 2000 r=true→∃j,keepR K ρ r=some j∧Ile i j:=fun r i hi hb=>by
  obtain⟨j,h1,h2⟩:=ha.ow.held r i hb (by rw[show S.r0=hr from hH.1];exact hi)
  obtain⟨o,ho⟩:=ha.ow.dom r j h1
  exact⟨j,by rw[keepR_in (keptH_spec hkept ho hb)];exact h1,h2⟩
 have hnfr:∀(st:LoopState) (pe:Option Code) (ob:List (Nat×IObj)),(∀q z,obGet ob q≠some (.frn z))→∀q z,obGet (rob x st pe ob) q≠some (.frn z):=fun st pe ob h q z=>by
  simp only[rob,obGet]
  split
  ·intro e;cases e
  ·split
   ·intro e;cases e
   ·exact h q z
 --another table of what was handed in
 have hS:∀{r0 r0':Rho} {M:Mem} {ρ:Rho} {ob:Nat→Option IObj} {w:World},Ow ⟨S.s,r0⟩ wl M0 M ρ ob w→(∀q z,ob q≠some (.frn z))→(∀r i,Nat.ble 2000 r=true→r0' r=some i→∃j,ρ r=some j∧Ile i j)→Ow ⟨S.s,r0'⟩ wl M0 M ρ ob w:=fun{r0 r0' M ρ ob w} h hn hh=>by
  refine⟨h.size,h.os,h.tape,h.output,h.old,h.sits,h.le,h.gl,h.new,fun q o hq=> ?_,h.dom,h.inj,hh⟩
  obtain⟨i,hi,hok⟩:=h.own q o hq
  refine⟨i,hi,?_⟩
  cases o with
  |frn z=>exact absurd hq (hn q z)
  |tree g e sz shs es hh=>exact hok
  |box te cs=>exact hok
  |buf g e sz es=>exact hok
  |fzs g sz es=>exact hok
  |fzb cs=>exact hok
  |mapo kk ag sz es=>exact hok
  |raw b x=>exact hok
 have o3:Ow ⟨S.s,keepR K ρ⟩ wl M0 M ρ2 (obGet (rob x .ready none ob0)) w1:=hS (r0:=S.r0) o2 (hnfr _ _ _ (noFrn_spec (okB_spec (hnf _ _ hg0)).1)) (fun r i hb hi=>r12.ext r i (keepR_some hi).2)
 have hR:RoundsOk P (w.heap.size+1) (CInv x S wl M0 (keepR K ρ) M Good) (CStop x S wl M0 (keepR K ρ) M GoodX) (CPan x S wl M0 (keepR K ρ) M GoodP):=
  ⟨CInv.it,CStop.it,fun y ys T M w vals h1 h2 h3 h4=>round_of (f:=f) (sl:=mkT S1) hfn hN rfl ha.ok (fun t ht=>refs_rel _ (triRefs_spec 10 (mkT S1) t hslots) (ha.sl t ht)) hbig' (fun ys ob h=>noFrn_spec (okB_spec (hnf ys ob h)).1) (hJ x rfl rfl rfl) y ys T M w vals h1 h2 h3 h4⟩
 --the iterator's own
 let ρq:=renR p ρo
 let ρI:Rho:=fun r=>match Nat.beq r 2000 with|true=>some ⟨w.heap.size+1,0,0,0,0,0,true,[]⟩|false=>ρq r
 have hρI:∀r,r≠2000→ρI r=ρq r:=fun r e=>by simp only[ρI,beq_false e]
 have hq2000:ρq 2000=none:=by
  cases h:ρq 2000 with
  |none=>rfl
  |some i=>
   obtain⟨o,ho⟩:=hq.dom 2000 i h
   rw[h2000]at ho;cases ho
 have hnfos':=noFrnP hnfos
 have rI:Rle M M ρq ρI:=⟨M.le_refl,fun r i hi=>⟨i,by rw[hρI r (fun e=>by rw[e,hq2000]at hi;cases hi)];exact hi,Ile.refl i⟩⟩
 have hqb:=hq.base (w':=w1) (r0:=noR) M.le_refl o2.sits (by show w.heap.size≤((w.alloc (.deferred (some []))).alloc (.loop (recOf x .ready none))).heap.size;rw[World.size_alloc,World.size_alloc];omega) (fun b hb=>⟨hw1 b (TA_mine hq hb).2,rfl⟩) (fun q i hq' _=>absurd hq' (hnfos' q q)) (fun q z hq'=>absurd hq' (hnfos' q z)) (fun _ _ _ h=>by cases h) (hq.szw.frame fun k hk _=>hw1 k hk)
 have hI:Ow ⟨TA ρq (obGet (osOf p (obGet (obWr c.ob wr)) p)),ρI⟩ w1 M M ρI (obGet ((2000,.frn 2000)::osOf p (obGet (obWr c.ob wr)) p)) w1:=by
  refine⟨Nat.le_refl _,rfl,rfl,rfl,fun _ _ _=>rfl,o2.sits,M.le_refl,hqb.gl,fun _ _ hb _=> .inl hb,fun r o h=> ?_,fun r i h=> ?_,fun r r' o o' i i' b h1 h2 h3 h4 l1 l2=> ?_,fun r i _ hi=>⟨i,hi,Ile.refl i⟩⟩
  ·simp only[obGet]at h
   split at h
   ·rename_i e
    cases h
    obtain rfl:=Nat.eq_of_beq_eq_true e
    exact⟨_,rfl,rfl⟩
   ·rename_i e
    have hne:r≠2000:=fun e'=>by subst e';simp at e
    obtain⟨i,hi,hok⟩:=hqb.own r o h
    refine⟨i,by rw[hρI r hne];exact hi,?_⟩
    have hok:=hok.mono rI (fun _ _=>rfl) (fun _ _=>rfl)
    cases o with
    |frn z=>exact absurd h (hnfos' r z)
    |tree g e sz shs es hh=>exact hok
    |box te cs=>exact hok
    |buf g e sz es=>exact hok
    |fzs g sz es=>exact hok
    |fzb cs=>exact hok
    |mapo kk ag sz es=>exact hok
    |raw b x=>exact hok
  ·by_cases e:r=2000
   ·subst e;exact⟨_,rfl⟩
   ·rw[hρI r e]at h
    obtain⟨o,ho⟩:=hqb.dom r i h
    exact⟨o,by simp only[obGet,beq_false e];exact ho⟩
  ·have hne:∀{r o i b},obGet ((2000,IObj.frn 2000)::osOf p (obGet (obWr c.ob wr)) p) r=some o→blk i o b→r≠2000:=fun{r o i b} h hl e=>by
    subst e
    simp only[obGet,Nat.beq_refl]at h
    cases h
    exact blk_none rfl rfl hl
   have e1:=hne h1 l1
   have e2:=hne h2 l2
   simp only[obGet,beq_false e1]at h1
   simp only[obGet,beq_false e2]at h2
   rw[hρI r e1]at h3
   rw[hρI r' e2]at h4
   exact hqb.inj r r' o o' i i' b h1 h2 h3 h4 l1 l2
 have hT0:∀b,TA ρq (obGet (osOf p (obGet (obWr c.ob wr)) p)) b→¬TA ρ2 (obGet (rob x .ready none ob0)) b∧(S b∨wl.heap.size≤b):=fun b hb=>by
  rw[hosE]at hb
  obtain⟨h1,h2,h3⟩:=hTA0 b hb
  refine⟨fun hta=> ?_,h2⟩
  obtain⟨q,i,o,hi,ho,hlv⟩:=hta
  rw[←hρ2]at hi
  simp only[rob,obGet]at ho
  by_cases e1:q=3001
  ·subst e1;rw[updO_same]at hi;cases hi;have hbb:=(blk_flat hlv (by rw[←Option.some.inj ho];rfl)).2;dsimp only at hbb;omega
  ·rw[updO_ne _ _ e1]at hi
   by_cases e0:q=3000
   ·subst e0;rw[updO_same]at hi;cases hi;have hbb:=(blk_flat hlv (by rw[←Option.some.inj ho];rfl)).2;dsimp only at hbb;omega
   ·rw[updO_ne _ _ e0]at hi
    simp only[beq_false e0,beq_false e1]at ho
    exact h1 ⟨q,i,o,hi,ho,hlv⟩
 have hcall:=hit (w.heap.size+1) _ _ _ hR _ M ρI w1 (fs++ .func (.yield (w.heap.size+1)) #[] #[]::cs) ⟨w.heap.size+1,0,0,0,0,0,true,[]⟩ hI
  ⟨M.le_refl,ρ2,ob0,hg0,o3,hT0⟩ rfl rfl
  ((RelVs.mono rI _ hargs'.1).append (by
   simp only[RelVs]
   exact⟨_,_,rfl,⟨⟨w.heap.size+1,0,0,0,0,0,true,[]⟩,rfl,rfl,rfl⟩,RelVs.mono rI _ hargs'.2⟩))
 refine⟨w.heap.size+1,[{target:= .collected w.heap.size,args:= #[]}],w1,{target:= .fn (.func gf) cs.toArray,args:=fs.toArray++ #[.func (.yield (w.heap.size+1)) #[] #[]]},w1,gf,(fs++ .func (.yield (w.heap.size+1)) #[] #[]::cs).toArray,w1,run_enterLoop_outer _ _ _ _ _,?_,?_,CallsIn.mono (calls_in (r:=none) hcall) ?_⟩
 ·have:(fr N f (dfsB base Ds)).eval g= .func (.func gf) fs.toArray cs.toArray:=hge
  have h2:(fr N f (dfsB base Ds)).eval (.const (.func (.yield (w.heap.size+1)) #[] #[]))= .func (.yield (w.heap.size+1)) #[] #[]:=rfl
  simp[resolve,Deferred.ofValue,this,h2]
 ·have:=he (fs++ .func (.yield (w.heap.size+1)) #[] #[]::cs).toArray w1
  simpa[invoke] using this
 ·rintro e w3 ⟨T',M',hend⟩
  have hup:∀(st st':LoopState) (pe:Option Code) (ob:List (Nat×IObj)),updO (obGet (rob x st pe ob)) 3001 (.raw x.L (.loop (recOf x st' pe)))=obGet (rob x st' pe ob):=fun st st' pe ob=>by
   funext q
   by_cases e:q=3001
   ·subst e;rw[updO_same];rfl
   ·rw[updO_ne _ _ e]
    simp only[rob,obGet]
    split
    ·rfl
    ·have:Nat.beq q 3001=false:=beq_false e
     simp only[this]
  --the record and the block are let go;the base is laid anew
  have key:∀(st:LoopState) (pe:Option Code) (M':Mem) (rr ρ3:Rho) (ob3:List (Nat×IObj)) (w4:World) (KK:List Nat),M.le M'→okB KK ob3=true→(∀r,memN r KK=true→memN r K=true)→(∀q i,keepR K ρ q=some i→(∃o,obGet ob3 q=some o)→rr q=some i)→Ow ⟨S.s,rr⟩ wl M0 M' ρ3 (obGet (rob x st pe ob3)) w4→
   ∃S' ρ4,HM w00 M00 (w.heap.size::Ds) ⟨S',hr⟩ w4 M'∧Ow ⟨S',restr (idsOf ob3) hr⟩ w4 M' M' ρ4 (obGet ob3) w4∧∀q i,memN q KK=true→ρ q=some i→∃j,ρ4 q=some j∧Ile i j:=fun st pe M' rr ρ3 ob3 w4 KK hle hok hKK hrr h3=>by
   obtain⟨k1,k2,k3,k4,k5⟩:=okB_spec hok
   have hids:∀r,memN r (idsOf ob3)=true→obGet (rob x st pe ob3) r=obGet ob3 r:=fun r hr=>by
    have e1:Nat.beq r 3000=false:=beq_false (fun e=>by subst e;rw[hr]at k4;cases k4)
    have e2:Nat.beq r 3001=false:=beq_false (fun e=>by subst e;rw[hr]at k5;cases k5)
    simp only[rob,obGet,e1,e2]
   have hpart:=h3.part (idsOf ob3) (idsOf ob3) (fun r o hr ho=>closedAll_spec k2 r o hr (by rw[←hids r hr];exact ho))
   rw[closed_keep hids]at hpart
   have hheld:∀q i,Nat.ble 2000 q=true→memN q (idsOf ob3)=true→keepR K ρ q=some i→∃j,ρ3 q=some j∧Ile i j:=fun q i hb hm hi=>h3.held q i hb (hrr q i hi (idsOf_mem.1 hm))
   have hpart':Ow ⟨SK (idsOf ob3) ρ3 (obGet (rob x st pe ob3)),restr (idsOf ob3) hr⟩ w4 M' M' (keepR (idsOf ob3) ρ3) (obGet ob3) w4:=⟨hpart.size,hpart.os,hpart.tape,hpart.output,hpart.old,hpart.sits,hpart.le,hpart.gl,hpart.new,fun q o hq=>by
    obtain⟨i,hi,hok⟩:=hpart.own q o hq
    refine⟨i,hi,?_⟩
    cases o with
    |frn z=>exact absurd hq (noFrn_spec k1 q z)
    |tree g e sz shs es hh=>exact hok
    |box te cs=>exact hok
    |buf g e sz es=>exact hok
    |fzs g sz es=>exact hok
    |fzb cs=>exact hok
    |mapo kk ag sz es=>exact hok
    |raw b x=>exact hok,hpart.dom,hpart.inj,fun r i hb hi=>by
    obtain⟨hm,hi⟩:=restr_some hi
    obtain⟨j,h1,h2⟩:=hhr r i hi hb
    obtain⟨l,h4,h5⟩:=hheld r j hb hm h1
    exact⟨l,by rw[keepR_in hm];exact h4,h2.trans h5⟩⟩
   have h3':=hS (r0':=noR) h3 (hnfr _ _ _ (noFrn_spec k1)) (fun r i hb hi=>by cases hi)
   obtain⟨⟨h1,h2,h5,h6⟩,_⟩:=HM_base (S:=⟨S.s,noR⟩) (b0:=w00) (M00:=M00) (Ds:=Ds) hH.2 h3' (hnfr _ _ _ (noFrn_spec k1))
   have hSK:∀b,SK (idsOf ob3) ρ3 (obGet (rob x st pe ob3)) b→TA ρ3 (obGet (rob x st pe ob3)) b:=fun b ⟨r,i,o,_,a1,a2,a3⟩=>⟨r,i,o,a1,a2,a3⟩
   obtain⟨iD,hiD,_,hDb,hDm,hDw⟩:=h3.own 3000 (.raw x.D (.deferred (some []))) rfl
   refine⟨SK (idsOf ob3) ρ3 (obGet (rob x st pe ob3)),keepR (idsOf ob3) ρ3,⟨h1,fun b hb=>h2 b (hSK b hb),fun D hD=> ?_,?_⟩,hpart',fun q i hm hi=> ?_⟩
   ·rcases List.mem_cons.1 hD with rfl|hD
    ·refine⟨Nat.le_trans hH.2.1.size ha.ow.size,?_,?_,?_,hDw⟩
     ·exact(Array.getElem?_eq_some_iff.1 hDw).1
     ·rintro ⟨r,i,o,b1,b2,b3,b4⟩
      have:r=3000:=h3.inj r 3000 o _ i iD _ b3 rfl b2 hiD b4 (.inl ⟨trivial,hDb⟩)
      subst this
      rw[b1]at k4;cases k4
     ·have:=hDm.2;rw[hDb]at this;exact this
    ·obtain⟨a1,a2,a3,a4,a5⟩:=h5 D hD
     exact⟨a1,a2,fun h=>a3 (hSK D h),a4,a5⟩
   ·refine List.nodup_cons.2 ⟨fun hm=> ?_,h6⟩
    have:=(hH.2.2.2.1 _ hm).2.1
    have:=ha.ow.size
    omega
   ·have hmi:=subN_spec k3 _ hm
    obtain⟨j,b1,b2⟩:=hheld q i (hbig' q i (by rw[keepR_in (hKK q hm)];exact hi)) hmi (by rw[keepR_in (hKK q hm)];exact hi)
    exact⟨j,by rw[keepR_in hmi];exact b1,b2⟩
  --a panic:slots that hang on KP
  have pan:∀(st:LoopState) (pe:Option Code) (M':Mem) (rr ρ3:Rho) (ob3:List (Nat×IObj)) (w4:World) (t:TypeId) (u:Value),M.le M'→okB KP ob3=true→(∀q i,keepR K ρ q=some i→(∃o,obGet ob3 q=some o)→rr q=some i)→Ow ⟨S.s,rr⟩ wl M0 M' ρ3 (obGet (rob x st pe ob3)) w4→
   JP N (dfsB base (w.heap.size::Ds)) (finG P fn0 R0 w00 M00 hr (w.heap.size::Ds)) (mapTri (onlyV KP) (mkT S1)) ob3→(finG P fn0 R0 w00 M00 hr Ds).post S wl M0 (.panic [{v:= .iface t u,recovered:=false}]) (fr N f (dfsB base (w.heap.size::Ds))) w4:=fun st pe M' rr ρ3 ob3 w4 t u hle hok hrr h3 hjp=>by
   obtain⟨S',ρ4,h5,h6,h7⟩:=key st pe M' rr ρ3 ob3 w4 KP hle hok (fun r h=>subN_spec hKP r h) hrr h3
   refine hjp ⟨S',hr⟩ w4 M' ⟨rfl,h5⟩ (restr (idsOf ob3) hr) M' ρ4 w4 f t u (fun q i hi ho=> ?_) h6 (fun t ht=> ?_)
   ·unfold restr
    rw[idsOf_mem.2 ho]
    exact hi
   ·rw[mapTri_get (onlyV_undef KP)]
    unfold onlyV
    split
    ·rename_i hrf
     exact RelV.mono ⟨hle,fun r i hi=>h7 r i (keepR_some hi).1 (keepR_some hi).2⟩ _ (refs_rel _ hrf (ha.sl t ht))
    ·exact relV_undef _
  have norm:∀(st:LoopState) (pe:Option Code) (M':Mem) (ρ3:Rho) (ob3:List (Nat×IObj)) (w4:World),M.le M'→okB K ob3=true→Ow ⟨S.s,keepR K ρ⟩ wl M0 M' ρ3 (obGet (rob x st pe ob3)) w4→
   ∃S' wl' M0' ρ4,(finG P fn0 R0 w00 M00 hr (w.heap.size::Ds)).H S' wl' M0'∧Abs S' wl' M0' M' ρ4 N ⟨mkT S1,ob3,[]⟩ f w4:=fun st pe M' ρ3 ob3 w4 hle hok h3=>by
   obtain⟨S',ρ4,h5,h6,h7⟩:=key st pe M' (keepR K ρ) ρ3 ob3 w4 K hle hok (fun _ h=>h) (fun _ _ h _=>h) h3
   obtain⟨k1,k2,k3,k4,k5⟩:=okB_spec hok
   refine⟨⟨S',hr⟩,w4,M',ρ4,⟨rfl,h5⟩,⟨h6.size,h6.os,h6.tape,h6.output,h6.old,h6.sits,h6.le,h6.gl,h6.new,fun q o hq=> ?_,h6.dom,h6.inj,fun r i hb hi=> ?_⟩,ha.ok,fun t ht=> ?_⟩
   ·obtain⟨i,hi,hok⟩:=h6.own q o hq
    refine⟨i,hi,?_⟩
    cases o with
    |frn z=>exact absurd hq (noFrn_spec k1 q z)
    |tree g e sz shs es hh=>exact hok
    |box te cs=>exact hok
    |buf g e sz es=>exact hok
    |fzs g sz es=>exact hok
    |fzb cs=>exact hok
    |mapo kk ag sz es=>exact hok
    |raw b x=>exact hok
   ·obtain⟨j,h1,_⟩:=hhr r i hi hb
    exact h6.held r i hb (by show restr (idsOf ob3) hr r=some i;unfold restr;rw[subN_spec k3 _ (keepR_some h1).1];exact hi)
   ·exact RelV.mono ⟨hle,fun r i hi=>h7 r i (keepR_some hi).1 (keepR_some hi).2⟩ _ (refs_rel _ (triRefs_spec 10 (mkT S1) t hslots) (ha.sl t ht))
  rcases hend with⟨v,rfl,⟨hfl,hle,ρ3,ob3,hg3,ho3,_⟩|⟨hle,ρ3,ob3,j,hg3,ho3,_⟩⟩|⟨⟨t,u,rfl⟩,⟨hfl,hle,ρ3,ob3,hg3,ho3,_⟩|⟨hle,rr,ρ3,ob3,hg3,hrr,ho3,_⟩⟩
  ·obtain⟨hh,o4⟩:=ho3.raw (q:=3001) rfl (.loop (recOf x .exhausted none))
   rw[hup]at o4
   refine⟨none,_,run_endLoop hh (by simp[recOf]),?_⟩
   obtain⟨S',wl',M0',ρ4,h5,h6⟩:=norm _ _ _ _ _ _ hle (hnf _ _ hg3) o4
   exact(hdone hfl w.heap.size ob3 hg3).2 S' wl' M0' h5 M' ρ4 f _ ⟨h6.ow,h6.ok,h6.sl⟩
  ·obtain⟨hh,o4⟩:=ho3.raw (q:=3001) rfl (.loop (recOf x .exhausted (some j)))
   rw[hup]at o4
   refine⟨some j,_,run_endLoop hh (by simp[recOf]),?_⟩
   obtain⟨S',wl',M0',ρ4,h5,h6⟩:=norm _ _ _ _ _ _ hle (hnfX _ _ hg3) o4
   have:=(hstop w.heap.size ob3 j hg3).2 S' wl' M0' h5 M' ρ4 f _ ⟨h6.ow,h6.ok,h6.sl⟩
   simp only[Wk,Exit.then]at this
   exact this
  ·exact Wk_pan k hk (pan _ _ _ _ _ _ _ t u hle (hnfP0 hfl ob3 hg3) (fun _ _ h _=>h) ho3 (hdie hfl w.heap.size ob3 hg3))
  ·exact Wk_pan k hk (pan _ _ _ _ _ _ _ t u hle (hnfP _ hg3) hrr ho3 (hpan w.heap.size ob3 hg3))
theorem J_range{P:Program}{N:Nat}{fn0:Func}{R0:Ending→World→Prop}{w00:Bas}{M00:Mem}{hr:Rho}{base:List Deferred}{Ds:List Nat}{c:Cfg}{g:Operand}{ps:Array Tmp}{asg bo:Code}{k:List It}{gf:FuncId}{first cap xs:List V}{os:List (Nat×IObj)}{S1:List (Nat×V)}{ob0:List (Nat×IObj)}(p:List (Nat×Nat))(keep ids:List Nat)(yl:List V){ysAll:List (List V)}(K:List Nat)(Good:List (List V)→List (Nat×IObj)→Prop)(GoodX:Code→List (Nat×IObj)→Prop)
 (hN:Nat.ble N 1024=true) (ht:c.td= .code (.rangeFunc g ps asg bo)::k) (hk:noBeg k=true) (hv:rangeOf N c=some (gf,first,cap)) (hl:allLt N keep=true) (hx:rngOf N c p (first++cap) keep ids=some (os,xs,S1,ob0)) (hre:Res' xs yl) (he:entersT P gf)
 (hit:IterC P gf ((2000,.frn 2000)::os) (yl.take first.length++ .yl 2000::yl.drop first.length) ysAll false) (hK:allBigL K=true) (hkept:keptH K ob0=true) (hslots:triRefs K (mkT S1)=true) (hg0:Good ysAll ob0) (hnf:∀ys ob,Good ys ob→okB K ob=true) (hnfX:∀j ob,GoodX j ob→okB K ob=true)
 (hfree:obGet ob0 3000=none∧obGet ob0 3001=none)
 (hJ:∀x:Lp,x.as=asg→x.bo=bo→x.ps=ps→∀y ys ob,Good (y::ys) ob→∃sl',setPs N (mkT S1) ps.toList y=some sl'∧J (some x.L) P N [] (finB x Good GoodX (fun _=>False) ys) ⟨sl',rob x .ready none ob,[.code asg,.begR x.L,.code bo]⟩)
 (hdone:∀D ob,Good [] ob→J none P N (dfsB base (D::Ds)) (finG P fn0 R0 w00 M00 hr (D::Ds)) ⟨mkT S1,ob,k⟩)
 (hstop:∀D ob j,GoodX j ob→J none P N (dfsB base (D::Ds)) (finG P fn0 R0 w00 M00 hr (D::Ds)) ⟨mkT S1,ob,.code j::k⟩):J none P N (dfsB base Ds) (finG P fn0 R0 w00 M00 hr Ds) c:=
 J_rangeD p keep ids yl K [] Good GoodX (fun _=>False) hN ht hk hv hl hx hre he hit hK hkept hslots rfl hg0 hnf hnfX (fun _ h=>h.elim) (fun h=>by cases h) hfree hJ (fun _=>hdone) hstop (fun h=>by cases h) (fun _ _ h=>h.elim)
end Go.Proofs.YtfgbhfphjmmiaaaGreatDoor.Kx
end
section
namespace Go.Proofs.YtfgbhfphjmmiaaaGreatDoor.Kx
open Go Go.RowKit
section
variable {P:Program} {N:Nat}
end
section
variable {P:Program} {N:Nat} {fn:Func} {g:FuncId} {id:Nat} {o0:Oper} {rest:List Oper} {y:Code} {cap:List V}
def frns:List Nat→List (Nat×IObj)
 |[]=>[]
 |q::l=>(q,.frn q)::frns l
theorem frns_get:∀(K:List Nat) (q:Nat),obGet (frns K) q=match memN q K with|true=>some (.frn q)|false=>none
 |[],q=>rfl
 |k::K,q=>by
  have ih:=frns_get K q
  simp only[frns,obGet,memN]
  cases h:Nat.beq q k with
  |true=>obtain rfl:=Nat.eq_of_beq_eq_true h;rfl
  |false=>exact ih
end
section
variable {P:Program} {N:Nat} {fn:Func} {v:Option V} {w0:World} {M00:Mem} {Ds:List Nat} {c:Cfg} {hr:Rho} {base:List Deferred} {g:FuncId} {cap:List V}
def keepsK(p:List (Nat×Nat)):List Nat→Bool
 |[]=>true
 |q::l=>match lk (inv p) q with|some t=>(match Nat.beq t q with|true=>keepsK p l|false=>false)|none=>false
theorem keepsK_spec{p:List (Nat×Nat)}:∀{l:List Nat} {q:Nat},keepsK p l=true→memN q l=true→lk (inv p) q=some q
 |[],_,_,h=>by cases h
 |k::l,q,hb,h=>by
  unfold keepsK at hb
  split at hb
  ·rename_i t ht
   split at hb
   ·rename_i he
    unfold memN at h
    split at h
    ·rename_i h1
     obtain rfl:=Nat.eq_of_beq_eq_true h1
     rw[ht,Nat.eq_of_beq_eq_true he]
    ·exact keepsK_spec hb h
   ·cases hb
  ·cases hb
end
end Go.Proofs.YtfgbhfphjmmiaaaGreatDoor.Kx
end
section
namespace Go.Proofs.YtfgbhfphjmmiaaaGreatDoor.Kx
open Go Go.RowKit
section
variable (q g:Nat)
end
section
variable {M:Mem} {ρ:Rho} {q g:Nat} {i:Inf}
end
section
variable {S:Hand} {wl w:World} {M0 M:Mem} {ρ:Rho} {ob:Nat→Option IObj} {q g sz:Nat} {e:TypeId} {es:List (List Dat)}
end
section
variable {r:Option Nat} {P:Program} {N:Nat} {ds:List Deferred} {fin:Fin} {c:Cfg}
theorem J_frzS(t:Nat)(ht:Nat.blt t N=true)(hx:(xsOf c [c.sl.get 10 t]).isSome=true)(hk:J r P N ds fin ⟨c.sl,obR c [c.sl.get 10 t],c.td⟩):J r P N ds fin c:=by
 refine⟨hk.1,fun S wl M0 hH M ρ f w ha=> ?_⟩
 have hu:RelVs M ρ [c.sl.get 10 t] [f t]:=by
  simp only[RelVs]
  exact⟨_,_,rfl,ha.sl t (nb_lt ht),rfl⟩
 cases hx':argsOf (obGet c.ob) [c.sl.get 10 t] with
 |none=>simp[xsOf,hx']at hx
 |some p=>
  obtain⟨xs,wr⟩:=p
  obtain⟨M',r0,o0,_⟩:=argsOf_sound ha.ow hu hx'
  rw[wrO_of]at o0
  have e:obR c [c.sl.get 10 t]=obWr c.ob wr:=by unfold obR;rw[hx']
  rw[e]at hk
  exact hk.2 S wl M0 hH M' ρ f w ⟨o0,ha.ok,fun t ht=>RelV.mono r0 _ (ha.sl t ht)⟩
end
def toI(b:UInt8):Int:=(b.toNat:Int)
theorem map_byteD{f:Int→List Dat}(hf:∀x,f x=[.int .u8 x])(s:List UInt8):(s.map toI).map f=s.map byteD:=by
 rw[List.map_map]
 refine List.map_congr_left fun b _=> ?_
 simp only[Function.comp,hf]
 rfl
theorem ams{f:Int→List Dat}(hf:∀x,f x=[.int .u8 x]){l k:List Int}{s:List UInt8}(h:app l (s.map toI)=some k):app (l.map f) (s.map byteD)=some (k.map f):=by
 rw[←map_byteD hf];exact am h
theorem bym{s:List UInt8}{f:Int→List Dat}(hf:∀x,f x=[.int .u8 x]):some (s.map byteD)=some ((s.map toI).map f):=by
 rw[←map_byteD hf]
def ustr(l:List Int)(j:Nat)(m:Int):Option (List UInt8):=bif decide (0<m)&&decide (j+m.toNat≤l.length)&&decide (m≤2147483648) then some (((l.drop j).take m.toNat).map fun x=>x.toNat.toUInt8) else none
theorem strD_map{f:Int→List Dat}(hf:∀x,f x=[.int .u8 x]):∀(l:List Int),strD (l.map f)=some (l.map fun x=>x.toNat.toUInt8)
 |[]=>rfl
 |x::l=>by rw[List.map_cons,hf,strD,strD_map hf l];rfl
def toB(x:Int):UInt8:=x.toNat.toUInt8
theorem stom{f:Int→List Dat}(hf:∀x,f x=[.int .u8 x])(l:List Int):strO (l.map f)=some [.str (l.map toB)]:=by
 unfold strO
 rw[strD_map hf];rfl
theorem usm{f:Int→List Dat}(hf:∀x,f x=[.int .u8 x]){l:List Int}{j:Nat}{m:Int}{s:List UInt8}(h:ustr l j m=some s):usd (l.map f) j m=some [.str s]:=by
 unfold ustr at h
 unfold usd
 rw[List.length_map]
 cases hb:(decide (0<m)&&decide (j+m.toNat≤l.length)&&decide (m≤2147483648)) with
 |false=>rw[hb]at h;cases h
 |true=>
  rw[hb,cond_true]at h
  cases h
  rw[cond_true,←List.map_drop,←List.map_take,strD_map hf]
theorem callX_noEscape{P:Program}{g:FuncId}{fn:Func}(hf:P.funcs[g]? =some fn)(hn:(fn.name== "runtime.NumGoroutine")=false)(hb:fn.body.isNone=true)(hx:(Extern.findNext fn).isNone=true)(he:Extern.find fn=some Extern.AbiNoEscape.same)(v:V):CallX P g [v] v:=by
 intro M ρ vals hr
 simp only[RelVs]at hr
 obtain⟨u,us,rfl,h1,rfl⟩:=hr
 have hx':Extern.findNext fn=none:=by simpa using hx
 refine⟨u,h1,fun w=> ?_⟩
 rw[run_callFunc_extern hf hn hb hx' he]
 rfl
end Go.Proofs.YtfgbhfphjmmiaaaGreatDoor.Kx
end
section
namespace Go.Proofs.YtfgbhfphjmmiaaaGreatDoor.Kx
open Go Go.RowKit
section
variable {s0 s1:Nat→Prop} {r0 r1:Rho} {w0 w1 w:World} {M00 M1 M:Mem} {ρ:Rho} {ob:Nat→Option IObj}
theorem Ow.under(h:Ow ⟨s1,r1⟩ w1 M1 M ρ ob w)(hx:ExtS s0 M00 M1 w0 w1)(h2:∀b,s1 b→s0 b∨w0.heap.size≤b)(hq:Sz w0∧∀n cs,Kx.gl n=some cs→¬s0 n)(hn:∀q z,ob q≠some (.frn z))(hh:∀t i,Nat.ble 2000 t=true→r0 t=some i→∃i',ρ t=some i'∧Ile i i'):Ow ⟨s0,r0⟩ w0 M00 M ρ ob w:=by
 have mine:∀b,(s1 b∨w1.heap.size≤b)→(s0 b∨w0.heap.size≤b):=fun b hb=>hb.elim (h2 b) (fun h=> .inr (Nat.le_trans hx.size h))
 refine⟨Nat.le_trans hx.size h.size,h.os.trans hx.os,h.tape.trans hx.tape,h.output.trans hx.output,fun k hk hs=> ?_,h.sits,Mem.le_trans hx.le h.le,⟨h.gl.ok,hq.2,hq.1⟩,fun b c hb hlt=> ?_,fun r o ho=> ?_,h.dom,h.inj,hh⟩
 ·rw[h.old k (Nat.lt_of_lt_of_le hk hx.size) (fun hs'=>by rcases h2 k hs' with h5|h5;exact hs h5;exact absurd hk (Nat.not_lt.2 h5))];exact hx.block k hk hs
 ·rcases h.new b c hb (Nat.lt_of_lt_of_le hlt hx.size) with h5|h5
  ·exact hx.new b c h5 hlt
  ·rcases h2 b h5 with h6|h6
   ·exact .inr h6
   ·exact absurd hlt (Nat.not_lt.2 h6)
 ·obtain⟨i,hi,hok⟩:=h.own r o ho
  refine⟨i,hi,?_⟩
  cases o with
  |tree g e sz shs es hh=>exact ObjOk.tree hok (fun b hb=>mine _ (blk_mine hok hb).1) (fun _ _ _ _ h=>h)
  |box te cs=>
   obtain⟨h0,h1,rest⟩:=hok
   exact⟨h0,⟨mine _ h1.1,h1.2⟩,rest⟩
  |buf g e sz es=>
   obtain⟨h0,hg,hss,hn,ht,hx,h1⟩:=hok
   refine⟨h0,hg,hss,hn,ht,hx,fun hp=> ?_⟩
   obtain⟨h1,rest⟩:=h1 hp
   exact⟨⟨mine _ h1.1,h1.2⟩,rest⟩
  |fzs g sz es=>exact hok
  |fzb cs=>exact hok
  |mapo kk ag sz es=>
   obtain⟨h0,h1,rest⟩:=hok
   exact⟨h0,⟨mine _ h1.1,h1.2⟩,rest⟩
  |raw b x=>
   obtain⟨h0,e,h1,rest⟩:=hok
   exact⟨h0,e,⟨mine _ h1.1,h1.2⟩,rest⟩
  |frn q=>exact absurd ho (hn r q)
end
def RetH(s:Nat→Prop)(r0:Rho)(w0:World)(M00:Mem)(H:List (Nat×IObj))(v:V):Ending→World→Prop:=fun e w'=>
 ∃u M' ρ',e= .returned u∧Ow ⟨s,r0⟩ w0 M00 M' ρ' (obGet H) w'∧RelV M' ρ' v u
def FromH(K:List Nat)(s:Nat→Prop)(r0:Rho)(w0:World):Prop:=(Sz w0∧∀n cs,Kx.gl n=some cs→¬s n)∧∀r i,r0 r=some i→memN r K=true
abbrev finH(P:Program)(fn:Func)(H:List (Nat×IObj))(v:V)(s:Nat→Prop)(r0:Rho)(w0:World)(M00:Mem)(Ds:List Nat):Fin:=finG P fn (RetH s r0 w0 M00 H v) ⟨w0,s⟩ M00 r0 Ds
section
variable {P:Program} {N:Nat} {fn:Func} {v:V} {s:Nat→Prop} {r0:Rho} {w0:World} {M00:Mem} {Ds:List Nat} {c:Cfg} {K:List Nat}
theorem closed_nofrn{l:List (Nat×IObj)}(hc:closedAll (obGet l) (idsOf (keepH l)) (idsOf (keepH l))=true):∀q z,obGet (keepH l) q≠some (.frn z):=fun q z hq=>by
 have hm:memN q (idsOf (keepH l))=true:=idsOf_mem.2 ⟨_,hq⟩
 rw[keepH_get]at hq
 split at hq
 ·have:=closedAll_spec hc q _ hm hq
  cases this
 ·cases hq
theorem J_retH{rs:List ResultVar}{xs:List V}{H:List (Nat×IObj)}(hst:FromH K s r0 w0)(ys:List V)(hfn:fn.results=rs.toArray)(hN:Nat.ble N 1024=true)(hv:retROf P N c rs=some (xs,H))(hre:Res' xs ys)(he:tupV ys=v)(hn:noFrn c.ob=true):J none P N (dfs Ds) (finH P fn H v s r0 w0 M00 Ds) c:=by
 refine⟨nb_le hN,fun S wl M0 hH M ρ f w h=> ?_⟩
 unfold retROf at hv
 split at hv
 case h_2=>cases hv
 rename_i hat
 split at hv
 case h_2=>cases hv
 rename_i vs hvs
 split at hv
 case h_2=>cases hv
 rename_i xs' wr hx
 split at hv
 case h_2=>cases hv
 rename_i hcl
 cases hv
 have hheld:∀t i,Nat.ble 2000 t=true→r0 t=some i→∃i',ρ t=some i'∧Ile i i':=fun t i hb hi=>h.ow.held t i hb (by rw[show S.r0=r0 from hH.1];exact hi)
 have hbase:∀S2 w2,HM ⟨w0,s⟩ M00 [] S2 w2 M→Ow S2 w2 M M ρ (obGet c.ob) w2→LeavesInM (WF none) 0 P fn (fr N f []).tmps (RetH s r0 w0 M00 (keepH (obWr c.ob wr)) v) [] .returning w2:=fun S2 w2 h1 h2=>by
  have ha:Abs S2 w2 M M ρ N c f w2:=⟨h2,h.ok,h.sl⟩
  obtain⟨us,h3,h4⟩:=retV_ok ha hvs
  obtain⟨M',r1,o1,d1⟩:=argsOf_sound h2 h4 hx
  rw[←obGet_wr]at o1
  have o2:=o1.onlyH hcl
  refine⟨tupv us,results_run (ds:=[]) hfn h3,tupv us,M',_,rfl,o2.under h1.1 h1.2.1 hst.1 (closed_nofrn hcl) (fun t i hb hi=> ?_),by rw[←he];exact tupV_rel (hre.rel (d1 _))⟩
  obtain⟨i',h5,h6⟩:=hheld t i hb hi
  obtain⟨o,ho⟩:=o1.dom t i' h5
  have hm:memN t (idsOf (keepH (obWr c.ob wr)))=true:=idsOf_mem.2 ⟨o,by rw[keepH_get,hb];exact ho⟩
  exact⟨i',by rw[keepR_in hm];exact h5,h6⟩
 have key:bodyPostM (WF none) 0 P fn (RetH s r0 w0 M00 (keepH (obWr c.ob wr)) v) .ret (fr N f (dfs Ds)) w:=pop_marks (tmps:=(fr N f []).tmps) (by intro e;cases e) (noFrn_spec hn) hbase Ds S wl w M0 hH.2 h.ow
 unfold atRet at hat
 split at hat
 ·rename_i ht
  rw[ht]
  exact W_ret (Wk_ret _ hat key)
 ·rename_i ht
  rw[ht]
  exact key
 ·cases hat
theorem J_renG{r:Option Nat}{ds:List Deferred}{H:List (Nat×IObj)}(hst:FromH K s r0 w0)(p:List (Nat×Nat))(hkk:keepsK p K=true)(hb:bij p=true)(ha:allIn p (obGet c.ob) p=true)(hn:noFrn c.ob=true)(hk:J r P N ds (finH P fn H v s r0 w0 M00 Ds) ⟨mapTri (renV p) c.sl,renL p (obGet c.ob) p,c.td⟩):J r P N ds (finH P fn H v s r0 w0 M00 Ds) c:=
 J_renD p (fun t i hi=>keepsK_spec hkk (hst.2 t i hi)) hb ha hn hk
theorem callH_of{g:FuncId}{b:Code}{os H:List (Nat×IObj)}{args:List V}(hf:P.funcs[g]? =some fn)(hb:fn.body=some b)(hN:fn.ntmps=N)(hv:Nat.ble args.length N=true)(hno:noFrn os=true)(h:∀s r0 w0 M00,FromH (idsOf os) s r0 w0→J none P N (dfs []) (finH P fn H v s r0 w0 M00 []) ⟨mkT (argT 0 args),os,[.code b]⟩):CallR P g os args H v:=by
 intro s wl M0 M ρ w vals ho hr
 have hl:=nb_le hv
 refine entryM hf hb hN (by rw[hr.len];exact hl) ?_
 have hst:FromH (idsOf os) s ρ wl:=⟨⟨ho.gl.sz,ho.gl.off⟩,fun r i hi=>idsOf_mem.2 (ho.dom r i hi)⟩
 have h:=h s ρ wl M0 hst
 have hbs:=ho.base (r0:=ρ) M.le_refl ho.sits (Nat.le_refl _) (fun k hk=>⟨rfl,rfl⟩) (fun q i hq _=>absurd hq (noFrn_spec hno q q)) (fun q z hq=>absurd hq (noFrn_spec hno q z)) (fun _ _ _ h=>h) ho.szw
 have:=h.2 ⟨TA ρ (obGet os),ρ⟩ w M ⟨rfl,⟨ho.os,ho.tape,ho.output,ho.size,ho.old,ho.le,ho.sits,ho.new⟩,fun b hb=>(TA_mine ho hb).1,fun _ h=>(by cases h),List.nodup_nil⟩ M ρ (argf vals) w ⟨hbs,mkT_ok _,mkT_rel h.1 _ (fun t v hm=>by
  obtain⟨_,h2⟩:=argT_mem hm
  rw[Nat.sub_zero]at h2
  obtain⟨u,h3,h4⟩:=hr.get h2
  exact⟨Nat.lt_of_lt_of_le (List.getElem?_eq_some_iff.1 h2).1 hl,by unfold argf;rw[h3];exact h4⟩)⟩
 simp only[Wk,Exit.then]at this
 exact this
end
end Go.Proofs.YtfgbhfphjmmiaaaGreatDoor.Kx
end
section
namespace Go.Proofs.YtfgbhfphjmmiaaaGreatDoor.Kx
open Go Go.RowKit
section
variable {S:Hand} {wl w:World} {M0 M:Mem} {ρ:Rho} {ob:Nat→Option IObj}
theorem Ow.two(h:Ow S wl M0 M ρ ob w){r d:Nat}(hne:r≠d){o o' od:IObj}{i i' id:Inf}(hr:ob r=some o)(hi:ρ r=some i)(hg:Ile i i')(hgd:∀k,ρ d=some k→Ile k id)
 (hb:∀b,blk i' o' b→blk i o b∨∃x k,ob d=some x∧ρ d=some k∧blk k x b) (hbd:∀b,blk id od b→blk i o b∨∃x k,ob d=some x∧ρ d=some k∧blk k x b) (hdj:∀b,blk i' o' b→blk id od b→False)
 (hx:∀ρ',Rle M M ρ ρ'→ρ' d=some id→ObjOk S wl M ρ' w i' o') (hxd:∀ρ',Rle M M ρ ρ'→ObjOk S wl M ρ' w id od):
 Rle M M ρ (updO (updO ρ r i') d id)∧Ow S wl M0 M (updO (updO ρ r i') d id) (updO (updO ob r o') d od) w:=by
 have hρ:∀q,q≠r→q≠d→updO (updO ρ r i') d id q=ρ q:=fun q h1 h2=>by rw[updO_ne _ _ h2,updO_ne _ _ h1]
 have hob:∀q,q≠r→q≠d→updO (updO ob r o') d od q=ob q:=fun q h1 h2=>by rw[updO_ne _ _ h2,updO_ne _ _ h1]
 have hρr:updO (updO ρ r i') d id r=some i':=by rw[updO_ne _ _ hne,updO_same]
 have hobr:updO (updO ob r o') d od r=some o':=by rw[updO_ne _ _ hne,updO_same]
 have hle:Rle M M ρ (updO (updO ρ r i') d id):=⟨M.le_refl,fun q j hj=>by
  by_cases e:q=d
  ·subst e;exact⟨id,updO_same _ _ _,hgd j hj⟩
  ·by_cases e':q=r
   ·subst e';rw[hi]at hj;cases hj;exact⟨i',hρr,hg⟩
   ·exact⟨j,by rw[hρ q e' e];exact hj,Ile.refl j⟩⟩
 have other:∀q y j b,q≠r→q≠d→ob q=some y→ρ q=some j→blk j y b→¬(blk i' o' b∨blk id od b):=fun q y j b e e' hy hj hl hb'=>by
  have:blk i o b∨∃x k,ob d=some x∧ρ d=some k∧blk k x b:=hb'.elim (hb b) (hbd b)
  rcases this with h1|⟨x,k,h1,h2,h3⟩
  ·exact e (h.inj q r y o j i b hy hr hj hi hl h1)
  ·exact e' (h.inj q d y x j k b hy h1 hj h2 hl h3)
 refine⟨hle,h.size,h.os,h.tape,h.output,h.old,h.sits,h.le,h.gl,h.new,fun q y hy=> ?_,fun q j hj=> ?_,fun q q' y y' j j' b h1 h2 h3 h4 l1 l2=> ?_,fun q j hb hj=> ?_⟩
 ·by_cases e:q=d
  ·subst e;rw[updO_same]at hy;cases hy;exact⟨id,updO_same _ _ _,hxd _ hle⟩
  ·by_cases e':q=r
   ·subst e';rw[hobr]at hy;cases hy;exact⟨i',hρr,hx _ hle (updO_same _ _ _)⟩
   ·rw[hob q e' e]at hy
    obtain⟨j,h1,h2⟩:=h.own q y hy
    exact⟨j,by rw[hρ q e' e];exact h1,h2.mono hle (fun _ _=>rfl) (fun _ _=>rfl)⟩
 ·by_cases e:q=d
  ·subst e;exact⟨od,updO_same _ _ _⟩
  ·by_cases e':q=r
   ·subst e';exact⟨o',hobr⟩
   ·rw[hρ q e' e]at hj;rw[hob q e' e];exact h.dom q j hj
 ·have key:∀q y j,updO (updO ob r o') d od q=some y→updO (updO ρ r i') d id q=some j→blk j y b→(q=d∧blk id od b)∨(q=r∧blk i' o' b)∨(q≠r∧q≠d∧ob q=some y∧ρ q=some j):=fun q y j hy hj hl=>by
   by_cases e:q=d
   ·subst e;rw[updO_same]at hy hj;cases hy;cases hj;exact .inl ⟨rfl,hl⟩
   ·by_cases e':q=r
    ·subst e';rw[hobr]at hy;rw[hρr]at hj;cases hy;cases hj;exact .inr (.inl ⟨rfl,hl⟩)
    ·rw[hob q e' e]at hy;rw[hρ q e' e]at hj;exact .inr (.inr ⟨e',e,hy,hj⟩)
  rcases key q y j h1 h3 l1 with⟨e1,k1⟩|⟨e1,k1⟩|⟨n1,n2,k1,k2⟩<;>rcases key q' y' j' h2 h4 l2 with⟨e2,k3⟩|⟨e2,k3⟩|⟨n3,n4,k3,k4⟩
  ·rw[e1,e2]
  ·exact(hdj b k3 k1).elim
  ·exact(other q' y' j' b n3 n4 k3 k4 l2 (.inr k1)).elim
  ·exact(hdj b k1 k3).elim
  ·rw[e1,e2]
  ·exact(other q' y' j' b n3 n4 k3 k4 l2 (.inl k1)).elim
  ·exact(other q y j b n1 n2 k1 k2 l1 (.inr k3)).elim
  ·exact(other q y j b n1 n2 k1 k2 l1 (.inl k3)).elim
  ·exact h.inj q q' y y' j j' b k1 k3 k2 k4 l1 l2
 ·obtain⟨k,h1,h2⟩:=h.held q j hb hj
  obtain⟨k',h3,h4⟩:=hle.ext q k h1
  exact⟨k',h3,h2.trans h4⟩
theorem z_cells:∀{k:Nat} {ds:List Dat} {us:List Value} {bs:List Nat},OwnCs w M (List.replicate k .z) ds us bs→bs=[]∧RelDs M ds us
 |0,_,_,_,h=>by
  simp only[List.replicate_zero,OwnCs]at h
  obtain⟨rfl,rfl,rfl⟩:=h
  exact⟨rfl,rfl⟩
 |k+1,_,_,_,h=>by
  simp only[List.replicate_succ,OwnCs,OwnD]at h
  obtain⟨d,ds',u,us',b1,b2,rfl,rfl,rfl,⟨rfl,h1⟩,h2⟩:=h
  obtain⟨rfl,h3⟩:=z_cells h2
  exact⟨rfl,u,us',rfl,h1,h3⟩
theorem z_cells':∀{ds:List Dat} {us:List Value},RelDs M ds us→OwnCs w M (List.replicate ds.length .z) ds us []
 |[],us,h=>by
  simp only[List.length_nil,List.replicate_zero,OwnCs]
  exact⟨trivial,h,trivial⟩
 |d::ds,us,⟨u,us',e,h1,h2⟩=>by
  simp only[List.length_cons,List.replicate_succ,OwnCs,OwnD]
  exact⟨d,ds,u,us',[],[],rfl,e,rfl,⟨rfl,h1⟩,z_cells' h2⟩
theorem z_els{n:Nat}:∀{es:List (List Dat)} {us:List Value} {bs:List Nat} {j:Nat},OwnEs (fun _ x u b=>x.length=n∧OwnCs w M (List.replicate n .z) x u b) n j es us bs→bs=[]∧rL (rDs n) M us es
 |[],_,_,_,h=>⟨h.2,h.1⟩
 |x::es,_,_,j,⟨u,us',b1,b2,e1,e2,e3,⟨e4,e5⟩,e6⟩=>by
  obtain⟨rfl,h1⟩:=z_cells e5
  obtain⟨rfl,h2⟩:=z_els e6
  exact⟨e2,u,us',e1,⟨e4,h1⟩,h2⟩
theorem z_els'{n:Nat}:∀{es:List (List Dat)} {us:List Value} {j:Nat},rL (rDs n) M us es→OwnEs (fun _ x u b=>x.length=n∧OwnCs w M (List.replicate n .z) x u b) n j es us []
 |[],_,_,h=>⟨h,rfl⟩
 |x::es,_,j,⟨u,us',e1,⟨e4,e5⟩,e6⟩=>by
  refine⟨u,us',[],[],e1,rfl,(rDs n).len ⟨e4,e5⟩,⟨e4,?_⟩,z_els' e6⟩
  have:=z_cells' (w:=w) e5
  rwa [e4]at this
end
def Held(w:World)(M M':Mem)(bs:List Nat):Prop:=M.le M'∧(∀b,b∉bs→M' b=M b)∧∀b,b∈bs→∃c e z,M' b=some c∧w.heap[b]? =some (.cells c e z)
theorem Held.nil{w:World}{M:Mem}:Held w M M []:=⟨M.le_refl,fun _ _=>rfl,fun _ h=>by cases h⟩
theorem Held.app{w:World}{M M1 M2:Mem}{a b:List Nat}(h:Held w M M1 a)(k:Held w M1 M2 b):Held w M M2 (a++b):=by
 refine⟨Mem.le_trans h.1 k.1,fun y hy=> ?_,fun y hy=> ?_⟩
 ·rw[k.2.1 y (fun h'=>hy (List.mem_append_right _ h')),h.2.1 y (fun h'=>hy (List.mem_append_left _ h'))]
 ·by_cases hb:y∈b
  ·exact k.2.2 y hb
  ·rcases List.mem_append.1 hy with h'|h'
   ·obtain⟨c,e,z,h1,h2⟩:=h.2.2 y h'
    exact⟨c,e,z,by rw[k.2.1 y hb];exact h1,h2⟩
   ·exact absurd h' hb
mutual
theorem OwnD.hold{w:World}:∀(s:Sh) {M:Mem} {d:Dat} {v:Value} {bs:List Nat},OwnD w M s d v bs→bs.Nodup→(∀b,b∈bs→M b=none)→∃M',Held w M M' bs∧RelD M' d v
 | .z,M,d,v,bs,h,_,_=>by
   simp only[OwnD]at h
   obtain⟨rfl,h⟩:=h
   exact⟨M,Held.nil,h⟩
 | .o e sz cs,M,d,v,bs,h,hnd,hM=>by
   simp only[OwnD]at h
   obtain⟨es,a,cap,rfl,rfl,h3,h4,h5⟩:=h
   rcases h5 with⟨h0,rfl⟩|⟨h0,b,base,bs',pre,us,sp,h6,rfl,h8,h9,h10,h11⟩
   ·have:es=[]:=List.length_eq_zero_iff.1 (by omega)
    subst this
    exact⟨M,Held.nil,relD_nil⟩
   ·have hnd:=List.nodup_cons.1 hnd
    have hM':∀y,y∈bs'→M y=none:=fun y hy=>hM y (List.mem_cons_of_mem _ hy)
    have key:∀(es:List (List Dat)) (us:List Value) (bs':List Nat) (j:Nat) (M:Mem),OwnEs (fun _ x u b=>x.length=sz∧OwnCs w M cs x u b) sz j es us bs'→bs'.Nodup→(∀y,y∈bs'→M y=none)→∃M',Held w M M' bs'∧rL (rDs sz) M' us es:=by
     intro es
     induction es with
     |nil=>intro us bs' j M h _ _;obtain⟨rfl,rfl⟩:=h;exact⟨M,Held.nil,rL_nil⟩
     |cons x es ih=>
      rintro us bs' j M ⟨u,us',b1,b2,rfl,rfl,e3,⟨e4,e5⟩,e6⟩ hnd hM
      obtain⟨n1,n2,n3⟩:=List.nodup_append.1 hnd
      obtain⟨M1,g1,g2⟩:=OwnCs.hold cs e5 n1 (fun y hy=>hM y (List.mem_append_left _ hy))
      have e6':OwnEs (fun _ x u b=>x.length=sz∧OwnCs w M1 cs x u b) sz (j+1) es us' b2:=e6.mono (fun _ x u b _ h=>⟨h.1,h.2.mono g1.1 _ (fun _ _=>rfl)⟩)
      obtain⟨M2,g3,g4⟩:=ih us' b2 (j+1) M1 e6' n2 (fun y hy=>by rw[g1.2.1 y (fun h'=>n3 y h' y hy rfl)];exact hM y (List.mem_append_right _ hy))
      exact⟨M2,g1.app g3,u,us',rfl,⟨e4,g2.mono g3.1⟩,g4⟩
    obtain⟨M1,g1,g2⟩:=key es us bs' 0 M h11 hnd.2 hM'
    have hMb:M1 b=none:=by rw[g1.2.1 b hnd.1];exact hM b List.mem_cons_self
    let M2:Mem:=fun y=>if y=b then some (pre++(us++sp)).toArray else M1 y
    have hM2b:M2 b=some (pre++(us++sp)).toArray:=if_pos rfl
    have hle:M1.le M2:=fun y c hc=>by
     have hne:y≠b:=fun e=>by rw[e,hMb]at hc;cases hc
     exact⟨c,by simp only[M2,if_neg hne];exact hc,Pre.refl c⟩
    have hh:Held w M1 M2 [b]:=⟨hle,fun y hy=>by simp only[M2];rw[if_neg (by simpa using hy)],fun y hy=>by
     have:y=b:=by simpa using hy
     subst this;exact⟨_,_,_,hM2b,h8⟩⟩
    refine⟨M2,?_,relD_of (off:=0) hM2b (Pre.refl _) h9 (rL_mono hle g2) h3 (fun _=>by rw[h6,Nat.add_zero]) (fun j _=>by rw[Nat.zero_add])⟩
    have:=g1.app hh
    refine⟨this.1,fun y hy=>this.2.1 y (fun h'=>hy (by simp at h'⊢;exact h'.symm)),fun y hy=>this.2.2 y (by simp at hy⊢;exact hy.symm)⟩
theorem OwnCs.hold{w:World}:∀(cs:List Sh) {M:Mem} {ds:List Dat} {us:List Value} {bs:List Nat},OwnCs w M cs ds us bs→bs.Nodup→(∀b,b∈bs→M b=none)→∃M',Held w M M' bs∧RelDs M' ds us
 |[],M,ds,us,bs,h,_,_=>by
  simp only[OwnCs]at h
  obtain⟨rfl,rfl,rfl⟩:=h
  exact⟨M,Held.nil,rfl⟩
 |s::cs,M,ds,us,bs,h,hnd,hM=>by
  simp only[OwnCs]at h
  obtain⟨d,ds',u,us',b1,b2,rfl,rfl,rfl,h4,h5⟩:=h
  obtain⟨n1,n2,n3⟩:=List.nodup_append.1 hnd
  obtain⟨M1,g1,g2⟩:=OwnD.hold s h4 n1 (fun y hy=>hM y (List.mem_append_left _ hy))
  obtain⟨M2,g3,g4⟩:=OwnCs.hold cs (h5.mono g1.1 _ (fun _ _=>rfl)) n2 (fun y hy=>by rw[g1.2.1 y (fun h'=>n3 y h' y hy rfl)];exact hM y (List.mem_append_right _ hy))
  exact⟨M2,g1.app g3,u,us',rfl,g2.mono g3.1,g4⟩
end
theorem OwnEs.hold{w:World}{ρ:Rho}{sz:Nat}{cs:List Sh}:∀{es:List (List Dat)} {us:List Value} {bs:List Nat} {j:Nat} {M:Mem},OwnEs (OwnEl w M ρ sz cs none) sz j es us bs→bs.Nodup→(∀y,y∈bs→M y=none)→∃M',Held w M M' bs∧rL (rDs sz) M' us es
 |[],us,bs,j,M,h,_,_=>by obtain⟨rfl,rfl⟩:=h;exact⟨M,Held.nil,rL_nil⟩
 |x::es,us,bs,j,M,⟨u,us',b1,b2,e1,e2,e3,⟨e4,e5⟩,e6⟩,hnd,hM=>by
  subst e1 e2
  obtain⟨n1,n2,n3⟩:=List.nodup_append.1 hnd
  obtain⟨M1,g1,g2⟩:=OwnCs.hold cs e5 n1 (fun y hy=>hM y (List.mem_append_left _ hy))
  have e6':OwnEs (OwnEl w M1 ρ sz cs none) sz (j+1) es us' b2:=e6.mono (fun _ x u b _ h=>⟨h.1,h.2.mono g1.1 _ (fun _ _=>rfl)⟩)
  obtain⟨M2,g3,g4⟩:=OwnEs.hold e6' n2 (fun y hy=>by rw[g1.2.1 y (fun h'=>n3 y h' y hy rfl)];exact hM y (List.mem_append_right _ hy))
  exact⟨M2,g1.app g3,u,us',rfl,⟨e4,g2.mono g3.1⟩,g4⟩
section
variable {rr:Option Nat} {P:Program} {N:Nat} {dfr:List Deferred} {fin:Fin} {c:Cfg}
theorem J_flat{g sz:Nat}{e:TypeId}{shs:List Sh}{es:List (List Dat)}(r:Nat)(hr:obGet c.ob r=some (.tree g e sz shs es none))(hk:J rr P N dfr fin ⟨c.sl,obSet c.ob r (.buf g e sz es),c.td⟩):J rr P N dfr fin c:=by
 refine⟨hk.1,fun S wl M0 hH M ρ f w ha=> ?_⟩
 have h:=ha.ow
 obtain⟨i,hi,hok⟩:=h.own r _ hr
 obtain⟨a1,a2,a3,a4,a5,a6,a7,a8,a9,a10⟩:=hok
 obtain⟨M',hM',hbuf⟩:∃M',Held w M M' i.subs∧(0<i.tot→MineB S wl M i g∧∃pre us sp,w.heap[i.b]? =some (.cells (pre++(us++sp)).toArray e (0,0))∧pre.length=i.base*sz∧(us++sp).length=i.tot*sz∧rL (rDs sz) M' us es):=by
  by_cases ht:0<i.tot
  ·obtain⟨b1,b2,pre,us,sp,b3,b4,b5,b6⟩:=a10 ht
   obtain⟨M',g1,g2⟩:=b6.hold (List.nodup_cons.1 a8).2 (fun y hy=>(a9 y hy).2.1)
   exact⟨M',g1,fun _=>⟨b1,pre,us,sp,b3,b4,b5,g2⟩⟩
  ·have:=a7 (by omega)
   exact⟨M,by rw[this];exact Held.nil,fun h=>absurd h ht⟩
 have hib:i.b∉i.subs:=(List.nodup_cons.1 a8).1
 let i':Inf:={i with subs:=[]}
 have hR:Rle M M' ρ (updO ρ r i'):=⟨hM'.1,fun q j hj=>by
  by_cases e:q=r
  ·subst e;rw[hi]at hj;cases hj;exact⟨i',updO_same _ _ _,Nat.le_refl _,fun _=>rfl,fun h=>by rw[a1]at h;cases h⟩
  ·exact⟨j,by rw[updO_ne _ _ e];exact hj,Ile.refl j⟩⟩
 have hsub:∀b,blk i' (.buf g e sz es) b→blk i (.tree g e sz shs es none) b:=fun b hb=> .inl (show live i (.buf g e sz es)∧i.b=b from blk_flat (i:=i') hb rfl)
 have ow:Ow S wl M0 M' (updO ρ r i') (updO (obGet c.ob) r (.buf g e sz es)) w:=by
  refine⟨h.size,h.os,h.tape,h.output,h.old,fun b cc hb=> ?_,Mem.le_trans h.le hM'.1,h.gl.mono hM'.1,fun b cc hb hlt=> ?_,fun q y hy=> ?_,fun q j hj=> ?_,fun q q' y y' j j' b h1 h2 h3 h4 l1 l2=> ?_,fun q j hb hj=> ?_⟩
  ·by_cases hm:b∈i.subs
   ·obtain⟨c1,e1,z1,q1,q2⟩:=hM'.2.2 b hm
    rw[q1]at hb;cases hb
    exact⟨_,_,_,q2,Pre.refl _⟩
   ·rw[hM'.2.1 b hm]at hb;exact h.sits b cc hb
  ·by_cases hm:b∈i.subs
   ·rcases(a9 b hm).1 with hs|hs
    ·exact .inr hs
    ·omega
   ·rw[hM'.2.1 b hm]at hb;exact h.new b cc hb hlt
  ·by_cases e:q=r
   ·subst e
    rw[updO_same]at hy;cases hy
    refine⟨i',updO_same _ _ _,a1,a2,a3,a4,a5,a6,fun hp=> ?_⟩
    obtain⟨m,rest⟩:=hbuf hp
    exact⟨⟨m.1,fun hg=>by rw[show i'.b=i.b from rfl,hM'.2.1 _ hib];exact m.2.1 hg,fun cc hc=>m.2.2 cc (by rw[←hM'.2.1 _ hib];exact hc)⟩,rest⟩
   ·rw[updO_ne _ _ e]at hy
    obtain⟨j,h1,h2⟩:=h.own q y hy
    exact⟨j,by rw[updO_ne _ _ e];exact h1,h2.mono hR (fun b hb=>hM'.2.1 b (fun hm=>e (h.inj q r y _ j i b hy hr h1 hi hb (.inr ⟨rfl,hm⟩)))) (fun _ _=>rfl)⟩
  ·by_cases e:q=r
   ·subst e;exact⟨_,updO_same _ _ _⟩
   ·rw[updO_ne _ _ e]at hj⊢;exact h.dom q j hj
  ·have key:∀q y j,updO (obGet c.ob) r (.buf g e sz es) q=some y→updO ρ r i' q=some j→blk j y b→∃y0 j0,obGet c.ob q=some y0∧ρ q=some j0∧blk j0 y0 b:=fun q y j hy hj hl=>by
    by_cases e:q=r
    ·subst e;rw[updO_same]at hy hj;cases hy;cases hj;exact⟨_,i,hr,hi,hsub b hl⟩
    ·rw[updO_ne _ _ e]at hy hj;exact⟨y,j,hy,hj,hl⟩
   obtain⟨y0,j0,k1,k2,k3⟩:=key q y j h1 h3 l1
   obtain⟨y1,j1,k4,k5,k6⟩:=key q' y' j' h2 h4 l2
   exact h.inj q q' y0 y1 j0 j1 b k1 k4 k2 k5 k3 k6
  ·obtain⟨k,h1,h2⟩:=h.held q j hb hj
   obtain⟨k',h3,h4⟩:=hR.ext q k h1
   exact⟨k',h3,h2.trans h4⟩
 exact hk.2 S wl M0 hH M' _ f w ⟨by dsimp only;rw[obGet_set];exact ow,ha.ok,fun t ht=>RelV.mono hR _ (ha.sl t ht)⟩
theorem J_frzO{g e sz:Nat}{es:List (List Dat)}(r:Nat)(hr:obGet c.ob r=some (.buf g e sz es))(hk:J rr P N dfr fin ⟨c.sl,obSet c.ob r (.fzs g sz es),c.td⟩):J rr P N dfr fin c:=by
 refine⟨hk.1,fun S wl M0 hH M ρ f w ha=> ?_⟩
 obtain⟨M',h1,h2⟩:=ha.ow.freeze hr
 exact hk.2 S wl M0 hH M' ρ f w ⟨by dsimp only;rw[obGet_set];exact h2,ha.ok,fun t ht=>RelV.mono h1 _ (ha.sl t ht)⟩
theorem J_open{g:Nat}{e e2:TypeId}{n:Nat}{es:List (List Dat)}(r d j:Nat)(ds:List (List Dat))(hne:Nat.beq r d=false)(hr:obGet c.ob r=some (.tree g e 1 [.o e2 n (List.replicate n .z)] es none))(hd:obGet c.ob d=none)(hj:es[j]? =some [.sl n ds])
 (hk:J rr P N dfr fin ⟨c.sl,obSet (obSet c.ob r (.tree g e 1 [.o e2 n (List.replicate n .z)] es (some (j,[.suf d 0 0])))) d (.buf 0 e2 n ds),c.td⟩):J rr P N dfr fin c:=by
 have hne:r≠d:=fun h=>by subst h;rw[Nat.beq_refl]at hne;cases hne
 refine⟨hk.1,fun S wl M0 hH M ρ f w ha=> ?_⟩
 obtain⟨i,hi,hok⟩:=ha.ow.own r _ hr
 obtain⟨a1,a2,a3,a4,a5,a6,a7,a8,a9,a10⟩:=hok
 obtain⟨hjl,hje⟩:=List.getElem?_eq_some_iff.1 hj
 have htp:0<i.tot:=by omega
 obtain⟨b1,b2,pre,us,sp,hw,hpre,hlen,b6⟩:=a10 htp
 obtain⟨b,g1,hu,c1,c2,hbs,hset⟩:=b6.get hjl
 rw[Nat.zero_add]at g1 hset
 rw[hje]at g1
 obtain⟨_,g2⟩:=g1
 simp only[OwnCs,OwnD]at g2
 obtain⟨_,_,v,_,bA,_,e1,hv,hbA,⟨ds',ad,cap,e3,rfl,hcap,hcm,hcase⟩,rfl,rfl,rfl⟩:=g2
 cases e1
 cases e3
 rw[List.append_nil]at hbA
 subst hbA
 have hρd:=ha.ow.ob_none hd
 --the row's own
 obtain⟨k,hk0,hkg,hkn,hkt,hkok,hkb,hkp⟩:∃k:Inf,k.subs=[]∧k.g=0∧k.n=ds.length∧k.tot=cap∧(∀ρ',ObjOk S wl M ρ' w k (.buf 0 e2 n ds))∧(∀y,blk k (.buf 0 e2 n ds) y→y∈b)∧(0<cap→ad=some ⟨k.b,k.base*k.sz,none⟩):=by
  rcases hcase with⟨h0,rfl⟩|⟨h0,bb,base,bs',pre2,us2,sp2,h1,h2,h3,h4,h5,h6⟩
  ·have hds:ds=[]:=List.length_eq_zero_iff.1 (by omega)
   subst hds;subst h0
   exact⟨⟨0,0,0,n,0,0,false,[]⟩,rfl,rfl,rfl,rfl,fun _=>⟨rfl,rfl,rfl,rfl,Nat.le_refl _,Nat.zero_le _,fun h=>absurd h (Nat.lt_irrefl _)⟩,fun y hy=>absurd (blk_flat hy rfl).1 (Nat.lt_irrefl _),fun h=>absurd h (Nat.lt_irrefl _)⟩
  ·obtain⟨rfl,h7⟩:=z_els h6
   have hm:=a9 bb (by rw[hbs,h2];simp)
   refine⟨⟨bb,base,cap,n,ds.length,0,false,[]⟩,rfl,rfl,rfl,rfl,fun _=>⟨rfl,rfl,rfl,rfl,hcap,hcm,fun _=>⟨⟨hm.1,fun _=>hm.2.1,fun c hc=>by rw[show M bb=none from hm.2.1]at hc;cases hc⟩,pre2,us2,sp2,h3,h4,h5,h7⟩⟩,fun y hy=>by rw[h2,←(blk_flat hy rfl).2];exact List.mem_cons_self,fun _=>h1⟩
 have hnd:(c1++(b++c2)).Nodup:=by rw[←hbs];exact(List.nodup_cons.1 a8).2
 have hsub:∀y,y∈c1++c2→y∈i.subs:=fun y hy=>by
  rw[hbs]
  rcases List.mem_append.1 hy with h|h
  ·exact List.mem_append_left _ h
  ·exact List.mem_append_right _ (List.mem_append_right _ h)
 have hndb:∀y,y∈c1++c2→y∈b→False:=fun y hy hb=>by
  obtain⟨n1,n2,n3⟩:=List.nodup_append.1 hnd
  obtain⟨n4,n5,n6⟩:=List.nodup_append.1 n2
  rcases List.mem_append.1 hy with h|h
  ·exact n3 y h y (List.mem_append_left _ hb) rfl
  ·exact n6 y hb y h rfl
 have hbsub:∀y,y∈b→y∈i.subs:=fun y hy=>by rw[hbs];simp[hy]
 obtain⟨h5,h6⟩:=ha.ow.two (d:=d) (i':={i with subs:=c1++c2}) (o':= .tree g e 1 [.o e2 n (List.replicate n .z)] es (some (j,[.suf d 0 0]))) (od:= .buf 0 e2 n ds) (id:=k) hne hr hi ⟨Nat.le_refl _,fun _=>rfl,fun h=>by rw[a1]at h;cases h⟩ (fun k hk=>by rw[hρd]at hk;cases hk)
  (fun y hy=> .inl (hy.imp id (fun h=>⟨rfl,hsub y h.2⟩))) (fun y hy=> .inl (.inr ⟨rfl,hbsub y (hkb y hy)⟩))
  (fun y hy hy'=>by
   have hb:=hkb y hy'
   rcases hy with⟨_,h⟩|⟨_,h⟩
   ·exact(List.nodup_cons.1 a8).1 (by rw[show i.b=y from h];exact hbsub y hb)
   ·exact hndb y h hb)
  (fun ρ' hle hρ'=>by
   refine⟨a1,a2,a3,a4,a5,a6,fun h=>absurd h (by show i.tot≠0;omega),?_,fun y hy=>a9 y (hsub y hy),fun _=>⟨b1,b2,pre,us,sp,hw,hpre,hlen,?_⟩⟩
   ·refine List.nodup_cons.2 ⟨fun h=>(List.nodup_cons.1 a8).1 (hsub _ h),?_⟩
    obtain⟨n1,n2,n3⟩:=List.nodup_append.1 hnd
    obtain⟨n4,n5,n6⟩:=List.nodup_append.1 n2
    exact List.nodup_append.2 ⟨n1,n5,fun x hx y hy=>n3 x hx y (List.mem_append_right _ hy)⟩
   ·have:=hset (OwnEl w M ρ' 1 [.o e2 n (List.replicate n .z)] (some (j,[.suf d 0 0]))) (es[j]) ((us.drop (j*1)).take 1) [] (fun i0 x u c hi0 hc0 hr0=>⟨fun e=>absurd e hi0,fun _=>hr0⟩) hu ⟨fun _=>⟨rfl,?_,?_⟩,fun e=>absurd rfl e⟩
    ·rw[List.set_getElem_self]at this
     have e9:setAt us (j*1) ((us.drop (j*1)).take 1)=us:=by
      have hul:=b6.len
      unfold setAt
      rw[hu,←List.drop_drop,List.append_assoc,List.take_append_drop,List.take_append_drop]
     rw[e9]at this
     simpa using this
    ·rw[hv]
     simp only[RelVs]
     have:=mk_suf (M:=M) (ρ:=ρ') (q:=d) (g:=0) (off:=0) (p:=ad) hρ' hkg (Nat.zero_le _) (fun h=>by rw[Nat.add_zero];exact hkp (by rw[hkt]at h;exact h))
     rw[hkn,hkt,Nat.sub_zero,Nat.sub_zero]at this
     exact⟨_,[],rfl,this,rfl⟩
    ·rw[hv]
     intro v' hv'
     simp only[List.mem_cons,List.mem_nil_iff,or_false]at hv'
     subst hv'
     rfl)
  (fun ρ' _=>hkok ρ')
 have:=hk.2 S wl M0 hH M _ f w ⟨by dsimp only;rw[obGet_set,obGet_set];exact h6,ha.ok,fun t ht=>RelV.mono h5 _ (ha.sl t ht)⟩
 exact this
theorem J_shut{g gd:Nat}{e e2:TypeId}{n:Nat}{es ds:List (List Dat)}(r d j:Nat)(hne:Nat.beq r d=false)(hr:obGet c.ob r=some (.tree g e 1 [.o e2 n (List.replicate n .z)] es (some (j,[.suf d gd 0]))))(hd:obGet c.ob d=some (.buf gd e2 n ds))(hgd:Nat.blt gd 1000000=true)(hj:j<es.length)
 (hk:J rr P N dfr fin ⟨c.sl,obSet (obSet c.ob r (.tree g e 1 [.o e2 n (List.replicate n .z)] (es.set j [.sl n ds]) none)) d (.buf (gd+1) e2 n []),c.td⟩):J rr P N dfr fin c:=by
 have hne:r≠d:=fun h=>by subst h;rw[Nat.beq_refl]at hne;cases hne
 refine⟨hk.1,fun S wl M0 hH M ρ f w ha=> ?_⟩
 obtain⟨i,hi,hok⟩:=ha.ow.own r _ hr
 obtain⟨a1,a2,a3,a4,a5,a6,a7,a8,a9,a10⟩:=hok
 have htp:0<i.tot:=by omega
 obtain⟨b1,b2,pre,us,sp,hw,hpre,hlen,b6⟩:=a10 htp
 obtain⟨b,g1,hu,c1,c2,hbs,hset⟩:=b6.get hj
 rw[Nat.zero_add]at g1 hset
 obtain⟨rfl,hrel,hone⟩:=g1.1 rfl
 obtain⟨k,hkk,hkok⟩:=ha.ow.own d _ hd
 obtain⟨k1,k2,k3,k4,k5,k6,k7⟩:=hkok
 simp only[RelVs]at hrel
 obtain⟨v,_,hv,hvr,rfl⟩:=hrel
 obtain⟨k',hk',_,hvs⟩:=relV_suf hvr
 rw[hkk]at hk';cases hk'
 obtain⟨_,p,rfl,hp⟩:=hvs k2.symm
 rw[Nat.sub_zero,Nat.sub_zero]at hv
 have hnd:(c1++c2).Nodup:=by
  have:=(List.nodup_cons.1 a8).2
  rw[hbs]at this;simpa using this
 have hsub:i.subs=c1++c2:=by rw[hbs];simp
 have hkb:0<k.tot→k.b∉c1++c2∧k.b≠i.b:=fun hp=>⟨fun h=>hne (ha.ow.inj r d _ _ i k k.b hr hd hi hkk (.inr ⟨rfl,by rw[hsub];exact h⟩) (.inl ⟨hp,rfl⟩)),fun h=>hne (ha.ow.inj r d _ _ i k k.b hr hd hi hkk (.inl ⟨htp,h.symm⟩) (.inl ⟨hp,rfl⟩))⟩
 --the row's blocks,as the tree's
 obtain⟨bd,hbd1,hbd2,hown⟩:∃bd:List Nat,(∀y,y∈bd→0<k.tot∧y=k.b)∧bd.Nodup∧OwnCs w M [.o e2 n (List.replicate n .z)] [.sl n ds] [.slice p k.n k.tot] bd:=by
  simp only[OwnCs,OwnD]
  by_cases ht:0<k.tot
  ·obtain⟨m,pre2,us2,sp2,h1,h2,h3,h4⟩:=k7 ht
   have hp:=hp ht
   subst hp
   refine⟨[k.b],fun y hy=>⟨ht,by simpa using hy⟩,by simp,_,[],_,[],[k.b],[],rfl,rfl,by simp,⟨ds,_,k.tot,rfl,by rw[k4],k4▸k5,k6,.inr ⟨ht,k.b,k.base,[],pre2,us2,sp2,by rw[Nat.add_zero,k3],rfl,h1,h2,h3,z_els' h4⟩⟩,rfl,rfl,rfl⟩
  ·have h0:k.tot=0:=by omega
   refine⟨[],fun y hy=>(by cases hy),by simp,_,[],_,[],[],[],rfl,rfl,by simp,⟨ds,p,k.tot,rfl,by rw[k4],k4▸k5,k6,.inl ⟨h0,rfl⟩⟩,rfl,rfl,rfl⟩
 have hbdn:∀y,y∈bd→y∉c1++c2∧y≠i.b:=fun y hy=>by
  obtain⟨h1,h2⟩:=hbd1 y hy
  subst h2;exact hkb h1
 have hmem:∀y,y∈c1++(bd++c2)→y∈c1++c2∨y∈bd:=fun y hy=>by
  simp only[List.mem_append]at hy⊢
  rcases hy with h|h|h
  ·exact .inl (.inl h)
  ·exact .inr h
  ·exact .inl (.inr h)
 obtain⟨h5,h6⟩:=ha.ow.two (d:=d) (i':={i with subs:=c1++(bd++c2)}) (o':= .tree g e 1 [.o e2 n (List.replicate n .z)] (es.set j [.sl n ds]) none) (od:= .buf (gd+1) e2 n []) (id:=⟨0,0,0,n,0,gd+1,false,[]⟩) hne hr hi ⟨Nat.le_refl _,fun _=>rfl,fun h=>by rw[a1]at h;cases h⟩ (fun k' hk=>by
  rw[hkk]at hk;cases hk
  exact⟨by show k.g≤gd+1;omega,fun h=>absurd h (by show k.g≠gd+1;omega),fun h=>by rw[k1]at h;cases h⟩)
  (fun y hy=>by
   rcases hy with h|⟨_,h⟩
   ·exact .inl (.inl h)
   ·rcases hmem y h with h|h
    ·exact .inl (.inr ⟨rfl,by rw[hsub];exact h⟩)
    ·exact .inr ⟨_,k,hd,hkk,.inl ⟨(hbd1 y h).1,(hbd1 y h).2.symm⟩⟩)
  (fun y hy=>absurd (blk_flat hy rfl).1 (Nat.lt_irrefl _)) (fun y _ hy=>absurd (blk_flat hy rfl).1 (Nat.lt_irrefl _))
  (fun ρ' hle _=>by
   refine⟨a1,a2,a3,by rw[List.length_set];exact a4,a5,a6,fun h=>absurd h (by show i.tot≠0;omega),?_,fun y hy=> ?_,fun _=>⟨b1,b2,pre,us,sp,hw,hpre,hlen,?_⟩⟩
   ·refine List.nodup_cons.2 ⟨fun h=> ?_,?_⟩
    ·rcases hmem _ h with h|h
     ·exact(List.nodup_cons.1 a8).1 (by rw[hsub];exact h)
     ·exact(hbdn _ h).2 rfl
    ·obtain⟨n1,n2,n3⟩:=List.nodup_append.1 hnd
     refine List.nodup_append.2 ⟨n1,List.nodup_append.2 ⟨hbd2,n2,fun x hx y hy e=>(hbdn x hx).1 (by rw[e];exact List.mem_append_right _ hy)⟩,fun x hx y hy e=> ?_⟩
     rcases List.mem_append.1 hy with h|h
     ·exact(hbdn y h).1 (by rw[←e];exact List.mem_append_left _ hx)
     ·exact n3 x hx y h e
   ·rcases hmem y hy with h|h
    ·exact a9 y (by rw[hsub];exact h)
    ·obtain⟨h1,rfl⟩:=hbd1 y h
     obtain⟨m,pre2,us2,sp2,q1,_⟩:=k7 h1
     exact⟨m.1,m.2.1 (by rw[←k2]at hgd;rw[←k2];exact hgd),(Array.getElem?_eq_some_iff.1 q1).1⟩
   ·have:=hset (OwnEl w M ρ' 1 [.o e2 n (List.replicate n .z)] none) [.sl n ds] ((us.drop (j*1)).take 1) bd (fun i0 x u c hi0 hc0 hr0=>hr0.2 hi0) hu ⟨rfl,by rw[hv];exact hown⟩
    have e9:setAt us (j*1) ((us.drop (j*1)).take 1)=us:=by
     have hul:=b6.len
     unfold setAt
     rw[hu,←List.drop_drop,List.append_assoc,List.take_append_drop,List.take_append_drop]
    rw[e9]at this
    exact this)
  (fun ρ' _=>⟨rfl,rfl,rfl,rfl,Nat.le_refl _,Nat.zero_le _,fun h=>absurd h (Nat.lt_irrefl _)⟩)
 have:=hk.2 S wl M0 hH M _ f w ⟨by dsimp only;rw[obGet_set,obGet_set];exact h6,ha.ok,fun t ht=>RelV.mono h5 _ (ha.sl t ht)⟩
 exact this
theorem J_shutL{g gd:Nat}{e e2:TypeId}{n:Nat}{es ds:List (List Dat)}(r d j:Nat)(es':List (List Dat))(hne:Nat.beq r d=false)(hr:obGet c.ob r=some (.tree g e 1 [.o e2 n (List.replicate n .z)] es (some (j,[.suf d gd 0]))))(hd:obGet c.ob d=some (.buf gd e2 n ds))(hgd:Nat.blt gd 1000000=true)(hj:j<es.length)(he:es.set j [.sl n ds]=es')
 (hk:J rr P N dfr fin ⟨c.sl,obSet (obSet c.ob r (.tree g e 1 [.o e2 n (List.replicate n .z)] es' none)) d (.buf (gd+1) e2 n []),c.td⟩):J rr P N dfr fin c:=by
 subst he
 exact J_shut r d j hne hr hd hgd hj hk
end
theorem Re.pt(cs:List Dat):Re (.rp cs 0) (.d (.pt cs)):=fun M ρ u h=>by
 obtain⟨b,o,us,rfl,hc,hr⟩:=relV_rp h
 exact relV_d' (.pt cs b o us hc hr.len (fun j c u h1 h2=>hr.get h1 h2))
theorem shm{α β:Type}{f:α→β}{l:List α}{j:Nat}{z:α}:(l.map f).set j (f z)=(l.set j z).map f:=List.map_set.symm
theorem gjo{α β:Type}{l:List α}{f:α→β}{i:Int}{y:α}(h:geti l i=some y):(l.map f)[i.toNat]? =some (f y):=by
 rw[List.getElem?_map,(geti_nat h).2];rfl
theorem glt{α β:Type}{l:List α}{f:α→β}{i:Int}{y:α}(h:geti l i=some y):i.toNat<(l.map f).length:=by
 rw[List.length_map];exact(List.getElem?_eq_some_iff.1 (geti_nat h).2).1
theorem ckI{α β:Type}{l:List α}{f:α→β}{i:Int}{y:α}(h:geti l i=some y):chk (decide (0≤i)&&(decide (0+i.toNat=i.toNat)&&decide (i.toNat<(l.map f).length)))=some []:=by
 have h0:0≤i:=by have:=(geti_nat h).1;omega
 rw[decide_eq_true h0,decide_eq_true (Nat.zero_add _),decide_eq_true (glt h)];rfl
theorem ckE{α β:Type}{l:List α}{f:α→β}{i:Int}{y:α}(h:geti l i=some y):chk (decide (i.toNat=i.toNat)&&decide (i.toNat<(l.map f).length))=some []:=by
 rw[decide_eq_true rfl,decide_eq_true (glt h)];rfl
end Go.Proofs.YtfgbhfphjmmiaaaGreatDoor.Kx
end
