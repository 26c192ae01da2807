/- One part of the texts that lead to the theorem; it claims nothing by itself. -/
import Derived.Scope
import Derived.RangeFuncRecord
import Derived.RangeFuncIn
import Derived.RangeFuncLeaves
import Derived.RecoverIn
import Derived.Laws.Externs
import Derived.Test.YtdlnalepibeibaaGreatDoorFia
section
namespace Go.Proofs.YtdlnalepibeibaaGreatDoor.Kx
open Go Go.RowKit Go.IntKind
section
section
variable {r:Option Nat} {P:Program} {a:Act} {w wl:World} {S:N0} {M0 M:Mem} {ρ:Rho} {ob:Nat->Option B9} {ev:Operand->V} {d:Nat} {ty:TypeId} {op:Op}
theorem Dy6{n k c:Nat}{es:List (List Dat)}{p:Option Addr}(h:Q7 M (.sl n es) (.slice p es.length c))(hk:k<=es.length):Q7 M (.sl n (es.take k)) (.slice p k c):=by
 generalize hl:es.length=L at h;cases h with
 |sl _ _ _ _ b o us hcap ha hc hs hr=>
  have hlt:(es.take k).length=k:=by rw[List.length_take];omega
  have key:Q7 M (.sl n (es.take k)) (.slice p (es.take k).length c):= .sl n _ p c b o us (by omega) (fun hne=>ha (fun e=>hne (by rw[e];simp))) (fun i hi=>hc i (by omega)) (fun i cs hi=>hs i cs (by
   rw[List.getElem?_take]at hi;split at hi
   ·exact hi
   ·cases hi)) (fun i j cs c u hi h1 h2=>hr i j cs c u (by
   rw[List.getElem?_take]at hi;split at hi
   ·exact hi
   ·cases hi) h1 h2)
  rw[hlt]at key;exact key
theorem Ea9{n:Nat}{rr g off len:Nat}{e:TypeId}{es:List (List Dat)}{u:Value}(h:Ow S wl M0 M ρ ob w)(hr:ob rr=some (.buf g e n es))
 (hx:∃i,ρ rr=some i/\off+len<=i.n/\∃p,u= .slice p len (i.tot-off)/\(off<i.tot->p=some ⟨i.b,(i.base+off)*i.sz,none⟩)):
 ∃p c,u= .slice p ((es.drop off).take len).length c/\∀k,k<=((es.drop off).take len).length->∃news,(Builtin.firstCells n k u).run P w= .ok (List.toArray news) w/\rL (rDs n) M news (((es.drop off).take len).take k):=by
 obtain⟨i,hi,ho,p,hu,hp⟩:=hx;obtain⟨_,hg,hsz,hn,htot,hmax,hh⟩:=h.buf_heap hr hi;have hl:((es.drop off).take len).length=len:=by rw[List.length_take,List.length_drop];omega
 refine⟨p,_,by rw[hl];exact hu,fun k hk=> ?_⟩;rw[hl]at hk;rw[List.take_take,Nat.min_eq_left hk];by_cases h0:k=0
 ·subst h0;refine⟨[],?_,Aw6⟩;rw[hu];cases p<;>simp[Builtin.firstCells,loadCells,loadCellsFrom]
 obtain⟨hm,pre,us,sp,hw,hpre,hlen,hrel⟩:=hh (by omega);have hul:us.length=es.length*n:=by rw[Ap9 hrel];rfl
 have hp:=hp (by omega);subst hp;have hkn:off*n+k*n<=us.length:=by rw[hul,<-hn,<-Nat.add_mul];exact Nat.mul_le_mul_right _ (by omega)
 have hlk:((us.drop (off*n)).take (k*n)).length=k*n:=by rw[List.length_take,List.length_drop];omega
 refine⟨(us.drop (off*n)).take (k*n),?_,Bt7 (Am0 hrel off) k⟩;rw[hu];refine run_firstCells_some (P:=P) w n k _ _ _ _ hlk (fun j v hj=> ?_);rw[E0];unfold World.cell?;rw[hw];have hjl:=(List.getElem?_eq_some_iff.1 hj).1;rw[hlk]at hjl;rw[List.getElem?_take_of_lt hjl,List.getElem?_drop]at hj;have hjl2:=(List.getElem?_eq_some_iff.1 hj).1;have e6:(i.base+off)*i.sz+j=pre.length+(off*n+j):=by rw[hpre,hsz,Nat.add_mul];omega
 simp only[Option.isSome_none,Bool.false_eq_true,if_false,List.getElem?_toArray];rw[e6,List.getElem?_append_right (by omega),Nat.add_sub_cancel_left,List.getElem?_append_left hjl2];exact hj
theorem Dh4{n:Nat}{v:V}{u:Value}{src:List (List Dat)}(h:Ow S wl M0 M ρ ob w)(hx:C0 M ρ v u)(hs:Fp4 ob n v=some src):
 ∃p c,u= .slice p src.length c/\∀k,k<=src.length->∃news,(Builtin.firstCells n k u).run P w= .ok (List.toArray news) w/\rL (rDs n) M news (src.take k):=by
 unfold Fp4 at hs;split at hs
 ·rename_i sz es;split at hs
  ·rename_i hb;cases hs;obtain rfl:=nB_ hb;have hd:=H2 hx;obtain⟨p,c,rfl,hc⟩:=Aq2 hd;refine⟨p,c,rfl,fun k hk=> ?_⟩;obtain⟨q,c',news,h1,h2,h3,h4⟩:=Ao7 (P:=P) h.sits (Dy6 hd hk);have hl:(src.take k).length=k:=by rw[List.length_take];omega
   refine⟨news,?_,h4⟩;have:=h3 w rfl;rw[hl]at this h1;injection h1 with h5 _ h6
   subst h5 h6;exact(show(Builtin.firstCells sz k (.slice p src.length c)).run P w=(Builtin.firstCells sz k (.slice p k c)).run P w by cases p<;>simp[Builtin.firstCells]).trans this
  ·cases hs
 ·rename_i rr g off;split at hs
  ·rename_i g' e sz es hr;split at hs
   ·rename_i h1 h2;cases hs;obtain rfl:=nB_ h1;obtain rfl:=nB_ h2;obtain⟨p,c,h3,h4⟩:=Ea9 (P:=P) h hr (Cp3 h hr hx);rw[List.take_of_length_le (Nat.le_refl _)]at h3 h4;exact⟨p,c,h3,h4⟩
   ·cases hs
  ·cases hs
 ·rename_i rr g off len;split at hs
  ·rename_i g' e sz es hr;split at hs
   ·rename_i h1 h2;cases hs;obtain rfl:=nB_ h1;obtain rfl:=nB_ h2;obtain⟨i,hi,_,hu⟩:=Aq4 hx;obtain⟨_,hg,_⟩:=h.buf_heap hr hi;obtain⟨ho,p,hu,hp⟩:=hu hg.symm;exact Ea9 (P:=P) h hr ⟨i,hi,ho,p,hu,hp⟩
   ·cases hs
  ·cases hs
 ·cases hs
theorem Gb4{α:Type}{es src:List α}{off:Nat}(h:off<=es.length):cpy es off src=es.take off++(src.take (Nat.min src.length (es.length-off))++es.drop (off+Nat.min src.length (es.length-off))):=by
 unfold cpy;rcases Nat.le_total src.length (es.length-off) with hl|hl
 ·rw[show Nat.min src.length (es.length-off)=src.length from Nat.min_eq_left hl,List.take_of_length_le hl,List.take_of_length_le (Nat.le_refl _)]
 ·rw[show Nat.min src.length (es.length-off)=es.length-off from Nat.min_eq_right hl,List.drop_of_length_le (by omega:es.length<=off+src.length),List.drop_of_length_le (by omega:es.length<=off+(es.length-off))]
theorem Ej3{c:Call}{s x:Operand}{t t2:TypeId}(h:Ow S wl M0 M ρ ob w)(hev:∀x,C0 M ρ (ev x) (a.eval x))(hc:c={callee:= .builtin .copy,args:= #[s,x],argTypes:= #[t,t2]}):
 (Cu7 P ob t t2 (ev s) (ev x)).Good (D6 r P a (.call c) S wl M0 M ρ ob w):=by
 subst hc;have hs0:=hev s;have hx:=hev x;generalize ev s=vs at*;generalize ev x=vx at*;unfold Cu7;split
 ·rename_i e rr g off htt he;have ht:=J0 he;split
  ·rename_i n g' e' sz es hsz hr;split
   ·rename_i src hsrc h1 h2 h3;obtain rfl:=nB_ h1;obtain rfl:=nB_ h2;intro es' hes';cases hes';obtain⟨p,cc,hu,hfc⟩:=Dh4 (P:=P) h hx hsrc;obtain⟨f,hf,_,hd⟩:=J8 hs0;obtain⟨hfix,hgg,hsz2,hn,htot,hmax,hh⟩:=h.buf_heap hr hf;obtain⟨ho,q,hd,hq⟩:=hd hgg.symm;obtain⟨news,hnr,hnl⟩:=hfc (Nat.min src.length (f.n-off)) (Nat.min_le_left _ _);have hN:Gr4 es off src=((Nat.min src.length (f.n-off):Nat):Int):=by unfold Gr4;rw[hn]
    have hC:=Gb4 (src:=src) (show off<=es.length by omega);rw[<-hn]at hC;rw[hN,hC];obtain⟨inf,hinf,hsize⟩:∃inf,P.info? e=some inf/\inf.size=sz:=by
     unfold F8 at hsz;cases hq:P.info? e with
     |none=>rw[hq]at hsz;cases hsz
     |some inf=>rw[hq]at hsz;exact⟨inf,rfl,by simpa using hsz⟩
    generalize hk:Nat.min src.length (f.n-off)=k at*;have hkn:k<=f.n-off:=by rw[<-hk];exact Nat.min_le_right _ _
    have hnewl:news.length=k*sz:=by
     rw[Ap9 hnl,List.length_take,Nat.min_eq_left (by rw[<-hk];exact Nat.min_le_left _ _)];rfl
    by_cases h0:k=0
    ·subst h0;have hnil:news=[]:=List.eq_nil_of_length_eq_zero (by simpa using hnewl);subst hnil;have hrun:∀ty,(Builtin.copy_ #[t,t2] ty #[a.eval s,a.eval x]).run P w= .ok (goInt 0) w:=fun ty=>by
      have hfl:=hnr;rw[hu]at hfl;rw[hd,hu];cases q<;>simp[Builtin.copy_,run_underlying ht,Builtin.lenOf,sizeOf,typeInfo,hinf,hsize,hk,hfl,storeCells]
     have hob:K0 ob rr (.buf g e' sz (es.take off++(src.take 0++es.drop (off+0))))=ob:=by
      rw[Nat.add_zero,List.take_zero,List.nil_append,List.take_append_drop];funext x;unfold K0;split
      ·rename_i hb;rw[nB_ hb,hr]
      ·rfl
     refine Eff.of_run (w':=w) (v:= .int .i64 0) (by
      intro dd ty pos aft gg;have:=hrun ty;simp only[goInt]at this;simp[execOp,resolve,invoke,builtin,this,Result.andThen]) rfl ⟨M,ρ,Rle.refl _ _,?_,J6⟩
     show Ow S wl M0 M ρ (K0 ob rr _) w;rw[hob];exact h
    ·have hq:=hq (by omega);subst hq;obtain⟨hm,pre,us,sp,hw,hpre,hl,hrel⟩:=hh (by omega);have hul:us.length=es.length*sz:=by rw[Ap9 hrel];rfl
     have hfit:off*sz+k*sz<=us.length:=by rw[hul,<-hn,<-Nat.add_mul];exact Nat.mul_le_mul_right _ (by omega)
     have hoff:(f.base+off)*f.sz=pre.length+off*sz:=by rw[hpre,hsz2,Nat.add_mul]
     have hst:=run_storeCells_at P f.b ((f.base+off)*f.sz) e' news 0 _ w hw (by rw[hoff];simp;omega) (Bt6 hnl);simp only[Nat.add_zero]at hst;have hnew:(pre++(us++sp)).take ((f.base+off)*f.sz)++news++(pre++(us++sp)).drop ((f.base+off)*f.sz+news.length)=pre++(D5 us (off*sz) news++sp):=by
      rw[hoff];exact(J9 (pre:=pre) (us:=us++sp) (xs:=news) (o:=off*sz)).trans (by rw[P2 (by omega)])
     rw[hnew]at hst;have hrun:∀ty,(Builtin.copy_ #[t,t2] ty #[a.eval s,a.eval x]).run P w= .ok (goInt k) (w.setRow f.b (pre++(D5 us (off*sz) news++sp)).toArray):=fun ty=>by
      have hfl:=hnr;rw[hu]at hfl;rw[hd,hu];simp[Builtin.copy_,run_underlying ht,Builtin.lenOf,sizeOf,typeInfo,hinf,hsize,hk,hfl,hst]
     have hrl2:rL (rDs sz) M (D5 us (off*sz) news) (es.take off++(src.take k++es.drop (off+k))):=by
      unfold D5;rw[List.append_assoc,hnewl,<-Nat.add_mul];exact Y8 (Bt7 hrel off) (Y8 hnl (Am0 hrel (off+k)))
     have hlen2:(es.take off++(src.take k++es.drop (off+k))).length=es.length:=by
      have:k<=src.length:=by rw[<-hk];exact Nat.min_le_left _ _
      simp only[List.length_append,List.length_take,List.length_drop];omega
     obtain⟨h5,h6⟩:=h.turn (w':=w.setRow f.b (pre++(D5 us (off*sz) news++sp)).toArray) hr hf f (.buf g e' sz (es.take off++(src.take k++es.drop (off+k)))) (fun q _ hq=>setRow_other w f.b q _ (hq (by simp only[Al9];omega))) (by simp) rfl rfl rfl (fun _ c hc=>by rw[hm.2.1 h3]at hc;cases hc) ⟨Nat.le_refl _,fun _=>rfl,fun _=>rfl⟩ (fun hl=> .inl ⟨hl,rfl⟩)
      (fun ρ' _ _=>⟨hfix,hgg,hsz2,by rw[hlen2];exact hn,htot,hmax,fun _=>⟨hm,pre,_,sp,setRow_heap w f.b _ _ e' _ hw,hpre,by
       rw[List.length_append,K5 _ _ _ (by omega)];rw[List.length_append]at hl;exact hl,hrl2⟩⟩)
     refine Eff.of_run (v:= .int .i64 k) (by
      intro dd ty pos aft gg;have:=hrun ty;simp only[goInt]at this;simp[execOp,resolve,invoke,builtin,this,Result.andThen]) rfl ⟨M,_,h5,h6,J6⟩
   ·trivial
  ·trivial
 ·trivial
end
end
section
theorem M7.snoc{R:Nat->List Dat->List Value->List Nat->Prop}{sz:Nat}{x:List Dat}{u:List Value}{b:List Nat}:∀{es:List (List Dat)} {us:List Value} {bs:List Nat} {j:Nat},M7 R sz j es us bs->R (j+es.length) x u b->u.length=sz->M7 R sz j (es++[x]) (us++u) (bs++b)
 |[],us,bs,j,h,hr,hu=>by
  obtain⟨rfl,rfl⟩:=h;exact⟨u,[],b,[],by simp,by simp,hu,hr,rfl,rfl⟩
 |y::es,_,_,j,⟨v,us',b1,b2,e1,e2,e3,e4,e5⟩,hr,hu=>by
  subst e1 e2;exact⟨v,us'++u,b1,b2++b,by simp,by simp,e3,e4,e5.snoc (by rw[List.length_cons]at hr;rw[show j+1+es.length=j+(es.length+1) by omega];exact hr) hu⟩
theorem M7.hole{w:World}{M:Mem}{ρ:Rho}{sz:Nat}{shs:List Sh}{k:Nat}{cs:List V}:∀{es:List (List Dat)} {us:List Value} {bs:List Nat} {j:Nat},M7 (Ad6 w M ρ sz shs none) sz j es us bs->j+es.length<=k->M7 (Ad6 w M ρ sz shs (some (k,cs))) sz j es us bs
 |[],_,_,_,h,_=>h
 |x::es,_,_,j,⟨v,us',b1,b2,e1,e2,e3,e4,e5⟩,hk=>by
  simp only[List.length_cons]at hk;exact⟨v,us',b1,b2,e1,e2,e3,⟨fun e=>absurd e (by omega),fun _=>e4⟩,e5.hole (by omega)⟩
section
variable {r:Option Nat} {P:Program} {a:Act} {w wl:World} {S:N0} {M0 M:Mem} {ρ:Rho} {ob:Nat->Option B9} {ev:Operand->V} {d:Nat} {ty:TypeId} {op:Op}
theorem De4{t:TypeId}{n:Nat}{ps:Array (Nat×Operand)}(h:Ow S wl M0 M ρ ob w)(hev:∀x,C0 M ρ (ev x) (a.eval x)):(Ay7 P ob d t n ev ps.toList).Good (D6 r P a (.buildSlice t n ps) S wl M0 M ρ ob w):=by
 unfold Ay7;split
 ·rename_i e he;have ht:=J0 he;split
  ·rename_i sz zs v hsz hzt hps;split
   ·rename_i cs hcs hd;split
    ·rename_i h1 h2 h3;have h1:=nB_ h1;have h2:=H3 h2;have h3:=H3 h3;have hp:=Aa9 (ρ:=ρ) (M:=M) (ev:=fun x=>Ah4 P e (ev x)) (fun x=>U7 (hev x)) ps.toList;rw[hps]at hp;simp only[Bx0]at hp;obtain⟨u,_,hq,hv,rfl⟩:=hp;obtain⟨ws,hc,hrw,hone⟩:=M4 hcs hv;have hwl:ws.length=sz:=by rw[hrw.len,h1]
     obtain⟨z,hzv,hzc⟩:=Bg7 (w:=w) hzt;have hrun:=Ai7 (a:=a) (ps:=ps) (n:=1) (us:=ws) ht hsz hzv (by omega) (fun cells hcl=>by
      have hcl':cells.toList.length=sz:=by rw[Array.length_toList,hcl];omega
      rw[hq];have:=Bd7 (pl:=fun i=>some (i*sz,sz)) (cells:=cells.toList) (us:=ws) (i:=0) (off:=0*sz) (v:=u) (rest:=[]) (by rw[hwl]) hc (by rw[hwl,hcl'];omega);rw[Array.toArray_toList]at this;rw[this];unfold D5;rw[Nat.zero_mul,List.take_zero,Nat.zero_add,hwl,List.drop_of_length_le (by rw[hcl'];omega)];simp[Instr.fill])
     obtain⟨h5,h6⟩:=h.alloc (d:=d) hd (.cells ws.toArray e) ⟨w.heap.size,0,1,sz,1,0,false,[]⟩ (.tree 0 e sz [] [[]] (some (0,cs))) rfl (fun ρ' hle hm=>by
      refine⟨rfl,rfl,rfl,rfl,Nat.le_refl _,by show 1<=maxLen;unfold maxLen;omega,fun _=>rfl,by simp,fun b hb=>(by cases hb),fun _=>⟨⟨.inr h.size,fun _=>hm,fun c hc=>by rw[show M w.heap.size=none from hm]at hc;cases hc⟩,rfl,[],ws,[],?_,by simp,by simp;exact hwl,?_⟩⟩
      ·rw[List.nil_append,List.append_nil];exact World.alloc_heap_new _ _
      ·exact⟨ws,[],[],[],by simp,rfl,hwl,⟨fun _=>⟨rfl,B5.mono hle _ hrw,hone⟩,fun e=>absurd rfl e⟩,rfl,rfl⟩)
     refine Eff.of_run hrun rfl ⟨M,_,h5,h6,?_⟩;have:=V9 (M:=M) (p:=some ⟨w.heap.size,0,none⟩) (off:=0) (B7 ρ d ⟨w.heap.size,0,1,sz,1,0,false,[]⟩) rfl (Nat.zero_le _) (fun _=>by simp);simpa using this
    ·trivial
   ·trivial
  ·trivial
 ·trivial
theorem Eb9(h:Ow S wl M0 M ρ ob w){q g sz:Nat}{e:TypeId}{shs:List Sh}{es:List (List Dat)}{hh:Option (Nat×List V)}(hr:ob q=some (.tree g e sz shs es hh)){i:Inf}(hi:ρ q=some i):M6 S wl M ρ w i (.tree g e sz shs es hh):=by
 obtain⟨i',hi',hok⟩:=h.own q _ hr;rw[hi]at hi';cases hi';exact hok
theorem Cl2{c:Call}{s x:Operand}{t t2:TypeId}(h:Ow S wl M0 M ρ ob w)(hev:∀x,C0 M ρ (ev x) (a.eval x))(hc:c={callee:= .builtin .append,args:= #[s,x],argTypes:= #[t,t2]}):
 (Ao3 P ob d t t2 (ev s) (ev x)).Good (D6 r P a (.call c) S wl M0 M ρ ob w):=by
 subst hc;have hs0:=hev s;have hx:=hev x;generalize ev s=vs at*;generalize ev x=vx at*;unfold Ao3;split
 ·rename_i e rt gt he;have ht:=J0 he;split
  ·rename_i n by_ zs gt' e2 sz2 shs2 x0 cs hsz hby hzt hrt;split
   ·rename_i b1 b2 b3 b4 b5 b6 b7;obtain rfl:=nB_ b1;obtain rfl:=nB_ b2;obtain rfl:=nB_ b3;obtain rfl:=nB_ b4;have h1:=H3 b5;have hb:=H3 b6;have h3:=nB_ b7;obtain⟨i,hi,hsize,hbytes,z,hz,hzc⟩:=Br7 hsz hby hzt;have hzs:z.cells.size=sz2:=by rw[<-Array.length_toList,hzc,h3]
    subst hsize;subst hbytes
    --the literal's cells
    obtain⟨k,hk,_,hku⟩:=J8 hx;obtain⟨a1,a2,a3,a4,a5,a6,pre2,us2,sp2,hw2,hp2,hl2,hul2,hu2,hr2,hone2⟩:=Cf3 h hrt hk (Nat.lt_succ_self 0);obtain⟨_,p2,hxe,hxp⟩:=hku a2.symm;have hxp:=hxp (by rw[List.length_singleton]at a4;omega);subst hxp;rw[List.length_singleton]at a4;generalize hnews:(us2.drop (0*i.size)).take i.size=news at*;rw[a4,Nat.sub_zero,Nat.sub_zero]at hxe;have hxl:Builtin.lenOf (.slice (some ⟨k.b,(k.base+0)*k.sz,none⟩) 1 k.tot)=pure 1:=rfl;have hfc:∀w',w'.heap=w.heap->(Builtin.firstCells i.size 1 (.slice (some ⟨k.b,(k.base+0)*k.sz,none⟩) 1 k.tot)).run P w'= .ok (List.toArray news) w':=fun w' hw'=>
     run_firstCells_some (P:=P) w' i.size 1 _ _ _ _ (by rw[hu2];omega) (fun j v hj=>by
      rw[E0];unfold World.cell?;rw[hw',hw2];have hjl:=(List.getElem?_eq_some_iff.1 hj).1;rw[<-hnews,List.getElem?_take_of_lt (by omega),List.getElem?_drop]at hj;have hjl2:=(List.getElem?_eq_some_iff.1 hj).1;have e6:(k.base+0)*k.sz+j=pre2.length+j:=by rw[hp2,a3,Nat.add_zero]
      simp only[Option.isSome_none,Bool.false_eq_true,if_false,List.getElem?_toArray];rw[e6,List.getElem?_append_right (by omega),Nat.add_sub_cancel_left,List.getElem?_append_left (by omega)];rw[Nat.zero_mul,Nat.zero_add]at hj;exact hj)
    split
    ·split
     ·rename_i hd;simp only[C0]at hs0;obtain⟨p,hp⟩:=hs0;have hgr:∀ty,_:=fun ty=>Ay0 (ty:=ty) (P:=P) t t e i z ht (.inl ht) hi hz (p:=p) (xv:= .slice (some ⟨k.b,(k.base+0)*k.sz,none⟩) 1 k.tot) (n:=0) (cap:=0) (m:=1) (olds:=[]) (news:=news) (w:=w) hxl (by cases p<;>simp[Builtin.firstCells,loadCells,loadCellsFrom]) (hfc _ rfl) (by omega) (by omega) (by rw[Nat.zero_add];exact Ax9 hb (by omega) (by omega))
      have hG:=grownCap_ge w (0+1) 0 e;have hm:grownCap w (0+1) 0 e<=maxLen:=grownCap_le_maxLen w _ _ _ (by unfold maxLen;omega);obtain⟨h5,h6⟩:=h.drew.alloc hd (.cells ([]++(([]++news)++(Builtin.zeroCells z.cells (grownCap w (0+1) 0 e-(0+1))).toList)).toArray e) ⟨w.heap.size,0,grownCap w (0+1) 0 e,i.size,0+1,0,false,[]⟩ (.tree 0 e i.size (Gz7 ob cs) [[]] (some (0,cs))) (by simp) (fun ρ' hle hM=>by
       have hM:M w.heap.size=none:=by simpa using hM
       refine⟨rfl,rfl,rfl,rfl,hG,hm,fun _=>rfl,by simp,fun b hb=>(by cases hb),fun _=>⟨⟨.inr h.size,fun _=>hM,fun c hc=>by rw[show M w.heap.size=none from hM]at hc;cases hc⟩,rfl,[],[]++news,_,World.alloc_heap_new w.drew _,by simp,?_,?_⟩⟩
       ·rw[List.length_append,List.nil_append,hu2,Ab0 i hzs];show i.size+(grownCap w (0+1) 0 e-(0+1))*i.size=grownCap w (0+1) 0 e*i.size;rw[Nat.add_comm,<-Nat.succ_mul];congr 1;omega
       ·exact⟨news,[],[],[],by simp,rfl,hu2,⟨fun _=>⟨rfl,B5.mono hle _ hr2,hone2⟩,fun e=>absurd rfl e⟩,rfl,rfl⟩)
      refine Eff.of_run (I1 hp hxe hgr) rfl ⟨M,_,h5,h6,?_⟩;have:=V9 (M:=M) (p:=some ⟨w.heap.size,0,none⟩) (off:=0) (B7 ρ d ⟨w.heap.size,0,grownCap w (0+1) 0 e,i.size,0+1,0,false,[]⟩) rfl (Nat.zero_le _) (fun _=>by simp);simpa using this
     ·trivial
    ·rename_i rr g;split
     ·rename_i g' e' sz shs es hr hne;split
      ·rename_i c1 c2 c3 c4;obtain rfl:=nB_ c1;obtain rfl:=nB_ c2;obtain rfl:=nB_ c3;have hne:rr≠rt:=fun e=>by subst e;rw[Nat.beq_refl]at hne;cases hne
       intro zz hzz;have hbnd:=of_decide_eq_true (J5 hzz);obtain⟨f,hf,_,hu⟩:=J8 hs0;obtain⟨d1,d2,d3,d4,d5,d6,d7,d8,d9,d10⟩:=Eb9 h hr hf;obtain⟨_,p,hu,hp⟩:=hu d2.symm;rw[Nat.sub_zero,Nat.sub_zero]at hu;have hg0:Nat.blt g 1000000=true:=by simp only[Nat.blt_eq]at c4⊢;omega
       by_cases hroom:f.n+1<=f.tot
       ·obtain⟨hm,_,pre,us,sp,hw,hpre,hl,hrel⟩:=d10 (by omega);have hul:=hrel.len;have hp:=hp (by omega);subst hp;have e3:(f.base+0)*f.sz+f.n*i.size=(pre++us).length:=by rw[List.length_append,hpre,hul,d4,d3,Nat.add_zero]
        have e4:news.length<=sp.length:=by
         rw[List.length_append,hul,<-d4]at hl;have:(f.n+1)*i.size<=f.tot*i.size:=Nat.mul_le_mul_right _ hroom;rw[Nat.add_mul,Nat.one_mul]at this;omega
        have hrun:∀ty,_:=fun ty=>Cs5 (ty:=ty) (P:=P) t t e i ht (.inl ht) hi (xv:= .slice (some ⟨k.b,(k.base+0)*k.sz,none⟩) 1 k.tot) (m:=1) hw hxl (hfc w rfl) hone2 hroom (o:=(f.base+0)*f.sz) (by rw[e3];simp;omega)
        have e5:D5 (pre++(us++sp)).toArray.toList ((f.base+0)*f.sz+f.n*i.size) news=pre++((us++news)++sp.drop news.length):=by
         rw[e3];unfold D5;simp only[List.toList_toArray];rw[<-List.append_assoc pre us sp,List.take_left,<-List.drop_drop,List.drop_left];simp only[List.append_assoc]
        have hM:M f.b=none:=hm.2.1 hg0;have hoth:∀y,y∈f.subs->(w.setRow f.b (D5 (pre++(us++sp)).toArray.toList ((f.base+0)*f.sz+f.n*i.size) news).toArray).heap[y]? =w.heap[y]? :=fun y hy=>setRow_other w f.b y _ (fun e=>by rw[e]at hy;exact(List.nodup_cons.1 d8).1 hy)
        obtain⟨h5,h6⟩:=h.turn (w':=w.setRow f.b (D5 (pre++(us++sp)).toArray.toList ((f.base+0)*f.sz+f.n*i.size) news).toArray) hr hf ⟨f.b,f.base,f.tot,f.sz,f.n+1,g+1,false,f.subs⟩ (.tree (g+1) e i.size shs (es++[[]]) (some (es.length,cs)))
         (fun k _ hk=>setRow_other w f.b k _ (hk (by simp only[Al9];omega))) (by simp) rfl rfl rfl (fun _ c hc=>by rw[hM]at hc;cases hc) ⟨by simp only;omega,fun e=>by simp only at e;omega,fun e=>by rw[d1]at e;cases e⟩ (fun hl=> .inl ⟨by simp only[Al9]at hl⊢;omega,rfl⟩) (fun ρ' hle _=>by
         refine⟨rfl,rfl,d3,by rw[List.length_append,d4];rfl,hroom,d6,fun h=>absurd h (by show f.tot≠0;omega),d8,fun y hy=>⟨(d9 y hy).1,(d9 y hy).2.1,by simpa using (d9 y hy).2.2⟩,fun hp0=> ?_⟩;refine⟨Au2 hm d3 (by simp only;omega),c4,pre,us++news,sp.drop news.length,by rw[<-e5];exact setRow_heap w f.b _ _ e _ hw,hpre,?_,?_⟩
         ·simp only[List.length_append,List.length_drop];rw[List.length_append]at hl;omega
         ·have:=((hrel.mono (fun _ _ _ _ hc k=>k.mono hle (fun y hy=>hoth y (hc y hy)))).hole (k:=es.length) (cs:=cs) (by omega)).snoc (x:=[]) (u:=news) (b:=[]) ⟨fun _=>⟨rfl,B5.mono hle _ hr2,hone2⟩,fun e=>absurd (Nat.zero_add _) e⟩ hu2
          rwa [List.append_nil]at this) (fun y hy _=> .inl (.inr ⟨rfl,hy⟩))
        refine Eff.of_run (I1 hu hxe hrun) rfl ⟨M,_,h5,by simpa[wrO] using h6,?_⟩;have:=V9 (M:=M) (p:=some ⟨f.b,(f.base+0)*f.sz,none⟩) (off:=0) (B7 ρ rr ⟨f.b,f.base,f.tot,f.sz,f.n+1,g+1,false,f.subs⟩) rfl (Nat.zero_le _) (fun _=>rfl);simpa using this
       ·obtain⟨olds,ho1,hM,ho2⟩:∃olds,(Builtin.firstCells i.size f.n (.slice p f.n f.tot)).run P w.drew= .ok (List.toArray olds) w.drew/\(∀y,y∈f.subs->y<w.heap.size)/\M7 (Ad6 w M ρ i.size shs none) i.size 0 es olds f.subs:=by
         by_cases hlt:0<f.tot
         ·obtain⟨hm,_,pre,us,sp,hw,hpre,hl,hrel⟩:=d10 hlt;have hul:=hrel.len;rw[hp hlt];refine⟨us,run_firstCells_some (P:=P) w.drew i.size f.n _ _ _ _ (by rw[hul,d4]) (fun j v hj=> ?_),fun y hy=>(d9 y hy).2.2,hrel⟩;rw[E0];unfold World.cell?;rw[show w.drew.heap=w.heap from rfl,hw];have hjl:=(List.getElem?_eq_some_iff.1 hj).1;have e6:(f.base+0)*f.sz+j=pre.length+j:=by rw[hpre,d3,Nat.add_zero]
          simp only[Option.isSome_none,Bool.false_eq_true,if_false,List.getElem?_toArray];rw[e6,List.getElem?_append_right (by omega),Nat.add_sub_cancel_left,List.getElem?_append_left hjl];exact hj
         ·have h0:f.n=0:=by omega
          have:es=[]:=List.eq_nil_of_length_eq_zero (by omega);subst this;have hs:=d7 (by omega);refine⟨[],?_,fun y hy=>(by rw[hs]at hy;cases hy),rfl,hs⟩;rw[h0];cases p<;>simp[Builtin.firstCells,loadCells,loadCellsFrom]
        have hol:=ho2.len;have hbnd':f.n+1<=2147483648:=by omega
        have hgr:∀ty,_:=fun ty=>Ay0 (ty:=ty) (P:=P) t t e i z ht (.inl ht) hi hz (p:=p) (xv:= .slice (some ⟨k.b,(k.base+0)*k.sz,none⟩) 1 k.tot) (n:=f.n) (cap:=f.tot) (m:=1) (olds:=olds) (news:=news) (w:=w) hxl ho1 (hfc _ rfl) (by omega) (by omega) (Ax9 hb hbnd' (by omega))
        have hG:=grownCap_ge w (f.n+1) f.tot e;have hmx:grownCap w (f.n+1) f.tot e<=maxLen:=grownCap_le_maxLen w _ _ _ (by unfold maxLen;omega);obtain⟨h5,h6⟩:=h.drew.turn (w':=w.drew.alloc (.cells ([]++((olds++news)++(Builtin.zeroCells z.cells (grownCap w (f.n+1) f.tot e-(f.n+1))).toList)).toArray e)) hr hf ⟨w.heap.size,0,grownCap w (f.n+1) f.tot e,i.size,f.n+1,g+1,false,f.subs⟩ (.tree (g+1) e i.size shs (es++[[]]) (some (es.length,cs)))
         (fun k hk _=>Below.heap_alloc _ _ _ hk) (by simp) rfl rfl rfl (fun _ c hc=>by
          have:=h.sits.lt hc;rw[show(w.drew.alloc _).heap[f.b]? =w.drew.heap[f.b]? from Below.heap_alloc _ _ _ this];exact h.sits _ c hc) ⟨by simp only;omega,fun e=>by simp only at e;omega,fun e=>by rw[d1]at e;cases e⟩ (fun _=> .inr (Nat.le_refl _)) (fun ρ' hle hMb=>by
          have hMn:M w.heap.size=none:=hMb _ (Nat.le_refl _);refine⟨rfl,rfl,rfl,by rw[List.length_append,d4];rfl,hG,hmx,fun h=>absurd h (by show grownCap w (f.n+1) f.tot e≠0;omega),List.nodup_cons.2 ⟨fun hy=>absurd (hM _ hy) (Nat.lt_irrefl _),(List.nodup_cons.1 d8).2⟩,fun y hy=>⟨(d9 y hy).1,(d9 y hy).2.1,?_⟩,fun _=>⟨⟨.inr h.size,fun _=>hMn,fun c hc=>by rw[show M w.heap.size=none from hMn]at hc;cases hc⟩,c4,[],olds++news,_,World.alloc_heap_new w.drew _,by simp,?_,?_⟩⟩
          ·have:=hM y hy;simp;omega
          ·rw[List.length_append,List.length_append,hol,hu2,Ab0 i hzs,<-d4,<-Nat.succ_mul,<-Nat.add_mul];congr 1;show f.n+1+(grownCap w (f.n+1) f.tot e-(f.n+1))=grownCap w (f.n+1) f.tot e;omega
          ·have:=((ho2.mono (fun _ _ _ _ hc k=>k.mono hle (fun y hy=>show(w.drew.alloc (.cells ([]++((olds++news)++(Builtin.zeroCells z.cells (grownCap w (f.n+1) f.tot e-(f.n+1))).toList)).toArray e)).heap[y]? =w.heap[y]? from Below.heap_alloc w.drew _ _ (hM y (hc y hy))))).hole (k:=es.length) (cs:=cs) (by omega)).snoc (x:=[]) (u:=news) (b:=[]) ⟨fun _=>⟨rfl,B5.mono hle _ hr2,hone2⟩,fun e=>absurd (Nat.zero_add _) e⟩ hu2
           rwa [List.append_nil]at this) (fun y hy _=> .inl (.inr ⟨rfl,hy⟩))
        refine Eff.of_run (I1 hu hxe hgr) rfl ⟨M,_,h5,by simpa[wrO] using h6,?_⟩;have:=V9 (M:=M) (p:=some ⟨w.heap.size,0,none⟩) (off:=0) (B7 ρ rr ⟨w.heap.size,0,grownCap w (f.n+1) f.tot e,i.size,f.n+1,g+1,false,f.subs⟩) rfl (Nat.zero_le _) (fun _=>by simp);simpa using this
      ·trivial
     ·trivial
    ·trivial
   ·trivial
  ·trivial
 ·trivial
end
end
section
section
variable {r:Option Nat} {P:Program} {a:Act} {w wl:World} {S:N0} {M0 M:Mem} {ρ:Rho} {ob:Nat->Option B9} {ev:Operand->V} {d:Nat} {ty:TypeId} {op:Op}
theorem Eo0{cs xs:List Dat}{us vs:List Value}{k:Nat}(h:D3 M cs us)(h':D3 M xs vs):D3 M (Ah3 cs k xs) (D5 us k vs):=by
 unfold Ah3 D5;rw[h'.len];exact((h.take k).append h').append (h.drop _)
theorem Eb2{t:TypeId}{x y:Operand}(h:Ow S wl M0 M ρ ob w){n:Nat}(hs:F8 P t=some n){rr g j k sz:Nat}{e:TypeId}{es:List (List Dat)}{old xs:List Dat}{ws:List Value}{u:Value}(hx:C0 M ρ (.ept rr g j k) (a.eval x))(hy:a.eval y=u)(hc:u.cells=ws.toArray)(hw1:∀v∈ws,v.oneCell'=true)(hrel:D3 M xs ws)
 (hr:ob rr=some (.buf g e sz es)) (hn:xs.length=n) (hl:k+n<=sz) (hpn:Nat.blt g 1000000=true) (ho:es[j]? =some old):
 D6 r P a (.store t x y) S wl M0 M ρ ob w .undef [(rr,.buf g e sz (es.set j (Ah3 old k xs)))]:=by
 obtain⟨i,hi,hg,hp⟩:=Aq3 hx;obtain⟨hfix,hg',hsz,hnn,ht,hmax,hh⟩:=h.buf_heap hr hi;obtain⟨hjn,hp⟩:=hp hg'.symm;obtain⟨hm,pre,us,sp,hw,hpre,hlen,hrl⟩:=hh (by omega);obtain⟨q1,q2,q3⟩:=Az3 hrl ho;obtain⟨e1,e2⟩:=Bt3 hrl (off:=j+1) (by omega);rw[Nat.add_mul,Nat.one_mul]at e2;have hwl:ws.length=n:=by rw[hrel.len,hn]
 have hoff:(i.base+j)*i.sz+k=pre.length+(j*sz+k):=by rw[hpre,hsz,Nat.add_mul];omega
 have hst:=U6 (P:=P) (k:=(i.base+j)*i.sz+k) hw hc (by rw[hwl];exact hs) hw1 (by rw[hoff];simp;omega);have hnew:D5 (pre++(us++sp)).toArray.toList ((i.base+j)*i.sz+k) ws=pre++(D5 us (j*sz) (D5 ((us.drop (j*sz)).take sz) k ws)++sp):=by
  rw[hoff];simp only[List.toList_toArray];rw[J9,P2 (by omega),Bg9 (n:=sz) rfl (by omega) (by omega)]
 rw[hnew]at hst;have hrl2:rL (rDs sz) M (D5 us (j*sz) (D5 ((us.drop (j*sz)).take sz) k ws)) (es.set j (Ah3 old k xs)):=Gh4 hrl (by omega) (u:=D5 ((us.drop (j*sz)).take sz) k ws) ⟨by unfold Ah3;simp;omega,Eo0 q3 hrel⟩;obtain⟨h5,h6⟩:=h.turn (w':=w.setRow i.b (pre++(D5 us (j*sz) (D5 ((us.drop (j*sz)).take sz) k ws)++sp)).toArray) hr hi i (.buf g e sz (es.set j (Ah3 old k xs))) (fun q _ hq=>setRow_other w i.b q _ (hq (by simp only[Al9];omega))) (by simp) rfl rfl rfl (fun _ c hc=>by rw[hm.2.1 hpn]at hc;cases hc) ⟨Nat.le_refl _,fun _=>rfl,fun _=>rfl⟩ (fun hl=> .inl ⟨hl,rfl⟩)
  (fun ρ' _ _=>⟨hfix,hg',hsz,by simpa using hnn,ht,hmax,fun _=>⟨hm,pre,_,sp,setRow_heap w i.b _ _ e _ hw,hpre,by
   rw[List.length_append,K5 _ _ _ (by rw[K5 _ _ _ (by omega)];omega)];rw[List.length_append]at hlen;exact hlen,hrl2⟩⟩)
 refine Eff.of_runU (w':=w.setRow i.b (pre++(D5 us (j*sz) (D5 ((us.drop (j*sz)).take sz) k ws)++sp)).toArray) ?_ rfl ⟨M,_,h5,h6,C5 _⟩;intro d ty pos aft g;simp[execOp,Instr.storeAt,Instr.sureAddr,hp,hy,hst]
theorem De6{t:TypeId}{m k v:Operand}{res:Res}(h:res.Good (D6 r P a (.mapUpdate t m k v) S wl M0 M ρ ob w)):res.Good (D6 r P a (.insert t m k v) S wl M0 M ρ ob w):=by
 have key:∀{R:Value->World->Prop},Eff r P a (.mapUpdate t m k v) w R->Eff r P a (.insert t m k v) w R:=fun h d ty pos aft g K Q hK=>by
  have:=h d ty pos aft g K Q hK;refine⟨fun _ _=>trivial,?_⟩;have h2:=this.2;rw[show(WF r).round=r from rfl,Af3 rfl]at h2⊢;have e:execOp a.eval ⟨d,.insert t m k v,ty,pos,aft,g⟩=execOp a.eval ⟨d,.mapUpdate t m k v,ty,pos,aft,g⟩:=rfl;rw[e];generalize (execOp a.eval ⟨d,.mapUpdate t m k v,ty,pos,aft,g⟩).run P w=res at h2⊢;cases res with
  |ok x w'=>cases x<;>exact h2
  |halt x w'=>cases x<;>exact h2
 cases res with
 |bad=>trivial
 |ok v wr=>exact key h
 |opt1 o kk=>exact fun x hx=>key (h x hx)
 |opt2 o kk=>exact fun x hx=>key (h x hx)
 |call f args=>exact h
theorem Dr9{t:TypeId}{x y:Operand}(h:Ow S wl M0 M ρ ob w)(hev:∀x,C0 M ρ (ev x) (a.eval x)):(Br2 P ob t (ev x) (Ah4 P t (ev y))).Good (D6 r P a (.store t x y) S wl M0 M ρ ob w):=by
 have hx:=hev x;have hy:=U7 (P:=P) (t:=t) (hev y);generalize ev x=vx at*;generalize Ah4 P t (ev y)=vy at*;unfold Br2;split
 ·rename_i n rr k hs;split
  ·rename_i cs us hr hus;split
   ·rename_i h1 h2;exact Eb1 h hs hx hy hus hr (nB_ h1) (H3 h2)
   ·trivial
  ·trivial
 ·rename_i n rr g j k hs;split
  ·rename_i us hus;split
   ·rename_i xs wr hds;split
    ·rename_i g' e sz es hr;split
     ·rename_i h1 h2 h3 h4;obtain rfl:=nB_ h1;intro es' hes;split at hes
      ·rename_i old hold;cases hes;obtain⟨ws,hc,hrw,hw1⟩:=M4 hus hy;obtain⟨M1,r1,o1,d1⟩:=G6 h hrw hds;refine D6.after r1 ?_;exact Eb2 o1 hs (C0.mono r1 _ hx) rfl hc hw1 d1 hr (nB_ h2) (H3 h3) h4 hold
      ·cases hes
     ·trivial
    ·trivial
   ·trivial
  ·trivial
 ·trivial
theorem Dr4{t:TypeId}{x i:Operand}(h:Ow S wl M0 M ρ ob w)(hev:∀x,C0 M ρ (ev x) (a.eval x)):(J3 P ob d ty ev (.index t x i)).Good (D6 r P a (.index t x i) S wl M0 M ρ ob w):=by
 simp only[J3];have hx:=hev x;have hi:=hev i;generalize ev x=vx at*;generalize ev i=vi at*;unfold Cm0;split
 ·trivial
 ·rename_i j hj;obtain⟨k,hk⟩:=N6 hj hi;split
  ·rename_i s;split
   ·rename_i ht;intro cs hcs;split at hcs
    ·rename_i c hc;cases hcs;obtain⟨hj0,hj1⟩:=N5 hc;exact D6.val h (Bu3 (i:=j.toNat) (P9 hx) (by rw[hk,<-hj0]) ht hj1) rfl J6
    ·cases hcs
   ·trivial
  ·rename_i cs;obtain⟨us,hu,hr⟩:=Ab3 hx;split
   ·rename_i n e ht;have ht':=Bx4 ht;split
    ·rename_i s ag hz;obtain⟨hs,ha,h1⟩:=N7 hz;have part:∀(q:Nat),q<n->(q+1)*s<=us.length->j=(q:Int)->∀v,C0 M ρ v (mkv ag ((us.drop (q*s)).take s))->D6 r P a (.index t x i) S wl M0 M ρ ob w v []:=fun q hq hql hjq v hv=>by
      have hl':((us.drop (q*s)).take s).length=s:=Q1 (by rw[Nat.add_mul]at hql;omega);refine D6.val h (Dz8 (i:=q) (vs:=(us.drop (q*s)).take s) hu (by rw[hk,hjq]) ht' hq ha hs hl' (fun e=>by rw[hl'];exact h1 e) (fun p hp=> ?_)) rfl hv;rw[List.getElem?_take_of_lt (by omega),List.getElem?_drop]
     split
     ·split
      ·rename_i g1 g2 g3;have g1:=of_decide_eq_true g1;have g2:=Ae6 g2;have g3:=H3 g3;have hl:=hr.len;have h5:(j.toNat+1)*s<=n*s:=Nat.mul_le_mul_right _ (by omega);refine part j.toNat g2 (by omega) (by omega) _ (U2 (n:=s) ((hr.drop _).take s) (fun e=> ?_));rw[Nat.add_mul]at h5;rw[Q1 (by omega)];exact h1 e
      ·trivial
     ·split
      ·rename_i ds g1 g2;have g2:=nB_ g2;have hd:=Bg3 g1 hr;intro c hc;obtain⟨hj0,hj1⟩:=N5 hc;obtain⟨h3,h4⟩:=Y0 _ _ _ _ _ hj1;have hl:=hr.len;have h5:(j.toNat+1)*s<=n*s:=Nat.mul_le_mul_right _ (by omega);refine part j.toNat h3 (by omega) hj0 _ ?_;dsimp only;split
       ·rename_i hb;rw[h4];rw[Nat.add_mul]at h5;exact U2 (n:=s) (B5.dV ((hd.drop _).take s)) (fun e=>by rw[Q1 (by omega)];exact h1 e)
       ·exact C5 _
      ·trivial
    ·trivial
   ·trivial
  ·trivial
theorem S4(h:Ow S wl M0 M ρ ob w)(hev:∀x,C0 M ρ (ev x) (a.eval x)):(J3 P ob d ty ev op).Good (D6 r P a op S wl M0 M ρ ob w):=by
 cases op with
 |move x=>exact D6.val h (En9 rfl) rfl (U7 (hev x))
 |assign x=>exact D6.val h (Dg8 rfl) rfl (U7 (hev x))
 |pick c x y=>exact Ej8 h hev
 |alloc t=>exact Cl1 h
 |box t x=>exact Dq8 h hev
 |build t ps=>exact Dq9 h hev
 |buildSlice t n ps=>exact H0 (Bj1 h hev) (De4 h hev)
 |load t x=>exact H0 (Ej5 h hev) (Dr5 h hev)
 |store t x y=>exact H0 (De9 h hev) (Dr9 h hev)
 |nilCheck x=>exact Bz7 h hev
 |binOp o t x y u=>exact De3 h hev
 |unOp o t x=>exact Ej9 h hev
 |convert s t x=>exact Bz4 h hev
 |makeInterface t x=>exact Bq7 h
 |makeFunc f x y=>exact Bz5 h hev
 |makeSlice t l c=>exact H0 (Dr6 h hev) (Ej6 h hev)
 |makeMap t hint=>cases hint with
  |none=>exact Cl6 h
  |some _=>trivial
 |lookup t m k ok=>exact De7 h hev
 |mapUpdate t m k v=>exact Bm3 h hev
 |insert t m k v=>exact De6 (Bm3 (ty:=ty) (d:=d) h hev)
 |slice t x lo hi mx=>exact Dr8 h hev
 |fieldAddr t x i=>exact Bq5 h hev
 |field t x i=>exact Dr3 h hev
 |indexAddr t x i=>exact H0 (Bq6 h hev) (De5 h hev)
 |index t x i=>exact Dr4 h hev
 |extract x i=>exact Cl5 h hev
 |call c=>
  obtain⟨callee,args,tys⟩:=c;cases callee with
  |builtin b=>
   cases b<;>first|trivial|skip
   ·simp only[J3];split
    ·rename_i s x t t2 h1 h2;have he:(⟨.builtin .append,args,tys⟩:Call)={callee:= .builtin .append,args:= #[s,x],argTypes:= #[t,t2]}:=by rw[show args= #[s,x] from Array.ext' h1,show tys= #[t,t2] from Array.ext' h2]
     exact H0 (De2 h hev he) (Cl2 h hev he)
    ·trivial
   ·simp only[J3];split
    ·rename_i s x t t2 h1 h2;exact Ej3 h hev (by rw[show args= #[s,x] from Array.ext' h1,show tys= #[t,t2] from Array.ext' h2])
    ·trivial
   ·simp only[J3];split
    ·rename_i x t h1 h2;exact H0 (Fi7 h hev (by rw[show args= #[x] from Array.ext' h1,show tys= #[t] from Array.ext' h2])) (Ej4 h hev (by rw[show args= #[x] from Array.ext' h1,show tys= #[t] from Array.ext' h2]))
    ·trivial
   ·simp only[J3];split
    ·rename_i k m k' n he;split
     ·rename_i hk;obtain rfl:=Be1 hk;exact Bz6 (mx:=true) h rfl hev he
     ·trivial
    ·trivial
   ·simp only[J3];split
    ·rename_i k m k' n he;split
     ·rename_i hk;obtain rfl:=Be1 hk;exact Bz6 (mx:=false) h rfl hev he
     ·trivial
    ·trivial
   ·simp only[J3];split
    ·rename_i x h1;obtain rfl:args= #[x]:=Array.ext' h1;exact Dr7 h hev
    ·trivial
   ·simp only[J3];split
    ·rename_i x n pt it h1 h2;obtain rfl:args= #[x,n]:=Array.ext' h1;obtain rfl:tys= #[pt,it]:=Array.ext' h2;exact Ek0 h hev
    ·trivial
  |value f=>
   simp only[J3];split<;>trivial
  |invoke x m=>trivial
 |_=>trivial
end
end
section
inductive It where
 |code (c:Code)
 |inBlock (id:Nat)
 |inLoop (b:Code)
 |inScope (b:Code)
 |ops (all rest:List Oper)
 |begR (l:Nat)
 deriving Inhabited
structure Cfg where
 sl:Tri
 ob:List (Nat×B9)
 td:List It
 deriving Inhabited
section
variable {r:Option Nat} {P:Program} {Q:Exit->Act->World->Prop} {a:Act} {w:World}
@[irreducible] def Wl (r:Option Nat) (P:Program) (b:Code) (Q:Exit->Act->World->Prop) (a:Act) (w:World):Prop:=
 (∀(f:Frame) (k:List Item) (cs:List Frame),f.roundOf=r->(∃fn,P.funcs[f.fn]? =some fn)->
  ∃e a' w',Q e a' w'/\ArrivesIn (Machine.fenced P (WF r)) P (lone (f.atR a (.inLoop b::k)) cs w) f k cs e a' w')/\W r P (.loop b) Q a w
theorem Ff7{b:Code}(h:W r P b (Exit.then (fun a w=>Wl r P b Q a w) Q) a w):Wl r P b Q a w:=by
 have key:∀(f:Frame) (k:List Item) (cs:List Frame),f.roundOf=r->(∃fn,P.funcs[f.fn]? =some fn)->
  ∃e a' w',Q e a' w'/\ArrivesIn (Machine.fenced P (WF r)) P (lone (f.atR a (.code b:: .inLoop b::k)) cs w) f k cs e a' w':=by
  intro f k cs hro hb;obtain⟨e,a₁,w₁,hq,harr⟩:=Dc7 h f (.inLoop b::k) cs hro hb;cases e with
  |normal=>
   simp only[Exit.then]at hq;unfold Wl at hq;obtain⟨e₂,a₂,w₂,hq₂,harr₂⟩:=hq.1 f k cs hro hb;exact⟨e₂,a₂,w₂,hq₂,.of_steps harr harr₂⟩
  |exit id=>exact⟨_,a₁,w₁,hq,.pass (x:= .inLoop b) rfl (fun _ _=> .inl (by simp)) harr⟩
  |goto l=>exact⟨_,a₁,w₁,hq,.pass (x:= .inLoop b) rfl (fun _ _=> .inl (by simp)) harr⟩
  |ret=>exact⟨_,a₁,w₁,hq,.pass (x:= .inLoop b) rfl (fun _ _=> .inl (by simp)) harr⟩
  |panic ch=>exact⟨_,a₁,w₁,hq,.pass (x:= .inLoop b) rfl (fun _ _=> .inl (by simp)) harr⟩
  |outgrown=>exact⟨_,a₁,w₁,hq,.pass (x:= .inLoop b) rfl (fun _ _=> .inl (by simp)) harr⟩
 unfold Wl;refine⟨fun f k cs hro hb=> ?_,?_⟩
 ·obtain⟨e,a',w',hq,harr⟩:=key f k cs hro hb;exact⟨e,a',w',hq,.of_steps (.one (L0 rfl) stepR_inLoop) harr⟩
 ·unfold W;intro f k cs hro hb;obtain⟨e,a',w',hq,harr⟩:=key f k cs hro hb;exact⟨e,a',w',hq,.of_steps (.one (L0 rfl) stepR_loop) harr⟩
theorem Ff8{b:Code}(h:Wl r P b Q a w):W r P (.loop b) Q a w:=by unfold Wl at h;exact h.2
@[irreducible] def Wg (r:Option Nat) (P:Program) (b rest:Code) (Q:Exit->Act->World->Prop) (a:Act) (w:World):Prop:=
 ∀(f:Frame) (k:List Item) (cs:List Frame),f.roundOf=r->(∃fn,P.funcs[f.fn]? =some fn)->
  ∃e a' w',Q e a' w'/\ArrivesIn (Machine.fenced P (WF r)) P (lone (f.atR a (.code rest:: .inScope b::k)) cs w) f k cs e a' w'
def Bj2(r:Option Nat)(P:Program)(b:Code)(Q:Exit->Act->World->Prop):Exit->Act->World->Prop
 | .goto l,a,w=>match findLabel b l with|some rest=>Wg r P b rest Q a w|none=>Q (.goto l) a w
 |e,a,w=>Q e a w
theorem Ea3{b:Code}{m:Machine}{f:Frame}{k:List Item}{cs:List Frame}{e:Exit}(hro:f.roundOf=r)(hb:∃fn,P.funcs[f.fn]? =some fn)(harr:ArrivesIn (Machine.fenced P (WF r)) P m f (.inScope b::k) cs e a w)(hq:Bj2 r P b Q e a w):
 ∃e a' w',Q e a' w'/\ArrivesIn (Machine.fenced P (WF r)) P m f k cs e a' w':=by
 have st:∀{a:Act} {w:World},step P (lone (f.atR a (.inScope b::k)) cs w)= .next (lone (f.atR a k) cs w):=step_lone_go (by simp[stepG,stepG.exec,Frame.atR]);cases e with
 |normal=>exact⟨.normal,a,w,hq,StepsIn.trans harr (.one (L0 rfl) st)⟩
 |exit id=>
  have hx:exitTo id (.inScope b::k)=exitTo id k:=by simp[exitTo]
  exact⟨.exit id,a,w,hq,fun k' hk=>harr.1 k' (by rw[hx];exact hk),fun hr' hk=>harr.2 hr' (by rw[hx];exact hk)⟩
 |goto l=>
  simp only[Bj2]at hq;split at hq
  ·rename_i rest hl;unfold Wg at hq;obtain⟨e',a',w',q,arr⟩:=hq f k cs hro hb;exact⟨e',a',w',q,.of_steps (harr.1 _ (by simp[gotoIn,hl])) arr⟩
  ·rename_i hl;have hx:gotoIn l (.inScope b::k)=gotoIn l k:=by simp[gotoIn,hl]
   exact⟨.goto l,a,w,hq,fun k' hk=>harr.1 k' (by rw[hx];exact hk),fun hr' hk=>harr.2 hr' (by rw[hx];exact hk)⟩
 |ret=>exact⟨_,a,w,hq,harr⟩
 |panic ch=>exact⟨_,a,w,hq,harr⟩
 |outgrown=>exact⟨_,a,w,hq,harr⟩
theorem Gq3{b rest:Code}(h:W r P rest (Bj2 r P b Q) a w):Wg r P b rest Q a w:=by
 unfold Wg;intro f k cs hro hb;obtain⟨e,a₁,w₁,hq,harr⟩:=Dc7 h f (.inScope b::k) cs hro hb;exact Ea3 hro hb harr hq
def Wk(r:Option Nat)(P:Program)(fin:Exit->Act->World->Prop):List It->Exit->Act->World->Prop
 |[]=>fin
 | .code c::k=>Exit.then (fun a w=>W r P c (Wk r P fin k) a w) (Wk r P fin k)
 | .inBlock id::k=>Exit.inBlock id (Wk r P fin k)
 | .inLoop b::k=>Exit.then (fun a w=>Wl r P b (Wk r P fin k) a w) (Wk r P fin k)
 | .inScope b::k=>Bj2 r P b (Wk r P fin k)
 | .ops all rest::k=>Exit.then (fun a w=>L r P all.toArray (Wk r P fin k) rest a w) (Wk r P fin k)
 | .begR l::k=>Exit.then (fun a w=>∃w2,(Instr.beginRound l).run P w= .ok () w2/\Wk r P fin k .normal a w2) (fun _ _ _=>False)
end
def G2(N:Nat)(sl:Tri):Operand->V
 | .tmp t=>match Nat.blt t N with|true=>sl.get 10 t|false=> .undef
 | .const v=>Go3 v
 | .func f=> .d (.fnc f)
 | .global n=>match gl n with|some cs=> .rp cs 0|none=> .undef
def Cf9(N:Nat)(sl:Tri)(d:Option Nat)(v:V):Tri:=match d with
 |none=>sl
 |some d=>match Nat.blt d N with|true=>sl.set 10 d v|false=> .e
def Ds4(id:Nat):List It->Option (List It)
 |[]=>none
 | .inBlock i::k=>match Nat.beq i id with|true=>some k|false=>Ds4 id k
 | .begR _::_=>none
 |_::k=>Ds4 id k
def Dt7(l:Nat):List It->Option (List It)
 |[]=>none
 | .inScope b::k=>match findLabel b l with|some rest=>some (.code rest:: .inScope b::k)|none=>Dt7 l k
 | .begR _::_=>none
 |_::k=>Dt7 l k
def gd(N:Nat)(sl:Tri)(all:List Oper)(o:Oper):Option Bool:=match o.guard with
 |none=>some true
 |some (j,want)=>match Bj0 all j with
  |some t=>match G2 N sl (.tmp t) with
   | .d (.bool b)=>match b,want with|true,true=>some true|false,false=>some true|_,_=>some false
   | .un=>some false
   |_=>none
  |none=>none
section
variable (P:Program) (N:Nat)
def Ah2(c:Cfg):Res:=match c.td with
 | .ops all (o::_)::_=>match gd N c.sl all o with
   |some true=>J3 P (B4 c.ob) (o.dst.getD 0) o.type (G2 N c.sl) o.op
   |_=> .bad
 |_=> .bad
def after(c:Cfg)(v:V)(wr:Wr):Cfg:=match c.td with
 | .ops all (o::rest)::k=>⟨Cf9 N c.sl o.dst v,R2 c.ob wr,.ops all rest::k⟩
 |_=>c
def adv(c:Cfg):Option Cfg:=match c.td with
 | .code .skip::k=>some ⟨c.sl,c.ob,k⟩
 | .code (.label _)::k=>some ⟨c.sl,c.ob,k⟩
 | .code (.seq x y)::k=>some ⟨c.sl,c.ob,.code x:: .code y::k⟩
 | .code (.block id b)::k=>some ⟨c.sl,c.ob,.code b:: .inBlock id::k⟩
 | .code (.scope b)::k=>some ⟨c.sl,c.ob,.code b:: .inScope b::k⟩
 | .code (.loop b)::k=>some ⟨c.sl,c.ob,.inLoop b::k⟩
 | .code (.exit id)::k=>match Ds4 id k with|some k'=>some ⟨c.sl,c.ob,k'⟩|none=>none
 | .code (.goto l)::k=>match Dt7 l k with|some k'=>some ⟨c.sl,c.ob,k'⟩|none=>none
 | .code (.region _ ops false)::k=>some ⟨c.sl,c.ob,.ops ops.toList ops.toList::k⟩
 | .code (.cond x t f)::k=>match G2 N c.sl x with
   | .d (.bool b)=>match b with|true=>some ⟨c.sl,c.ob,.code t::k⟩|false=>some ⟨c.sl,c.ob,.code f::k⟩
   |_=>none
 | .inBlock _::k=>some ⟨c.sl,c.ob,k⟩
 | .inScope _::k=>some ⟨c.sl,c.ob,k⟩
 | .inLoop b::k=>some ⟨c.sl,c.ob,.code b:: .inLoop b::k⟩
 | .ops _ []::k=>some ⟨c.sl,c.ob,k⟩
 | .ops all (o::rest)::k=>match gd N c.sl all o with
   |some true=>match Ah2 P N c with
    | .ok v wr=>some ⟨Cf9 N c.sl o.dst v,R2 c.ob wr,.ops all rest::k⟩
    |_=>none
   |some false=>some ⟨Cf9 N c.sl o.dst .un,c.ob,.ops all rest::k⟩
   |none=>none
 |_=>none
def Ax3:Nat->Cfg->Cfg
 |0,c=>c
 |n+1,c=>match adv P N c with
  |some c'=>Ax3 n c'
  |none=>c
end
structure Abs(S:N0)(wl:World)(M0 M:Mem)(ρ:Rho)(N:Nat)(c:Cfg)(f:Nat->Value)(w:World):Prop where
 ow:Ow S wl M0 M ρ (B4 c.ob) w
 ok:c.sl.ok 10
 sl:∀t,t<N->C0 M ρ (c.sl.get 10 t) (f t)
structure Fin where
 H:N0->World->Mem->Prop
 post:N0->World->Mem->Exit->Act->World->Prop
instance:CoeFun Fin (fun _=>N0->World->Mem->Exit->Act->World->Prop):=⟨Fin.post⟩
def J(r:Option Nat)(P:Program)(N:Nat)(ds:List Deferred)(fin:Fin)(c:Cfg):Prop:=
 N<=1024/\∀S wl M0,fin.H S wl M0->∀M ρ f w,Abs S wl M0 M ρ N c f w->Wk r P (fin S wl M0) c.td .normal (fr N f ds) w
section
variable {r:Option Nat} {P:Program} {N:Nat} {ds:List Deferred} {fin:Fin} {c:Cfg}
variable {S:N0} {wl w:World} {M0 M:Mem} {ρ:Rho} {f:Nat->Value}
theorem F6(h:Abs S wl M0 M ρ N c f w)(x:Operand):C0 M ρ (G2 N c.sl x) ((fr N f ds).eval x):=by
 cases x with
 |tmp t=>
  simp only[G2];split
  ·rename_i ht;rw[ev ht rfl];exact h.sl t (Ae6 ht)
  ·exact C5 _
 |const v=>exact Bv2 v
 |func g=>simp only[G2,C0];exact .fnc g
 |global g=>
  simp only[G2];split
  ·rename_i cs hg;obtain⟨us,h1,h2⟩:=h.ow.gl.ok.d g cs hg;simp only[C0];exact⟨g,0,us,rfl,h1,h2⟩
  ·exact C5 _
theorem Bt5(h:Abs S wl M0 M ρ N c f w)(hN:N<=1024){M':Mem}{ρ':Rho}{w':World}{ob':List (Nat×B9)}(hr:Rle M M' ρ ρ')(ho:Ow S wl M0 M' ρ' (B4 ob') w'){v:V}{u:Value}(hv:C0 M' ρ' v u)(d:Option Nat)(td:List It):
 Abs S wl M0 M' ρ' N ⟨Cf9 N c.sl d v,ob',td⟩ (match d with|some d=>upd f d u|none=>f) w':=by
 cases d with
 |none=>exact⟨ho,h.ok,fun t ht=>C0.mono hr _ (h.sl t ht)⟩
 |some d=>
  simp only[Cf9];split
  ·rename_i hd;have hd:=Ae6 hd;refine⟨ho,Tri.set_ok _ _ _ _ h.ok,fun t ht=> ?_⟩;by_cases e:t=d
   ·subst e;dsimp only;rw[Tri.get_set_same,Ar0];exact hv
   ·dsimp only;rw[Tri.get_set_ne _ _ _ _ _ h.ok (by omega) (by omega) (fun e'=>e e'.symm),Cf5 _ _ e];exact C0.mono hr _ (h.sl t ht)
  ·exact⟨ho,trivial,fun t _=>by dsimp only;rw[Tri.get_e];exact C5 _⟩
theorem At8{d:Option Nat}{u:Value}:(fr N f ds).put d u=fr N (match d with|some d=>upd f d u|none=>f) ds:=by
 cases d with
 |none=>rfl
 |some d=>exact Eu0
theorem Cm7(h:Abs S wl M0 M ρ N c f w){all:List Oper}{o:Oper}{b:Bool}(hg:gd N c.sl all o=some b):Region.wanted o (yielded all.toArray (fr N f ds).tmps)=b:=by
 obtain⟨d,op,ty,pos,aft,g⟩:=o;cases g with
 |none=>simp only[gd,Option.some.injEq]at hg;subst hg;rfl
 |some p=>
  obtain⟨j,want⟩:=p;unfold gd at hg;dsimp only at hg;split at hg
  ·rename_i t ht;have hr:=F6 (ds:=ds) h (.tmp t);have hlt:∀v,G2 N c.sl (.tmp t)=v->v≠ .undef->Nat.blt t N=true:=fun v hv hne=>by
    simp only[G2]at hv;split at hv
    ·assumption
    ·exact absurd hv.symm hne
   split at hg
   ·rename_i b' hb;have hN:=hlt _ hb (by intro e;cases e);rw[hb]at hr;have he:=Q5 hr;have hft:f t= .bool b':=by rw[<-he,ev hN rfl]
    rw[Db2 (Ey6 ht hN hft)];cases b'<;>cases want<;>simp at hg⊢<;>first|exact hg|exact hg.symm
   ·rename_i hb;have hN:=hlt _ hb (by intro e;cases e);rw[hb]at hr;simp only[C0]at hr;have hft:f t=undef:=by rw[<-hr,ev hN rfl]
    cases hg;exact Db3 (Db6 ht hN hft) want
   ·cases hg
  ·cases hg
theorem Ag5{fin':Exit->Act->World->Prop}{id:Nat}{a:Act}{w:World}:∀{k k':List It},Ds4 id k=some k'->Wk r P fin' k' .normal a w->Wk r P fin' k (.exit id) a w
 |[],_,h,_=>by cases h
 | .inBlock i::k,k',h,hw=>by
   unfold Ds4 at h;split at h
   ·rename_i hb;cases h;obtain rfl:=nB_ hb;simp only[Wk,Exit.inBlock,if_true];exact hw
   ·rename_i hb;have hne:¬id=i:=fun e=>by subst e;simp at hb
    simp only[Wk,Exit.inBlock,if_neg hne];exact Ag5 h hw
 | .code c::k,k',h,hw=>by simp only[Wk,Exit.then];exact Ag5 h hw
 | .inLoop b::k,k',h,hw=>by simp only[Wk,Exit.then];exact Ag5 h hw
 | .inScope b::k,k',h,hw=>by simp only[Wk,Bj2];exact Ag5 (k:=k) h hw
 | .ops a b::k,k',h,hw=>by simp only[Wk,Exit.then];exact Ag5 h hw
 | .begR _::k,k',h,hw=>by cases h
theorem Ff6{c:Code}{Q:Exit->Act->World->Prop}{a:Act}{w:World}(h:W r P c (Bj2 r P c Q) a w):W r P (.scope c) Q a w:=by
 unfold W;intro b k cs hro hb;have st:step P (lone (b.atR a (.code (.scope c)::k)) cs w)= .next (lone (b.atR a (.code c:: .inScope c::k)) cs w):=step_lone_go (by simp[stepG,stepG.exec,Frame.atR]);obtain⟨e,a₁,w₁,hq,harr⟩:=Dc7 h b (.inScope c::k) cs hro hb;obtain⟨e',a',w',q,arr⟩:=Ea3 hro hb harr hq;exact⟨e',a',w',q,.of_steps (.one (L0 rfl) st) arr⟩
theorem Ag6{fin':Exit->Act->World->Prop}{l:Nat}{a:Act}{w:World}:∀{k k':List It},Dt7 l k=some k'->Wk r P fin' k' .normal a w->Wk r P fin' k (.goto l) a w
 |[],_,h,_=>by cases h
 | .inScope b::k,k',h,hw=>by
   simp only[Wk,Bj2];unfold Dt7 at h;split at h
   ·rename_i rest hl;cases h;exact Gq3 hw
   ·exact Ag6 h hw
 | .inBlock i::k,k',h,hw=>by simp only[Wk,Exit.inBlock];exact Ag6 (k:=k) h hw
 | .code c::k,k',h,hw=>by simp only[Wk,Exit.then];exact Ag6 (k:=k) h hw
 | .inLoop b::k,k',h,hw=>by simp only[Wk,Exit.then];exact Ag6 (k:=k) h hw
 | .ops a b::k,k',h,hw=>by simp only[Wk,Exit.then];exact Ag6 (k:=k) h hw
 | .begR _::k,k',h,hw=>by cases h
theorem Db5(l:List (Nat×B9))(wr:Wr):wrO (B4 l) wr=B4 (R2 l wr):=(W0 wr l).symm
theorem Dc5{v:V}{wr:Wr}{all rest:List Oper}{o:Oper}{k:List It}(ht:c.td= .ops all (o::rest)::k)(hg:gd N c.sl all o=some true)
 (he:∀S wl M0 M ρ f w,Abs S wl M0 M ρ N c f w->D6 r P (fr N f ds) o.op S wl M0 M ρ (B4 c.ob) w v wr) (hk:J r P N ds fin ⟨Cf9 N c.sl o.dst v,R2 c.ob wr,.ops all rest::k⟩):J r P N ds fin c:=by
 refine⟨hk.1,fun S wl M0 hH M ρ f w h=> ?_⟩;rw[ht];simp only[Wk,Exit.then];obtain⟨d,op,ty,pos,aft,g⟩:=o;refine Hb4 (Cm7 h hg) (he S wl M0 M ρ f w h _ _ _ _ _ _ _ fun u w' ⟨M',ρ',h1,h2,h3⟩=> ?_);have:=hk.2 S wl M0 hH M' ρ' _ w' (Bt5 h hk.1 h1 (by rw[<-Db5];exact h2) h3 d _);simp only[Wk,Exit.then]at this;rw[At8];exact this
theorem Fz3{all rest:List Oper}{o:Oper}{k:List It}(ht:c.td= .ops all (o::rest)::k)(hg:gd N c.sl all o=some false)(hk:J r P N ds fin ⟨Cf9 N c.sl o.dst .un,c.ob,.ops all rest::k⟩):J r P N ds fin c:=by
 refine⟨hk.1,fun S wl M0 hH M ρ f w h=> ?_⟩;rw[ht];simp only[Wk,Exit.then];have:=hk.2 S wl M0 hH M ρ _ w (Bt5 h hk.1 (Rle.refl _ _) h.ow (v:= .un) (u:=undef) (by simp only[C0]) o.dst _);simp only[Wk,Exit.then]at this;have hw:=Cm7 (ds:=ds) h hg;rw[Fz4]at this⊢;unfold wpListIn;rw[if_neg (by rw[hw];simp)];refine⟨fun _ _=>trivial,?_⟩;rw[At8];exact this
theorem Fy6{c':Cfg}(h:adv P N c=some c')(hk:J r P N ds fin c'):J r P N ds fin c:=by
 have ctl:∀{td:List It},c'=⟨c.sl,c.ob,td⟩->(∀{fin':Exit->Act->World->Prop} {a:Act} {w:World},Wk r P fin' td .normal a w->Wk r P fin' c.td .normal a w)->J r P N ds fin c:=fun{td} e hw=>by
  subst e;exact⟨hk.1,fun S wl M0 hH M ρ f w ha=>hw (hk.2 S wl M0 hH M ρ f w ⟨ha.ow,ha.ok,ha.sl⟩)⟩
 unfold adv at h;split at h
 ·rename_i ht;cases h;exact ctl rfl fun hw=>by rw[ht];exact Fz7 hw
 ·rename_i ht;cases h;exact ctl rfl fun hw=>by rw[ht];simp only[Wk,Exit.then];exact Ff5 (wpIn_label hw)
 ·rename_i ht;cases h;exact ctl rfl fun hw=>by rw[ht];exact Gq1 hw
 ·rename_i ht;cases h;exact ctl rfl fun hw=>by rw[ht];exact Ff4 hw
 ·rename_i ht;cases h;exact ctl rfl fun hw=>by rw[ht];exact Ff6 hw
 ·rename_i ht;cases h;exact ctl rfl fun hw=>by rw[ht];exact Ff8 hw
 ·rename_i ht;split at h
  ·rename_i k' hk';cases h;exact ctl rfl fun hw=>by rw[ht];exact Er4 (Ag5 hk' hw)
  ·cases h
 ·rename_i ht;split at h
  ·rename_i k' hk';cases h;exact ctl rfl fun hw=>by rw[ht];exact Ff5 (wpIn_goto (Ag6 hk' hw))
  ·cases h
 ·rename_i rid ops k ht;cases h;exact ctl rfl fun hw=>by
   rw[ht];simp only[Wk,Exit.then]at hw⊢;have:=Eh2 (id:=rid) (r:=r) (P:=P) hw;simpa using this
 ·rename_i x t g k ht;split at h
  ·rename_i b hb;refine⟨hk.1,fun S wl M0 hH M ρ f w ha=> ?_⟩;have hr:=F6 (ds:=ds) ha x;rw[hb]at hr;have he:=Q5 hr;rw[ht];cases b with
   |true=>cases h;exact Hb8 he (fun _=>hk.2 S wl M0 hH M ρ f w ⟨ha.ow,ha.ok,ha.sl⟩) (fun e=>by cases e)
   |false=>cases h;exact Hb8 he (fun e=>by cases e) (fun _=>hk.2 S wl M0 hH M ρ f w ⟨ha.ow,ha.ok,ha.sl⟩)
  ·cases h
 ·rename_i ht;cases h;exact ctl rfl fun hw=>by rw[ht];exact hw
 ·rename_i ht;cases h;exact ctl rfl fun hw=>by rw[ht];exact hw
 ·rename_i ht;cases h;exact ctl rfl fun hw=>by rw[ht];exact Ff7 hw
 ·rename_i ht;cases h;exact ctl rfl fun hw=>by rw[ht];exact Gp8 hw
 ·rename_i all o rest k ht;split at h
  ·rename_i hg;split at h
   ·rename_i v wr he;cases h;refine Dc5 ht hg (fun S wl M0 M ρ f w ha=> ?_) hk;have:=S4 (r:=r) (P:=P) (a:=fr N f ds) (op:=o.op) (d:=o.dst.getD 0) (ty:=o.type) ha.ow (F6 (ds:=ds) ha);unfold Ah2 at he;rw[ht]at he;simp only[hg]at he;rw[he]at this;exact this
   ·cases h
  ·rename_i hg;cases h;exact Fz3 ht hg hk
  ·cases h
 ·cases h
theorem C4:∀(n:Nat) {c:Cfg},J r P N ds fin (Ax3 P N n c)->J r P N ds fin c
 |0,_,h=>h
 |n+1,c,h=>by
  unfold Ax3 at h;split at h
  ·rename_i c' hc;exact Fy6 hc (C4 n h)
  ·exact h
end
end
section
def noR:Rho:=fun _=>none
def C3(P:Program)(g:FuncId)(args:List V)(v:V):Prop:=
 ∀M w vals,Ai2 M w->GlA M w->B5 M noR args vals->Calls P g vals.toArray w (fun e w'=>∃u M',e= .returned u/\Ext M M' w w'/\C0 M' noR v u)
def Re(x y:V):Prop:=∀M ρ u,C0 M ρ x u->C0 M ρ y u
theorem Re.refl(x:V):Re x x:=fun _ _ _ h=>h
theorem Re.esl(a b:Nat):Re (.esl a) (.d (.sl b [])):=fun M ρ u h=>by
 simp only[C0]at h;obtain⟨p,rfl⟩:=h;exact Af0 Aq1
def M8:List V->List V->Prop
 |[],[]=>True
 |x::xs,y::ys=>Re x y/\M8 xs ys
 |_,_=>False
theorem M8.refl:∀(l:List V),M8 l l
 |[]=>trivial
 |x::xs=>⟨Re.refl x,M8.refl xs⟩
theorem M8.rel{M:Mem}{ρ:Rho}:∀{xs ys:List V} {us:List Value},M8 xs ys->B5 M ρ xs us->B5 M ρ ys us
 |[],[],_,_,h=>h
 |x::xs,y::ys,us,h,hr=>by
  simp only[B5]at hr⊢;obtain⟨u,us',e,h1,h2⟩:=hr;exact⟨u,us',e,h.1 _ _ _ h1,M8.rel h.2 h2⟩
 |[],_::_,_,h,_=>h.elim
 |_::_,[],_,h,_=>h.elim
section
variable {r:Option Nat} {P:Program} {N:Nat} {ds:List Deferred} {fin:Fin} {c:Cfg}
theorem Ad9{o:Oper}{all rest:List Oper}{k:List It}(ht:c.td= .ops all (o::rest)::k)(hg:gd N c.sl all o=some true):Ah2 P N c=J3 P (B4 c.ob) (o.dst.getD 0) o.type (G2 N c.sl) o.op:=by
 unfold Ah2;rw[ht];simp only[hg]
theorem Ao5(h:Ah2 P N c≠ .bad):∃o all rest k,c.td= .ops all (o::rest)::k/\gd N c.sl all o=some true:=by
 unfold Ah2 at h;split at h
 ·rename_i all o rest k ht;split at h
  ·rename_i hg;exact⟨o,all,rest,k,ht,hg⟩
  ·exact absurd rfl h
 ·exact absurd rfl h
theorem Ag0{o:Oper}{all rest:List Oper}{k:List It}(ht:c.td= .ops all (o::rest)::k)(v:V)(wr:Wr):after N c v wr=⟨Cf9 N c.sl o.dst v,R2 c.ob wr,.ops all rest::k⟩:=by
 unfold after;rw[ht]
def Dx1(P:Program)(N:Nat)(c:Cfg):Option (Option (List Dat)):=match Ah2 P N c with| .opt1 o _=>some o|_=>none
def Dx2(P:Program)(N:Nat)(c:Cfg):Option (Option (List (List Dat))):=match Ah2 P N c with| .opt2 o _=>some o|_=>none
def Gz2(P:Program)(N:Nat)(c:Cfg)(x:List Dat):Cfg:=match Ah2 P N c with| .opt1 _ k=>after N c (k x).1 (k x).2|_=>c
def Gz3(P:Program)(N:Nat)(c:Cfg)(x:List (List Dat)):Cfg:=match Ah2 P N c with| .opt2 _ k=>after N c (k x).1 (k x).2|_=>c
theorem G5{o:Option (List Dat)}(x:List Dat)(ho:Dx1 P N c=some o)(hx:o=some x)(hk:J r P N ds fin (Gz2 P N c x)):J r P N ds fin c:=by
 unfold Dx1 at ho;split at ho
 ·rename_i o' k he;cases ho;obtain⟨op,all,rest,k',ht,hg⟩:=Ao5 (P:=P) (N:=N) (c:=c) (by rw[he];intro e;cases e);unfold Gz2 at hk;rw[he]at hk;simp only[Ag0 ht]at hk;refine Dc5 ht hg (fun S wl M0 M ρ f w ha=> ?_) hk;have:=S4 (r:=r) (P:=P) (a:=fr N f ds) (op:=op.op) (d:=op.dst.getD 0) (ty:=op.type) ha.ow (F6 (ds:=ds) ha);rw[<-Ad9 ht hg,he]at this;exact this x hx
 ·cases ho
theorem H5{o:Option (List (List Dat))}(x:List (List Dat))(ho:Dx2 P N c=some o)(hx:o=some x)(hk:J r P N ds fin (Gz3 P N c x)):J r P N ds fin c:=by
 unfold Dx2 at ho;split at ho
 ·rename_i o' k he;cases ho;obtain⟨op,all,rest,k',ht,hg⟩:=Ao5 (P:=P) (N:=N) (c:=c) (by rw[he];intro e;cases e);unfold Gz3 at hk;rw[he]at hk;simp only[Ag0 ht]at hk;refine Dc5 ht hg (fun S wl M0 M ρ f w ha=> ?_) hk;have:=S4 (r:=r) (P:=P) (a:=fr N f ds) (op:=op.op) (d:=op.dst.getD 0) (ty:=op.type) ha.ow (F6 (ds:=ds) ha);rw[<-Ad9 ht hg,he]at this;exact this x hx
 ·cases ho
theorem Ow.call{S:N0}{wl w w':World}{M0 M M':Mem}{ρ:Rho}{ob:Nat->Option B9}(h:Ow S wl M0 M ρ ob w)(k:Ext M M' w w'):Rle M M' ρ ρ/\Ow S wl M0 M' ρ ob w':=by
 have hr:Rle M M' ρ ρ:=⟨k.le,fun _ j hj=>⟨j,hj,Nat.le_refl _,fun _=>rfl,fun _=>rfl⟩⟩
 refine⟨hr,Nat.le_trans h.size k.below.size,k.below.os.trans h.os,k.below.tape.trans h.tape,k.below.output.trans h.output,fun b hb hS=> ?_,k.sits,Mem.le_trans h.le k.le,h.gl.mono k.le,fun b c hb hlt=> ?_,fun q o hq=> ?_,h.dom,h.inj,h.held⟩
 ·rw[k.below.block b (by have:=h.size;omega)];exact h.old b hb hS
 ·exact h.new b c (k.new b c hb (by have:=h.size;omega)) hlt
 ·obtain⟨i,h1,h2⟩:=h.own q o hq;refine⟨i,h1,h2.mono hr (fun y hl=> ?_) (fun _ hl=>k.below.block _ (E2 h2 hl).2)⟩;cases hm:M' y with
  |none=>
   cases hm0:M y with
   |none=>rfl
   |some c=>obtain⟨c',h3,_⟩:=k.le _ _ hm0;rw[hm]at h3;cases h3
  |some c=>exact(k.new _ _ hm (E2 h2 hl).2).symm
theorem Cy8{M:Mem}{ρ:Rho}{v:V}{u:Value}(h:C0 M noR v u):C0 M ρ v u:=
 C0.mono ⟨M.le_refl,fun r i hi=>by cases hi⟩ v h
def Ct1(P:Program)(N:Nat)(c:Cfg):Option (FuncId×List V):=match Ah2 P N c with
 | .call g args=>match N2 (B4 c.ob) args with
   |some (xs,_)=>some (g,xs)
   |none=>none
 |_=>none
def Go2(P:Program)(N:Nat)(c:Cfg)(v:V):Cfg:=match Ah2 P N c with
 | .call _ args=>match N2 (B4 c.ob) args with
   |some (_,wr)=>after N c v wr
   |none=>c
 |_=>c
theorem H1{x y:Res}{g:FuncId}{args:List V}(h:Ac1 x y= .call g args):x= .call g args\/y= .call g args:=by
 cases x<;>first|exact .inl h|exact .inr h
theorem Ds3{P:Program}{o:BinOp}{t:TypeId}{x y:V}{c:Bool}{g:FuncId}{args:List V}:Ge6 P o t x y c≠ .call g args:=fun h=>by
 have hb:∀b,T4 o b≠ .call g args:=fun b h=>by unfold T4 at h;split at h<;>cases h
 unfold Ge6 at h
 repeat' split at h
 all_goals first|(cases h;done)|exact hb _ h
theorem Cm1{P:Program}{ob:Nat->Option B9}{o:BinOp}{t:TypeId}{x:V}{c:Bool}{g:FuncId}{args:List V}:Ca1 P ob o t x c≠ .call g args:=fun h=>by
 have hn:∀n,Dg3 o n≠ .call g args:=fun n h=>by unfold Dg3 at h;split at h<;>cases h
 unfold Ca1 at h
 repeat' split at h
 all_goals first|(cases h;done)|exact hn _ h
theorem Cl9{P:Program}{ob:Nat->Option B9}{s t:TypeId}{v:V}{g:FuncId}{args:List V}:Ca0 P ob s t v≠ .call g args:=fun h=>by
 unfold Ca0 at h
 repeat' split at h
 all_goals cases h
theorem Ca2{ob:Nat->Option B9}{v:V}{g:FuncId}{args:List V}:Bd4 ob v≠ .call g args:=fun h=>by
 unfold Bd4 at h
 repeat' split at h
 all_goals cases h
theorem Cm2{P:Program}{ob:Nat->Option B9}{t:TypeId}{v u:V}{g:FuncId}{args:List V}:Ca3 P ob t v u≠ .call g args:=fun h=>by
 unfold Ca3 at h
 repeat' split at h
 all_goals cases h
theorem Dp0{a:Act}{op:Op}{ob:Nat->Option B9}{d:Nat}{ty:TypeId}{ev:Operand->V}{g:FuncId}{args:List V}{M:Mem}{ρ:Rho}(hc:J3 P ob d ty ev op= .call g args)(hev:∀x,C0 M ρ (ev x) (a.eval x)):
 ∃(f:Operand) (as:Array Operand) (tys:Array TypeId) (fs cs:List Value),op= .call {callee:= .value f,args:=as,argTypes:=tys}/\a.eval f= .func (.func g) fs.toArray cs.toArray/\B5 M ρ args (fs++as.toList.map a.eval++cs):=by
 cases op with
 |call c=>
  obtain⟨callee,as,tys⟩:=c;cases callee with
  |builtin b=>
   exfalso;simp only[J3]at hc;cases b<;>simp only at hc<;>first|(cases hc;done)|skip
   all_goals (
    repeat' split at hc
    all_goals first|(cases hc;done)|skip)
   ·rcases H1 hc with hc|hc
    ·unfold Ay5 at hc
     repeat' split at hc
     all_goals cases hc
    ·unfold Ao3 at hc
     repeat' split at hc
     all_goals cases hc
   ·unfold Cu7 at hc
    repeat' split at hc
    all_goals cases hc
   ·rcases H1 hc with hc|hc
    ·unfold Ek8 at hc
     repeat' split at hc
     all_goals cases hc
    ·unfold Cu8 at hc
     repeat' split at hc
     all_goals cases hc
   ·exact Ca2 hc
   ·exact Cm2 hc
  |value f=>
   simp only[J3]at hc;have hf:=hev f;split at hc
   ·rename_i gg first cap hfv
    cases hc;rw[hfv]at hf;simp only[C0]at hf;obtain⟨fs,cs,hfe,h1,h2⟩:=hf;have hargs:=Ag4 (xs:=as.toList) hev;exact⟨f,as,tys,fs,cs,rfl,hfe,(h1.append hargs).append h2⟩
   ·rename_i gg hfv;cases hc;rw[hfv]at hf;have hfe:a.eval f= .func (.func g) ([]:List Value).toArray ([]:List Value).toArray:=by
     have hf:=H2 hf;generalize a.eval f=u at hf⊢;cases hf;rfl
    have hargs:=Ag4 (xs:=as.toList) hev;exact⟨f,as,tys,[],[],rfl,hfe,by simpa using hargs⟩
   ·cases hc
  |invoke x m=>simp[J3]at hc
 |binOp o t x y u=>
  exfalso;simp only[J3]at hc;rcases H1 hc with hc|hc
  rotate_left
  ·rcases H1 hc with hc|hc
   ·exact Ds3 hc
   ·exact Cm1 hc
  unfold Ek6 at hc
  repeat' split at hc
  all_goals first|(cases hc;done)|skip
  ·unfold Br1 at hc;repeat' split at hc
   all_goals cases hc
  ·unfold Ek7 at hc;repeat' split at hc
   all_goals cases hc
 |convert s t x=>
  exfalso;simp only[J3]at hc;rcases H1 hc with hc|hc
  ·repeat' split at hc
   all_goals cases hc
  ·exact Cl9 hc
 |load t x=>
  exfalso;simp only[J3]at hc;rcases H1 hc with hc|hc
  ·unfold Cu9 at hc;repeat' split at hc
   all_goals cases hc
  ·unfold Bq8 at hc;repeat' split at hc
   all_goals cases hc
 |store t x y=>
  exfalso;simp only[J3]at hc;rcases H1 hc with hc|hc
  ·unfold Ay9 at hc;repeat' split at hc
   all_goals cases hc
  ·unfold Br2 at hc;repeat' split at hc
   all_goals cases hc
 |indexAddr t x y=>
  exfalso;simp only[J3]at hc;rcases H1 hc with hc|hc
  ·unfold Aa8 at hc;repeat' split at hc
   all_goals cases hc
  ·unfold Ay8 at hc;repeat' split at hc
   all_goals cases hc
 |index t x y=>exfalso;simp only[J3]at hc;unfold Cm0 at hc;repeat' split at hc
               all_goals cases hc
 |buildSlice t n ps=>
  exfalso;simp only[J3]at hc;rcases H1 hc with hc|hc
  ·unfold Ay6 at hc;repeat' split at hc
   all_goals cases hc
  ·unfold Ay7 at hc;repeat' split at hc
   all_goals cases hc
 |makeSlice t x y=>
  exfalso;simp only[J3]at hc;rcases H1 hc with hc|hc
  ·unfold Br0 at hc;repeat' split at hc
   all_goals cases hc
  ·unfold Cv0 at hc;repeat' split at hc
   all_goals cases hc
 |slice t x lo hi mx=>
  exfalso;have key:∀a b,Ae0 P ob t (ev x) a b≠ .call g args:=fun a b h=>by
   unfold Ae0 at h;repeat' split at h
   all_goals cases h
  have key3:∀a b,Ao6 P t (ev x) a b≠ .call g args:=fun a b h=>by
   unfold Ao6 at h;repeat' split at h
   all_goals cases h
  cases mx with
  |some _=>
   cases lo with
   |some _=>cases hi<;>cases hc
   |none=>
    cases hi with
    |none=>cases hc
    |some _=>
     simp only[J3]at hc
     repeat' split at hc
     all_goals first|(cases hc;done)|exact key3 _ _ hc
  |none=>
   simp only[J3]at hc
   repeat' split at hc
   all_goals first|(cases hc;done)|exact key _ _ hc
 |makeFunc f x y=>exfalso;cases f<;>simp[J3]at hc
 |makeMap t hint=>exfalso;cases hint with
  |some _=>simp[J3]at hc
  |none=>simp only[J3]at hc;unfold Bd3 at hc;repeat' split at hc
         all_goals cases hc
 |lookup t m k ok=>exfalso;simp only[J3]at hc;unfold Bq9 at hc;repeat' split at hc
                   all_goals first|(cases hc;done)|(cases ok<;>simp[Bs4]at hc)
 |mapUpdate t m k v=>exfalso;simp only[J3]at hc;unfold Ao4 at hc;repeat' split at hc
                     all_goals cases hc
 |insert t m k v=>exfalso;simp only[J3]at hc;unfold Ao4 at hc;repeat' split at hc
                  all_goals cases hc
 |_=>exfalso;simp only[J3]at hc;repeat' split at hc
     all_goals cases hc
theorem Cv2(a:Act):∀l:List Operand,evs a l (l.map a.eval)
 |[]=>trivial
 |_::l=>⟨rfl,Cv2 a l⟩
theorem Bp3{a:Act}{w:World}{op:Op}{ob:Nat->Option B9}{d:Nat}{ty:TypeId}{ev:Operand->V}{g:FuncId}{args:List V}{M:Mem}{ρ:Rho}(hc:J3 P ob d ty ev op= .call g args)(hev:∀x,C0 M ρ (ev x) (a.eval x))(he:A8 P g):
 ∃vals:List Value,B5 M ρ args vals/\∀(R:Ending->World->Prop) (R':Value->World->Prop),Calls P g vals.toArray w R->(∀e w',R e w'->∃v,e= .returned v/\R' v w')->Eff r P a op w R':=by
 obtain⟨f,as,tys,fs,cs,rfl,hfe,hr⟩:=Dp0 hc hev;exact⟨_,hr,fun R R' hcall hk=>Dr1 (xs:=as.toList) he (by simp) hfe (Cv2 a _) hcall hk⟩
theorem Do9{a:Act}{w:World}{op:Op}{ob:Nat->Option B9}{d:Nat}{ty:TypeId}{ev:Operand->V}{g:FuncId}{args:List V}{M:Mem}{ρ:Rho}(hc:J3 P ob d ty ev op= .call g args)(hev:∀x,C0 M ρ (ev x) (a.eval x)):
 ∃vals:List Value,B5 M ρ args vals/\∀(R':Value->World->Prop) (u:Value) (w':World),(callFunc g vals.toArray).run P w= .ok (.value u) w'->R' u w'->Eff r P a op w R':=by
 obtain⟨f,as,tys,fs,cs,rfl,hfe,hr⟩:=Dp0 hc hev;refine⟨_,hr,fun R' u w' h1 h2=>Eff.of_run ?_ rfl h2⟩;intro d ty pos aft g';simp only[List.append_assoc]at h1;have hm:as.map a.eval=(as.toList.map a.eval).toArray:=by rw[<-List.map_toArray]
 simp[execOp,resolve,Deferred.ofValue,hfe,invoke,hm,h1]
def Fu0(P:Program)(g:FuncId)(args:List V)(v:V):Prop:=∀M ρ vals,B5 M ρ args vals->∃u,C0 M ρ v u/\∀w,(callFunc g vals.toArray).run P w= .ok (.value u) w
def Do8(P:Program)(N:Nat)(c:Cfg):Option (FuncId×List V):=match Ah2 P N c with
 | .call g args=>some (g,args)
 |_=>none
theorem Fe9{g:FuncId}{xs:List V}(v:V)(hc:Do8 P N c=some (g,xs))(hcall:Fu0 P g xs v)(hk:J r P N ds fin (after N c v [])):J r P N ds fin c:=by
 unfold Do8 at hc;split at hc
 ·rename_i g' args hev;cases hc;obtain⟨op,all,rest,k',ht,hg⟩:=Ao5 (P:=P) (N:=N) (c:=c) (by rw[hev];intro e;cases e);rw[Ag0 ht]at hk;refine Dc5 ht hg (fun S wl M0 M ρ f w ha=> ?_) hk;rw[Ad9 ht hg]at hev;obtain⟨vals,h1,h2⟩:=Do9 (r:=r) (w:=w) hev (F6 (ds:=ds) ha);obtain⟨u,h3,h4⟩:=hcall M ρ vals h1;exact h2 _ u w (h4 w) ⟨M,ρ,Rle.refl _ _,ha.ow,h3⟩
 ·cases hc
theorem Fe7{g:FuncId}{xs:List V}(ys:List V)(v:V)(hc:Ct1 P N c=some (g,xs))(he:A8 P g)(hre:M8 xs ys)(hcall:C3 P g ys v)(hk:J r P N ds fin (Go2 P N c v)):J r P N ds fin c:=by
 unfold Ct1 at hc;split at hc
 ·rename_i g' args hev;split at hc
  ·rename_i xs' wr hargs;cases hc;obtain⟨op,all,rest,k',ht,hg⟩:=Ao5 (P:=P) (N:=N) (c:=c) (by rw[hev];intro e;cases e);unfold Go2 at hk;rw[hev]at hk;simp only[hargs,Ag0 ht]at hk;refine Dc5 ht hg (fun S wl M0 M ρ f w ha=> ?_) hk;rw[Ad9 ht hg]at hev;obtain⟨vals,h1,h2⟩:=Bp3 (r:=r) (w:=w) hev (F6 (ds:=ds) ha) he;obtain⟨M1,r1,o1,d1⟩:=F5 ha.ow h1 hargs;refine h2 _ _ (hcall M1 w vals o1.sits o1.gla (hre.rel (d1 noR))) ?_
   rintro e w' ⟨u,M2,rfl,hext,hv⟩
   obtain⟨h3,h4⟩:=o1.call hext;exact⟨u,rfl,M2,ρ,r1.trans h3,h4,Cy8 hv⟩
  ·cases hc
 ·cases hc
end
end
section
def D7(n:Nat):List Nat->Bool
 |[]=>false
 |m::l=>match Nat.beq n m with|true=>true|false=>D7 n l
theorem Y7{n:Nat}:∀{l:List Nat},D7 n l=true->n∈l
 |[],h=>by cases h
 |m::l,h=>by
  unfold D7 at h;split at h
  ·rename_i hb;rw[nB_ hb];exact List.mem_cons_self
  ·exact List.mem_cons_of_mem _ (Y7 h)
def gK(r g:Nat):Nat:=match Nat.ble 2000 r with|true=>g|false=>(match Nat.blt g 1000000 with|true=>0|false=>1000000)
theorem Eu2{r g:Nat}(h:Nat.blt (gK r g) 1000000=true):Nat.blt g 1000000=true:=by
 unfold gK at h;split at h
 ·exact h
 ·split at h
  ·assumption
  ·cases h
theorem Fl2{r g:Nat}(h:Nat.blt g 1000000=true):Nat.blt (gK r g) 1000000=true:=by
 unfold gK;split
 ·exact h
 ·rw[h];rfl
section
variable (ids:List Nat) (ob:Nat->Option B9)
mutual
def pv:V->V
 | .ptr r k=>match D7 r ids with
   |true=> .ptr r k
   |false=> .undef
 | .suf r g off=>match ob r with
   |some (.buf g' _ _ _)=>match Nat.beq g g',D7 r ids with|true,true=> .suf r (gK r g) off|_,_=> .undef
   |some (.tree g' _ _ _ _ _)=>match Nat.beq g g',D7 r ids with|true,true=> .suf r (gK r g) off|_,_=> .undef
   |some (.fzs g' sz es)=>match Nat.beq g g' with|true=> .d (.sl sz (es.drop off))|false=> .undef
   |_=> .undef
 | .osl r g off len=>match ob r with
   |some (.buf g' _ _ _)=>match Nat.beq g g',D7 r ids with|true,true=> .osl r (gK r g) off len|_,_=> .undef
   |some (.fzs g' sz es)=>match Nat.beq g g' with|true=> .d (.sl sz ((es.drop off).take len))|false=> .undef
   |_=> .undef
 | .ept r g j k=>match ob r with
   |some (.buf g' _ _ _)=>match Nat.beq g g',D7 r ids with|true,true=> .ept r (gK r g) j k|_,_=> .undef
   |some (.tree g' _ _ _ _ _)=>match Nat.beq g g',D7 r ids with|true,true=> .ept r (gK r g) j k|_,_=> .undef
   |_=> .undef
 | .mp r=>match D7 r ids with|true=> .mp r|false=> .undef
 | .yl r=>match D7 r ids with|true=> .yl r|false=> .undef
 | .fn f a b=> .fn f (pvs a) (pvs b)
 | .agg cs=> .agg (pvs cs)
 | .tup vs=> .tup (pvs vs)
 | .d x=> .d x
 | .rp cs k=> .rp cs k
 | .esl n=> .esl n
 | .undef=> .undef
 | .un=> .un
def pvs:List V->List V
 |[]=>[]
 |v::l=>pv v::pvs l
end
end
def po(ids:List Nat)(ob:Nat->Option B9)(r:Nat):Option B9:=match ob r with
 |some (.box te cs)=>some (.box te (pvs ids ob cs))
 |some (.buf g e sz es)=>some (.buf (gK r g) e sz es)
 |some (.tree g e sz shs es h)=>some (.tree (gK r g) e sz shs es (match h with|none=>none|some (k,cs)=>some (k,pvs ids ob cs)))
 |some (.fzs g sz es)=>some (.fzs (gK r g) sz es)
 |some (.raw b o)=>some (.raw b o)
 |some (.mapo k a n es)=>some (.mapo k a n es)
 |some (.fzb cs)=>some (.fzb (pvs ids ob cs))
 |some (.frn x)=>match Nat.ble 2000 r with|true=>some (.frn x)|false=>none
 |_=>none
def pos(ids:List Nat)(ob:Nat->Option B9):List Nat->Option (List (Nat×B9))
 |[]=>some []
 |r::l=>match po ids ob r,pos ids ob l with|some o,some xs=>some ((r,o)::xs)|_,_=>none
def mkT:List (Nat×V)->Tri
 |[]=> .e
 |(t,v)::l=>(mkT l).set 10 t v
def Bs0(ids:List Nat):List (Nat×B9)->Bool
 |[]=>true
 |(r,_)::l=>match Nat.ble 2000 r,D7 r ids with|true,false=>false|_,_=>Bs0 ids l
theorem Ag9{ids:List Nat}:∀{l:List (Nat×B9)} {r:Nat} {o:B9},Bs0 ids l=true->B4 l r=some o->Nat.ble 2000 r=true->D7 r ids=true
 |[],_,_,_,h,_=>by cases h
 |(q,x)::l,r,o,h,ho,hb=>by
  unfold Bs0 at h;simp only[B4]at ho;split at h
  ·cases h
  ·rename_i hn;split at ho
   ·rename_i he;obtain rfl:=nB_ he;cases hm:D7 r ids with
    |true=>rfl
    |false=>exact absurd hm (by intro hm;exact hn hb hm)
   ·exact Ag9 h ho hb
def Cb3(N:Nat)(ids:List Nat)(ob:Nat->Option B9)(sl:Tri):List Nat->List (Nat×V)
 |[]=>[]
 |t::l=>(t,pv ids ob (G2 N sl (.tmp t)))::Cb3 N ids ob sl l
def prune(N:Nat)(keep ids:List Nat)(c:Cfg):Option (List (Nat×V)×List (Nat×B9)×List It):=match Bs0 ids c.ob,pos ids (B4 c.ob) ids with
 |true,some obs=>some (Cb3 N ids (B4 c.ob) c.sl keep,obs,c.td)
 |_,_=>none
section
variable {S:N0} {wl w:World} {M0 M:Mem} {ρ:Rho} {ob:Nat->Option B9} {ids:List Nat}
def Cz0(ids:List Nat)(ρ:Rho):Rho:=fun r=>match D7 r ids with
 |true=>match ρ r with|some i=>some {i with g:=gK r i.g}|none=>none
 |false=>none
theorem I8{r:Nat}{i:Inf}(hm:D7 r ids=true)(h:ρ r=some i):Cz0 ids ρ r=some {i with g:=gK r i.g}:=by simp[Cz0,hm,h]
mutual
theorem Dx9(h:Ow S wl M0 M ρ ob w):∀(v:V) {u:Value},C0 M ρ v u->C0 M (Cz0 ids ρ) (pv ids ob v) u
 | .ptr r k,u,hv=>by
   obtain⟨i,hi,hf,hu⟩:=J7 hv;simp only[pv];split
   ·rename_i hm;simp only[C0];exact⟨_,I8 hm hi,hf,hu⟩
   ·exact C5 _
 | .suf r g off,u,hv=>by
   simp only[pv];split
   ·rename_i g' e sz es hr;split
    ·rename_i hg hm;obtain rfl:=nB_ hg;simp only[C0]at hv⊢;obtain⟨i,hi,_,h1,hu⟩:=hv;have eg:=(h.buf_heap hr hi).2.1;exact⟨_,I8 hm hi,by show gK r _<=gK r i.g;rw[eg];exact Nat.le_refl _,h1,fun _=>hu eg.symm⟩
    ·exact C5 _
   ·rename_i g' e sz shs es hh hr;split
    ·rename_i hg hm;obtain rfl:=nB_ hg;simp only[C0]at hv⊢;obtain⟨i,hi,_,h1,hu⟩:=hv;obtain⟨i',hi',hok⟩:=h.own r _ hr;rw[hi]at hi';cases hi';have eg:=hok.2.1;exact⟨_,I8 hm hi,by show gK r _<=gK r i.g;rw[eg];exact Nat.le_refl _,h1,fun _=>hu eg.symm⟩
    ·exact C5 _
   ·rename_i g' sz es hr;split
    ·rename_i hg;obtain rfl:=nB_ hg;exact Af0 (Ca8 h hr hv)
    ·exact C5 _
   ·exact C5 _
 | .osl r g off len,u,hv=>by
   simp only[pv];split
   ·rename_i g' e sz es hr;split
    ·rename_i hg hm;obtain rfl:=nB_ hg;simp only[C0]at hv⊢;obtain⟨i,hi,_,h1,hu⟩:=hv;have eg:=(h.buf_heap hr hi).2.1;exact⟨_,I8 hm hi,by show gK r _<=gK r i.g;rw[eg];exact Nat.le_refl _,h1,fun _=>hu eg.symm⟩
    ·exact C5 _
   ·rename_i g' sz es hr;split
    ·rename_i hg;obtain rfl:=nB_ hg;exact Af0 (Cv9 h hr hv)
    ·exact C5 _
   ·exact C5 _
 | .ept r g j k,u,hv=>by
   simp only[pv];split
   ·rename_i g' e sz es hr;split
    ·rename_i hg hm;obtain rfl:=nB_ hg;simp only[C0]at hv⊢;obtain⟨i,hi,_,h1,hu⟩:=hv;have eg:=(h.buf_heap hr hi).2.1;exact⟨_,I8 hm hi,by show gK r _<=gK r i.g;rw[eg];exact Nat.le_refl _,h1,fun _=>hu eg.symm⟩
    ·exact C5 _
   ·rename_i g' e sz shs es hh hr;split
    ·rename_i hg hm;obtain rfl:=nB_ hg;simp only[C0]at hv⊢;obtain⟨i,hi,_,h1,hu⟩:=hv;obtain⟨i',hi',hok⟩:=h.own r _ hr;rw[hi]at hi';cases hi';have eg:=hok.2.1;exact⟨_,I8 hm hi,by show gK r _<=gK r i.g;rw[eg];exact Nat.le_refl _,h1,fun _=>hu eg.symm⟩
    ·exact C5 _
   ·exact C5 _
 | .mp r,u,hv=>by
   simp only[pv];split
   ·rename_i hm;simp only[C0]at hv⊢;obtain⟨i,hi,hf,hu⟩:=hv;exact⟨_,I8 hm hi,hf,hu⟩
   ·exact C5 _
 | .yl r,u,hv=>by
   simp only[pv];split
   ·rename_i hm;simp only[C0]at hv⊢;obtain⟨i,hi,hf,hu⟩:=hv;exact⟨_,I8 hm hi,hf,hu⟩
   ·exact C5 _
 | .fn f a b,u,hv=>by
   simp only[pv,C0]at hv⊢;obtain⟨fs,cs,e,h1,h2⟩:=hv;exact⟨fs,cs,e,Ae9 h a h1,Ae9 h b h2⟩
 | .agg cs,u,hv=>by simp only[pv,C0]at hv⊢;obtain⟨us,e,h1⟩:=hv;exact⟨us,e,Ae9 h cs h1⟩
 | .tup cs,u,hv=>by simp only[pv,C0]at hv⊢;obtain⟨us,e,h1⟩:=hv;exact⟨us,e,Ae9 h cs h1⟩
 | .d x,u,hv=>by simp only[pv,C0]at hv⊢;exact hv
 | .rp cs k,u,hv=>by simp only[pv,C0]at hv⊢;exact hv
 | .esl n,u,hv=>by simp only[pv,C0]at hv⊢;exact hv
 | .undef,u,hv=>by simp only[pv];exact C5 _
 | .un,u,hv=>by simp only[pv,C0]at hv⊢;exact hv
theorem Ae9(h:Ow S wl M0 M ρ ob w):∀(vs:List V) {us:List Value},B5 M ρ vs us->B5 M (Cz0 ids ρ) (pvs ids ob vs) us
 |[],us,hv=>by simp only[pvs,B5]at hv⊢;exact hv
 |v::vs,us,hv=>by
  simp only[pvs,B5]at hv⊢;obtain⟨u,us',e,h1,h2⟩:=hv;exact⟨u,us',e,Dx9 h v h1,Ae9 h vs h2⟩
end
theorem Co0:∀{l:List Nat} {obs:List (Nat×B9)},pos ids ob l=some obs->(∀r o,B4 obs r=some o->D7 r l=true/\po ids ob r=some o)/\∀r,D7 r l=true->∃o,B4 obs r=some o
 |[],obs,h=>by
  simp only[pos,Option.some.injEq]at h;subst h;exact⟨fun r o h=>by simp[B4]at h,fun r h=>by simp[D7]at h⟩
 |q::l,obs,h=>by
  unfold pos at h;split at h
  ·rename_i o xs h1 h2;cases h;obtain⟨i1,i2⟩:=Co0 h2;refine⟨fun r o' ho=> ?_,fun r hm=> ?_⟩
   ·unfold B4 at ho;split at ho
    ·rename_i hb;cases ho;obtain rfl:=nB_ hb;exact⟨by unfold D7;rw[Nat.beq_refl],h1⟩
    ·rename_i hb;obtain⟨a1,a2⟩:=i1 r o' ho;exact⟨by unfold D7;rw[hb];exact a1,a2⟩
   ·unfold D7 at hm;unfold B4;split at hm
    ·rename_i hb;rw[hb];exact⟨_,rfl⟩
    ·rename_i hb;rw[hb];exact i2 r hm
  ·cases h
theorem Ow.prune0(h:Ow S wl M0 M ρ ob w)(hkept:∀r i,Nat.ble 2000 r=true->S.r0 r=some i->D7 r ids=true){obs:List (Nat×B9)}(hp:pos ids ob ids=some obs):Ow S wl M0 M (Cz0 ids ρ) (B4 obs) w:=by
 obtain⟨p1,p2⟩:=Co0 hp;have key:∀r o,B4 obs r=some o->∃x i,ob r=some x/\ρ r=some i/\D7 r ids=true/\M6 S wl M (Cz0 ids ρ) w {i with g:=gK r i.g} o/\(∀b,blk {i with g:=gK r i.g} o b->blk i x b):=fun r o ho=>by
  obtain⟨hm,hpo⟩:=p1 r o ho;unfold po at hpo;split at hpo
  ·rename_i cs hr;cases hpo;obtain⟨i,hi,hf,hmine,us,e,hw,hrel,h1⟩:=h.own r _ hr;exact⟨_,i,hr,hi,hm,⟨hf,hmine,us,e,hw,Ae9 h cs hrel,h1⟩,fun _=>I3 rfl rfl rfl id⟩
  ·rename_i g e sz es hr;cases hpo;obtain⟨i,hi,hok⟩:=h.own r _ hr;obtain⟨a1,a2,a3,a4,a5,a6,a7⟩:=hok;exact⟨_,i,hr,hi,hm,⟨a1,congrArg (gK r) a2,a3,a4,a5,a6,fun hp=>by obtain⟨b1,b2⟩:=a7 hp;exact⟨⟨b1.1,fun hg=>b1.2.1 (Eu2 hg),b1.2.2⟩,b2⟩⟩,fun _=>I3 rfl rfl rfl id⟩
  ·rename_i g e sz shs es hh hr;cases hpo;obtain⟨i,hi,hok⟩:=h.own r _ hr;obtain⟨a1,a2,a3,a4,a5,a6,a7,a8,a9,a10⟩:=hok;refine⟨_,i,hr,hi,hm,⟨a1,congrArg (gK r) a2,a3,a4,a5,a6,a7,a8,a9,fun hp=> ?_⟩,fun _=>I3 rfl rfl rfl id⟩;obtain⟨b1,b2,pre,us,sp,b3,b4,b5,b6⟩:=a10 hp;refine⟨⟨b1.1,fun hg=>b1.2.1 (Eu2 hg),b1.2.2⟩,Fl2 b2,pre,us,sp,b3,b4,b5,b6.mono (fun j x u b _ k=> ?_)⟩;unfold Ad6 at k⊢;split at k
   ·exact k
   ·exact⟨fun e=>⟨(k.1 e).1,Ae9 h _ (k.1 e).2.1,(k.1 e).2.2⟩,k.2⟩
  ·rename_i g sz es hr;cases hpo;obtain⟨i,hi,hok⟩:=h.own r _ hr;obtain⟨a1,a2,a3,a4,a5,a6⟩:=hok;exact⟨_,i,hr,hi,hm,⟨a1,congrArg (gK r) a2,a3,a4,a5,a6⟩,fun _=>I3 rfl rfl rfl id⟩
  ·rename_i b x hr;cases hpo;obtain⟨i,hi,hok⟩:=h.own r _ hr;exact⟨_,i,hr,hi,hm,hok,fun _=>I3 rfl rfl rfl id⟩
  ·rename_i k a n es hr;cases hpo;obtain⟨i,hi,hok⟩:=h.own r _ hr;exact⟨_,i,hr,hi,hm,hok,fun _=>I3 rfl rfl rfl id⟩
  ·rename_i cs hr;cases hpo;obtain⟨i,hi,hf,c0,us,hM,hP,hrel,h1⟩:=h.own r _ hr;exact⟨_,i,hr,hi,hm,⟨hf,c0,us,hM,hP,Ae9 h cs hrel,h1⟩,fun _=>I3 rfl rfl rfl id⟩
  ·rename_i x hr;split at hpo
   ·rename_i hb;cases hpo;obtain⟨i,hi,hok⟩:=h.own r _ hr;have e:({i with g:=gK r i.g}:Inf)=i:=by simp[gK,hb]
    exact⟨_,i,hr,hi,hm,by rw[e];exact hok,fun _=>I3 rfl rfl rfl id⟩
   ·cases hpo
  ·cases hpo
 refine⟨h.size,h.os,h.tape,h.output,h.old,h.sits,h.le,h.gl,h.new,fun r o ho=> ?_,fun r i hi=> ?_,fun r r' o o' i i' b h1 h2 h3 h4 l1 l2=> ?_,fun r i hb hi=>by
  obtain⟨j,h1,h2⟩:=h.held r i hb hi;obtain⟨o,ho⟩:=h.dom r j h1;refine⟨_,I8 (hkept r i hb hi) h1,?_⟩;have:gK r j.g=j.g:=by simp[gK,hb]
  rw[this];exact h2⟩
 ·obtain⟨x,i,h1,h2,h3,h4,_⟩:=key r o ho;exact⟨_,I8 h3 h2,h4⟩
 ·unfold Cz0 at hi;split at hi
  ·rename_i hm;exact p2 r hm
  ·cases hi
 ·obtain⟨x,j,a1,a2,a3,a4,a5⟩:=key r o h1;obtain⟨x',j',b1,b2,b3,b4,b5⟩:=key r' o' h2;rw[I8 a3 a2]at h3;cases h3;rw[I8 b3 b2]at h4;cases h4;exact h.inj r r' x x' j j' b a1 b1 a2 b2 (a5 b l1) (b5 b l2)
theorem Ow.prune(h:Ow S wl M0 M ρ ob w)(hkept:∀r o,Nat.ble 2000 r=true->ob r=some o->D7 r ids=true){obs:List (Nat×B9)}(hp:pos ids ob ids=some obs):Ow S wl M0 M (Cz0 ids ρ) (B4 obs) w:=
 h.prune0 (fun r i hb hi=>by obtain⟨j,h1,_⟩:=h.held r i hb hi;obtain⟨o,ho⟩:=h.dom r j h1;exact hkept r o hb ho) hp
theorem Dg6{obs:List (Nat×B9)}(hp:pos ids ob ids=some obs){r:Nat}{o:B9}(ho:B4 obs r=some o):D7 r ids=true/\∃x,ob r=some x/\∀(i:Inf) (b:Nat),blk {i with g:=gK r i.g} o b->blk i x b:=by
 obtain⟨hm,hpo⟩:=(Co0 hp).1 r o ho;refine⟨hm,?_⟩;unfold po at hpo;split at hpo
 ·rename_i cs hr;cases hpo;exact⟨_,hr,fun _ _=>I3 rfl rfl rfl id⟩
 ·rename_i g e sz es hr;cases hpo;exact⟨_,hr,fun _ _=>I3 rfl rfl rfl id⟩
 ·rename_i g e sz shs es hh hr;cases hpo;exact⟨_,hr,fun _ _=>I3 rfl rfl rfl id⟩
 ·rename_i g sz es hr;cases hpo;exact⟨_,hr,fun _ _=>I3 rfl rfl rfl id⟩
 ·rename_i b x hr;cases hpo;exact⟨_,hr,fun _ _=>I3 rfl rfl rfl id⟩
 ·rename_i k a n es hr;cases hpo;exact⟨_,hr,fun _ _=>I3 rfl rfl rfl id⟩
 ·rename_i cs hr;cases hpo;exact⟨_,hr,fun _ _=>I3 rfl rfl rfl id⟩
 ·rename_i x hr;split at hpo
  ·cases hpo;exact⟨_,hr,fun _ _=>I3 rfl rfl rfl id⟩
  ·cases hpo
 ·cases hpo
end
section
variable {r:Option Nat} {P:Program} {N:Nat} {ds:List Deferred} {fin:Fin} {c:Cfg}
theorem Ai6:∀(l:List (Nat×V)),(mkT l).ok 10
 |[]=>trivial
 |(_,_)::l=>Tri.set_ok _ _ _ _ (Ai6 l)
theorem Ab1{M:Mem}{ρ:Rho}{f:Nat->Value}(hN:N<=1024):∀(l:List (Nat×V)),(∀t v,(t,v)∈l->t<N/\C0 M ρ v (f t))->∀t,t<N->C0 M ρ ((mkT l).get 10 t) (f t)
 |[],_,t,_=>by unfold mkT;rw[Tri.get_e];exact C5 _
 |(q,v)::l,h,t,ht=>by
  have h1:=h q v List.mem_cons_self;unfold mkT;by_cases e:t=q
  ·subst e;rw[Tri.get_set_same];exact h1.2
  ·rw[Tri.get_set_ne _ _ _ _ _ (Ai6 l) (by omega) (by omega) (fun e'=>e e'.symm)];exact Ab1 hN l (fun t v hm=>h t v (List.mem_cons_of_mem _ hm)) t ht
theorem Be6{ids:List Nat}{ob:Nat->Option B9}{sl:Tri}:∀{l:List Nat} {t:Nat} {v:V},(t,v)∈Cb3 N ids ob sl l->v=pv ids ob (G2 N sl (.tmp t))/\t∈l
 |[],_,_,h=>by cases h
 |q::l,t,v,h=>by
  unfold Cb3 at h;rcases List.mem_cons.1 h with e|h
  ·cases e;exact⟨rfl,List.mem_cons_self⟩
  ·obtain⟨h1,h2⟩:=Be6 h;exact⟨h1,List.mem_cons_of_mem _ h2⟩
def Bi4(N:Nat):List Nat->Bool
 |[]=>true
 |t::l=>match Nat.blt t N with|true=>Bi4 N l|false=>false
theorem Ag1:∀{l:List Nat},Bi4 N l=true->∀t∈l,t<N
 |[],_,t,h=>by cases h
 |q::l,h,t,ht=>by
  unfold Bi4 at h;split at h
  ·rename_i hb;rcases List.mem_cons.1 ht with rfl|ht
   ·exact Ae6 hb
   ·exact Ag1 h t ht
  ·cases h
theorem Ci5{S0:List (Nat×V)}{O0:List (Nat×B9)}{T0:List It}(keep ids:List Nat)(hp:prune N keep ids c=some (S0,O0,T0))(hl:Bi4 N keep=true)(hk:J r P N ds fin ⟨mkT S0,O0,T0⟩):J r P N ds fin c:=by
 refine⟨hk.1,fun S wl M0 hH M ρ f w ha=> ?_⟩;unfold prune at hp;split at hp
 ·rename_i obs hkp hobs;cases hp;refine hk.2 S wl M0 hH M (Cz0 ids ρ) f w ⟨ha.ow.prune (fun r o hb ho=>Ag9 hkp ho hb) hobs,Ai6 _,Ab1 hk.1 _ (fun t v hm=> ?_)⟩;obtain⟨rfl,h2⟩:=Be6 hm;have hlt:=Ag1 hl t h2;refine⟨hlt,?_⟩;have:=Dx9 (ids:=ids) ha.ow _ (F6 (ds:=ds) ha (.tmp t))
  rwa [ev (by simpa[Nat.blt_eq] using hlt) rfl]at this
 ·cases hp
def Ee3(c:Cfg)(t:Nat)(v:V):Cfg:=⟨c.sl.set 10 t v,c.ob,c.td⟩
theorem Ff0{t:Nat}{v:V}(ht:Nat.blt t N=true)(hv:∀S wl M0 M ρ f w,Abs S wl M0 M ρ N c f w->C0 M ρ v (f t))(hk:J r P N ds fin (Ee3 c t v)):J r P N ds fin c:=by
 refine⟨hk.1,fun S wl M0 hH M ρ f w ha=>hk.2 S wl M0 hH M ρ f w ⟨ha.ow,Tri.set_ok _ _ _ _ ha.ok,fun q hq=> ?_⟩⟩;have h1:=hk.1;have h2:=Ae6 ht;by_cases e:q=t
 ·subst e;simp only[Ee3];rw[Tri.get_set_same];exact hv S wl M0 M ρ f w ha
 ·simp only[Ee3];rw[Tri.get_set_ne _ _ _ _ _ ha.ok (by omega) (by omega) (fun e'=>e e'.symm)];exact ha.sl q hq
theorem Fy7(t:Nat){b:Bool}(hb:G2 N c.sl (.tmp t)= .d (.bool b))(ht:b=true->J r P N ds fin (Ee3 c t (.d (.bool true))))(hf:b=false->J r P N ds fin (Ee3 c t (.d (.bool false)))):J r P N ds fin c:=by
 have hlt:Nat.blt t N=true:=by
  simp only[G2]at hb;split at hb
  ·assumption
  ·cases hb
 have key:∀S wl M0 M ρ f w,Abs S wl M0 M ρ N c f w->C0 M ρ (.d (.bool b)) (f t):=fun S wl M0 M ρ f w ha=>by
  have:=F6 (ds:=ds) ha (.tmp t)
  rwa [hb,ev hlt rfl]at this
 cases b with
 |true=>exact Ff0 hlt key (ht rfl)
 |false=>exact Ff0 hlt key (hf rfl)
theorem Dn4(t:Nat){b v:Bool}(h:b=v)(hb:G2 N c.sl (.tmp t)= .d (.bool b))(hk:J r P N ds fin (Ee3 c t (.d (.bool v)))):J r P N ds fin c:=by
 subst h;have hlt:Nat.blt t N=true:=by
  simp only[G2]at hb;split at hb
  ·assumption
  ·cases hb
 exact Ff0 hlt (fun S wl M0 M ρ f w ha=>by
  have:=F6 (ds:=ds) ha (.tmp t)
  rwa [hb,ev hlt rfl]at this) hk
theorem Dc6(t d:Nat)(e sz:Nat){n:Nat}(hb:G2 N c.sl (.tmp t)= .esl n)(hd:B4 c.ob d=none)(hk:J r P N ds fin ⟨c.sl.set 10 t (.suf d 0 0),Ac3 c.ob d (.buf 0 e sz []),c.td⟩):J r P N ds fin c:=by
 have hlt:Nat.blt t N=true:=by
  simp only[G2]at hb;split at hb
  ·assumption
  ·cases hb
 refine⟨hk.1,fun S wl M0 hH M ρ f w ha=> ?_⟩;have hv:=F6 (ds:=ds) ha (.tmp t);rw[hb,ev hlt rfl]at hv;simp only[C0]at hv;obtain⟨p,hp⟩:=hv;obtain⟨h5,h6⟩:=ha.ow.ghost hd ⟨0,0,0,sz,0,0,false,[]⟩ (.buf 0 e sz []) (fun _=>⟨rfl,rfl,rfl,rfl,Nat.le_refl _,Nat.zero_le _,fun h=>absurd h (Nat.lt_irrefl _)⟩) (fun h=>absurd h (Nat.lt_irrefl _));have h1:=hk.1;have h2:=Ae6 hlt;refine hk.2 S wl M0 hH M _ f w ⟨by dsimp only;rw[H8];exact h6,Tri.set_ok _ _ _ _ ha.ok,fun q hq=> ?_⟩;by_cases e:q=t
 ·subst e;dsimp only;rw[Tri.get_set_same,hp];exact V9 (i:=⟨0,0,0,sz,0,0,false,[]⟩) (B7 _ _ _) rfl (Nat.le_refl _) (fun h=>absurd h (Nat.lt_irrefl _))
 ·dsimp only;rw[Tri.get_set_ne _ _ _ _ _ ha.ok (by omega) (by omega) (fun e'=>e e'.symm)];exact C0.mono h5 _ (ha.sl q hq)
theorem Ow.desc{S:N0}{wl w:World}{M0 M:Mem}{ρ:Rho}{ob:Nat->Option B9}(h:Ow S wl M0 M ρ ob w){q:Nat}{o o':B9}(hq:ob q=some o)(hk:∀i,ρ q=some i->M6 S wl M ρ w i o->M6 S wl M ρ w i o')(hl:∀i b,blk i o' b->blk i o b):Ow S wl M0 M ρ (K0 ob q o') w:=by
 have key:∀{x:Nat} {y:B9} {i:Inf} {b:Nat},K0 ob q o' x=some y->ρ x=some i->blk i y b->∃y',ob x=some y'/\blk i y' b:=fun{x y i b} hy hi hly=>by
  by_cases e:x=q
  ·subst e;rw[B7]at hy;cases hy;exact⟨o,hq,hl i b hly⟩
  ·rw[C8 _ _ e]at hy;exact⟨y,hy,hly⟩
 refine⟨h.size,h.os,h.tape,h.output,h.old,h.sits,h.le,h.gl,h.new,fun x y hy=> ?_,fun x i hi=> ?_,fun x x' y y' i i' b h1 h2 h3 h4 l1 l2=> ?_,h.held⟩
 ·by_cases e:x=q
  ·subst e;rw[B7]at hy;cases hy;obtain⟨i,hi,hok⟩:=h.own x o hq;exact⟨i,hi,hk i hi hok⟩
  ·rw[C8 _ _ e]at hy;exact h.own x y hy
 ·by_cases e:x=q
  ·subst e;exact⟨o',B7 _ _ _⟩
  ·rw[C8 _ _ e];exact h.dom x i hi
 ·obtain⟨z,hz,lz⟩:=key h1 h3 l1;obtain⟨z',hz',lz'⟩:=key h2 h4 l2;exact h.inj x x' z z' i i' b hz hz' h3 h4 lz lz'
theorem B5.set{M:Mem}{ρ:Rho}{v v':V}:∀{cs:List V} {us:List Value} {j:Nat},B5 M ρ cs us->cs[j]? =some v->(∀u,C0 M ρ v u->C0 M ρ v' u)->B5 M ρ (cs.set j v') us
 |[],_,_,_,h,_=>by cases h
 |c::cs,us,0,h,hj,hv=>by
  simp only[B5]at h;obtain⟨u,us',rfl,h1,h2⟩:=h;simp only[List.getElem?_cons_zero,Option.some.injEq]at hj;subst hj;simp only[List.set_cons_zero,B5];exact⟨u,us',rfl,hv u h1,h2⟩
 |c::cs,us,j+1,h,hj,hv=>by
  simp only[B5]at h;obtain⟨u,us',rfl,h1,h2⟩:=h;simp only[List.getElem?_cons_succ]at hj;simp only[List.set_cons_succ,B5];exact⟨u,us',rfl,h1,B5.set h2 hj hv⟩
def By2(c:Cfg)(q j:Nat):Option V:=match B4 c.ob q with|some (.box _ cs)=>cs[j]? |_=>none
def Gh3(c:Cfg)(q j:Nat)(v:V):Cfg:=match B4 c.ob q with|some (.box te cs)=>⟨c.sl,Ac3 c.ob q (.box te (cs.set j v)),c.td⟩|_=>c
theorem Fz0{q j:Nat}{v v':V}(hc:By2 c q j=some v)(hv:∀M ρ u,C0 M ρ v u->C0 M ρ v' u)(hk:J r P N ds fin (Gh3 c q j v')):J r P N ds fin c:=by
 unfold By2 at hc;split at hc
 ·rename_i cs hq;refine⟨hk.1,fun S wl M0 hH M ρ f w ha=> ?_⟩;have:=hk.2 S wl M0 hH M ρ f w;unfold Gh3 at this;rw[hq]at this;refine this ⟨?_,ha.ok,ha.sl⟩;dsimp only;rw[H8];refine ha.ow.desc hq (fun i hi hok=> ?_) (fun _ _=>I3 rfl rfl rfl id);obtain⟨h0,h1,us,e,h2,h3,h4⟩:=hok;exact⟨h0,h1,us,e,h2,h3.set hc (hv M ρ),h4⟩
 ·cases hc
theorem Cr5(q j m:Nat){n:Nat}(hc:By2 c q j=some (.esl n))(hk:J r P N ds fin (Gh3 c q j (.d (.sl m [])))):J r P N ds fin c:=
 Fz0 hc (fun _ _ _ h=>Re.esl _ _ _ _ _ h) hk
theorem Bw6(q j d:Nat)(e sz:Nat){n:Nat}(hc:By2 c q j=some (.esl n))(hd:B4 c.ob d=none)(hk:J r P N ds fin (Gh3 ⟨c.sl,Ac3 c.ob d (.buf 0 e sz []),c.td⟩ q j (.suf d 0 0))):J r P N ds fin c:=by
 unfold By2 at hc;split at hc
 ·rename_i te cs hq;have hne:q≠d:=fun e=>by subst e;rw[hq]at hd;cases hd
  refine⟨hk.1,fun S wl M0 hH M ρ f w ha=> ?_⟩;obtain⟨h5,h6⟩:=ha.ow.ghost hd ⟨0,0,0,sz,0,0,false,[]⟩ (.buf 0 e sz []) (fun _=>⟨rfl,rfl,rfl,rfl,Nat.le_refl _,Nat.zero_le _,fun h=>absurd h (Nat.lt_irrefl _)⟩) (fun h=>absurd h (Nat.lt_irrefl _));have:=hk.2 S wl M0 hH M (K0 ρ d ⟨0,0,0,sz,0,0,false,[]⟩) f w;unfold Gh3 at this;have hq':B4 (Ac3 c.ob d (.buf 0 e sz [])) q=some (.box te cs):=by rw[H8,C8 _ _ hne];exact hq
  dsimp only at this;rw[hq']at this;refine this ⟨?_,ha.ok,fun t ht=>C0.mono h5 _ (ha.sl t ht)⟩;dsimp only;rw[H8,H8];refine h6.desc (q:=q) (o:= .box te cs) (by rw[C8 _ _ hne];exact hq) (fun i hi hok=> ?_) (fun _ _=>I3 rfl rfl rfl id);obtain⟨h0,h1,us,e',h2,h3,h4⟩:=hok;refine⟨h0,h1,us,e',h2,h3.set hc (fun u hu=> ?_),h4⟩;simp only[C0]at hu;obtain⟨p,hp⟩:=hu;rw[hp];exact V9 (i:=⟨0,0,0,sz,0,0,false,[]⟩) (B7 _ _ _) rfl (Nat.le_refl _) (fun h=>absurd h (Nat.lt_irrefl _))
 ·cases hc
def Bf7:List It->Bool
 |[]=>true
 | .begR _::_=>false
 |_::k=>Bf7 k
theorem Ab7{fin':Exit->Act->World->Prop}{a:Act}{w:World}:∀(k:List It),Bf7 k=true->fin' .ret a w->Wk r P fin' k .ret a w
 |[],_,h=>h
 | .begR _::_,hn,_=>by cases hn
 | .code _::k,hn,h=>by simp only[Wk,Exit.then];exact Ab7 k hn h
 | .inBlock _::k,hn,h=>by simp only[Wk,Exit.inBlock];exact Ab7 k hn h
 | .inLoop _::k,hn,h=>by simp only[Wk,Exit.then];exact Ab7 k hn h
 | .inScope _::k,hn,h=>by simp only[Wk,Bj2];exact Ab7 k hn h
 | .ops _ _::k,hn,h=>by simp only[Wk,Exit.then];exact Ab7 k hn h
def Fz5(wl:World)(M0:Mem)(v:V):Ending->World->Prop:=fun e w'=>∃u M',e= .returned u/\Ext M0 M' wl w'/\C0 M' noR v u
def L5(P:Program)(fn:Func)(v:V):Fin:= .mk (fun _ _ _=>True) fun S wl M0 e a w=>(∀b,¬S b)->bodyPost P fn (Fz5 wl M0 v) e a w
def Dz1(P:Program)(N:Nat)(c:Cfg):List ResultVar->Option (List V)
 |[]=>some []
 | .tmp t::rs=>match Nat.blt t N,Dz1 P N c rs with|true,some vs=>some (G2 N c.sl (.tmp t)::vs)|_,_=>none
 | .cell t ty::rs=>match G2 N c.sl (.tmp t),szT P ty,Dz1 P N c rs with
   | .ptr q k,some (n,ag),some vs=>match B4 c.ob q with
     |some (.box _ cs)=>match Nat.ble (k+n) cs.length with|true=>some (mkV ag ((cs.drop k).take n)::vs)|false=>none
     |_=>none
   |_,_,_=>none
theorem Co7{t:TypeId}{b o:Nat}{vs:List Value}{agg:Bool}{w:World}(ht:Do0 P t=some agg)(hs:F8 P t=some vs.length)(h1:agg=false->vs.length=1)
 (hc:∀(j:Nat) v,vs[j]? =some v->w.cell? ⟨b,o+j,none⟩=some v):(loadVar t ⟨b,o,none⟩).run P w= .ok (mkv agg vs) w:=by
 cases agg with
 |true=>
  have:=run_loadCells_list (P:=P) w ⟨b,o,none⟩ vs (fun j v hv=>by rw[E0];exact hc j v hv);simp[loadVar,W2 ht,H9 hs,this,mkv]
 |false=>
  match vs,h1 rfl with
  |[v],_=>
   have:=hc 0 v rfl;simp only[Nat.add_zero]at this;simp[loadVar,W2 ht,this,mkv]
theorem Am1{S:N0}{wl w:World}{M0 M:Mem}{ρ:Rho}{f:Nat->Value}(h:Abs S wl M0 M ρ N c f w):∀{rs:List ResultVar} {vs:List V},Dz1 P N c rs=some vs->∃us,Dy8 P N f w rs us/\B5 M ρ vs us
 |[],vs,hv=>by simp only[Dz1,Option.some.injEq]at hv;subst hv;exact⟨[],trivial,by simp only[B5]⟩
 | .tmp t::rs,vs,hv=>by
   unfold Dz1 at hv;split at hv
   ·rename_i vs' hlt hvs;cases hv;obtain⟨us,h1,h2⟩:=Am1 h hvs;have hr:=F6 (ds:=[]) h (.tmp t);rw[ev hlt rfl]at hr;exact⟨f t::us,⟨⟨hlt,rfl⟩,h1⟩,by simp only[B5];exact⟨_,_,rfl,hr,h2⟩⟩
   ·cases hv
 | .cell t ty::rs,vs,hv=>by
   unfold Dz1 at hv;split at hv
   ·rename_i q k n ag vs' hp hz hvs;split at hv
    ·rename_i cs hr;split at hv
     ·rename_i hl;cases hv;obtain⟨us,h1,h2⟩:=Am1 h hvs;have hlt:Nat.blt t N=true:=by
       simp only[G2]at hp;split at hp
       ·assumption
       ·cases hp
      have hrv:=F6 (ds:=[]) h (.tmp t);rw[hp,ev hlt rfl]at hrv;obtain⟨i,hi,hf,hpt⟩:=J7 hrv;obtain⟨xs,e,hw,hrel,_⟩:=h.ow.box_heap hr hi;obtain⟨hs,ha,hone⟩:=N7 hz;have hl:=H3 hl;have hlen:=hrel.len;have hu:((xs.drop k).take n).length=n:=Q1 (by omega);refine⟨mkv ag ((xs.drop k).take n)::us,⟨⟨hlt,_,hpt,Co7 ha (by rw[hu];exact hs) (fun e=>by rw[hu];exact hone e) (fun j v hj=> ?_)⟩,h1⟩,by simp only[B5];exact⟨_,_,rfl,U2 (n:=n) ((hrel.drop k).take n) (fun e=>by rw[hu];exact hone e),h2⟩⟩;have:=Y3 rfl hj;simp[World.cell?,hw,this]
     ·cases hv
    ·cases hv
   ·cases hv
def Di3:List V->V
 |[v]=>v
 |vs=> .tup vs
theorem Aq9{M:Mem}{ρ:Rho}{vs:List V}{us:List Value}(h:B5 M ρ vs us):C0 M ρ (Di3 vs) (Da6 us):=by
 match vs,us,h with
 |[v],us,h=>
  simp only[B5]at h;obtain⟨u,us',rfl,h1,rfl⟩:=h;exact h1
 |[],us,h=>simp only[B5]at h;subst h;simp only[Di3,C0,B5];exact⟨[],rfl,rfl⟩
 |v::v'::vs,us,h=>
  have hl:=h.len
  match us,hl with
  |u::u'::us,_=>simp only[Di3,Da6,C0];exact⟨_,rfl,h⟩
theorem En4{fn:Func}{v:V}{S:N0}{wl w:World}{M0 M:Mem}{ρ:Rho}{f:Nat->Value}{rs:List ResultVar}{vs xs ys:List V}{wr:Wr}(h:Abs S wl M0 M ρ N c f w)(hfn:fn.results=rs.toArray)(hv:Dz1 P N c rs=some vs)(hx:N2 (B4 c.ob) vs=some (xs,wr))(hre:M8 xs ys)(he:Di3 ys=v)(hS:∀b,¬S b):
 ∃u,(results fn (fr N f []).tmps).run P w= .ok u w/\Fz5 wl M0 v (.returned u) w:=by
 obtain⟨us,h1,h2⟩:=Am1 h hv;obtain⟨M',r1,o1,d1⟩:=F5 h.ow h2 hx;refine⟨Da6 us,P1 hfn h1,Da6 us,M',rfl,⟨⟨o1.os,o1.tape,o1.output,o1.size,fun k hk=>o1.old k hk (hS k)⟩,o1.le,o1.sits,fun b c hb hlt=>(o1.new b c hb hlt).resolve_right (hS b)⟩,?_⟩;rw[<-he];exact Aq9 (hre.rel (d1 noR))
def Bi5(c:Cfg):Bool:=match c.td with| .code .ret::k=>Bf7 k|[]=>true|_=>false
def Dy9(P:Program)(N:Nat)(c:Cfg)(rs:List ResultVar):Option (List V):=match Bi5 c with
 |true=>match Dz1 P N c rs with
  |some vs=>match N2 (B4 c.ob) vs with|some (xs,_)=>some xs|none=>none
  |none=>none
 |false=>none
theorem Bo7{fn:Func}{v:V}{rs:List ResultVar}{xs:List V}(ys:List V)(hfn:fn.results=rs.toArray)(hN:Nat.ble N 1024=true)(hv:Dy9 P N c rs=some xs)(hre:M8 xs ys)(he:Di3 ys=v):J r P N [] (L5 P fn v) c:=by
 refine⟨H3 hN,fun S wl M0 hH M ρ f w h=> ?_⟩;unfold Dy9 at hv;split at hv
 ·rename_i hat;split at hv
  ·rename_i vs hvs;split at hv
   ·rename_i xs' wr hx;cases hv;have key:=fun hS:∀b,¬S b=>En4 h hfn hvs hx hre he hS
    unfold Bi5 at hat;split at hat
    ·rename_i ht;rw[ht];exact Cj0 (Ab7 _ hat (fun hS=>⟨rfl,key hS⟩))
    ·rename_i ht;rw[ht];exact fun hS=>⟨rfl,key hS⟩
    ·cases hat
   ·cases hv
  ·cases hv
 ·cases hv
def Dh8:Nat->List V->List (Nat×V)
 |_,[]=>[]
 |i,v::l=>(i,v)::Dh8 (i+1) l
theorem Aa4:∀{l:List V} {i t:Nat} {v:V},(t,v)∈Dh8 i l->i<=t/\l[t-i]? =some v
 |[],_,_,_,h=>by cases h
 |x::l,i,t,v,h=>by
  unfold Dh8 at h;rcases List.mem_cons.1 h with e|h
  ·cases e;exact⟨Nat.le_refl _,by simp⟩
  ·obtain⟨h1,h2⟩:=Aa4 h;refine⟨by omega,?_⟩;obtain⟨k,rfl⟩:∃k,t=i+1+k:=⟨t-(i+1),by omega⟩
   rw[show i+1+k-(i+1)=k by omega]at h2;rw[show i+1+k-i=k+1 by omega];exact h2
theorem Eh8{g:FuncId}{fn:Func}{b:Code}{args:List V}{v:V}(hf:P.funcs[g]? =some fn)(hb:fn.body=some b)(hN:fn.ntmps=N)(hv:Nat.ble args.length N=true)(h:J none P N [] (L5 P fn v) ⟨mkT (Dh8 0 args),[],[.code b]⟩):C3 P g args v:=by
 intro M w vals hs hgl hr;have hl:=H3 hv;refine entry hf hb hN (by rw[hr.len];exact hl) ?_;refine Bl1 (h.2 ⟨fun _=>False,noR⟩ w M trivial M noR (Bv6 vals) w ⟨⟨Nat.le_refl _,rfl,rfl,rfl,fun _ _ _=>rfl,hs,M.le_refl,hgl.entry (fun _ _ _ h=>h),fun _ _ h _=> .inl h,fun r o h=>(by simp[B4]at h),fun r i h=>(by cases h),fun r r' o o' i i' b h=>(by simp[B4]at h),fun r i _ h=>(by cases h)⟩,Ai6 _,Ab1 h.1 _ (fun t v hm=> ?_)⟩) (fun e a w hq=>hq (fun _ h=>h));obtain⟨_,h2⟩:=Aa4 hm;rw[Nat.sub_zero]at h2;obtain⟨u,h3,h4⟩:=hr.get h2;exact⟨Nat.lt_of_lt_of_le (List.getElem?_eq_some_iff.1 h2).1 hl,by unfold Bv6;rw[h3];exact h4⟩
end
def cAt:Code->List Nat->Code
 |c,[]=>c
 | .seq a b,i::p=>match i with|0=>cAt a p|_=>cAt b p
 | .cond _ a b,i::p=>match i with|0=>cAt a p|_=>cAt b p
 | .block _ b,_::p=>cAt b p
 | .loop b,_::p=>cAt b p
 | .scope b,_::p=>cAt b p
 | .rangeFunc _ _ a b,i::p=>match i with|0=>cAt a p|_=>cAt b p
 |c,_=>c
def Gy6:Code->List Oper
 | .region _ ops _=>ops.toList
 |_=>[]
def C2(fn:Func):Code:=match fn.body with|some b=>b|none=> .skip
theorem gm{α β:Type}{l:List α}{f:α->β}{i:Int}{y:α}(h:C6 l i=some y):C6 (l.map f) i=some (f y):=by
 obtain⟨k,rfl,hk⟩:=Cb0 h;unfold C6;simp[hk]
theorem am{α β:Type}{l m k:List α}{f:α->β}(h:app l m=some k):app (l.map f) (m.map f)=some (k.map f):=by
 obtain⟨rfl,hb⟩:=Bc2 h;unfold app;simp[hb]
theorem sm{α β:Type}{l k:List α}{f:α->β}{lo hi:Int}(h:slc l lo hi=some k):slc (l.map f) lo hi=some (k.map f):=by
 obtain⟨h0,h1,h2,rfl⟩:=Az5 h;unfold slc;simp[h0,h1,h2,List.map_take,List.map_drop]
def mkL{α:Type}(l c:Int)(z:α):Option (List α):=bif decide (0<=l)&&decide (l<=c)&&decide (c<=2147483648) then some (List.replicate l.toNat z) else none
theorem mm{α:Type}{l c:Int}{z:α}{f:α->List Dat}{k:List α}(h:mkL l c z=some k):mk2 l c (f z)=some (k.map f):=by
 unfold mkL at h;unfold mk2;cases hb:(decide (0<=l)&&decide (l<=c)&&decide (c<=2147483648)) with
 |true=>rw[hb]at h;cases h;simp
 |false=>rw[hb]at h;cases h
theorem stm{α:Type}{l:List α}{f:α->List Dat}{j:Nat}{y z:α}{k:Nat}{xs:List Dat}(h:l[j]? =some y)(hz:Ah3 (f y) k xs=f z):(match(l.map f)[j]? with|some old=>some ((l.map f).set j (Ah3 old k xs))|none=>none)=some ((l.set j z).map f):=by
 simp[h,hz,List.map_set]
theorem gj{α:Type}{l:List α}{i:Int}{y:α}(h:C6 l i=some y):l[(0+i.toNat)]? =some y:=by
 rw[Nat.zero_add];exact(N5 h).2
theorem gjm{α β:Type}{l:List α}{f:α->β}{j:Nat}{y:α}(h:l[j]? =some y):(l.map f)[j]? =some (f y):=by simp[h]
theorem ck{b:Bool}(h:b=true):chk b=some []:=by subst h;rfl
end
section
section
variable (K:List Nat)
mutual
def R6:V->Bool
 | .ptr r _=>D7 r K
 | .suf r _ _=>D7 r K
 | .osl r _ _ _=>D7 r K
 | .ept r _ _ _=>D7 r K
 | .mp r=>D7 r K
 | .yl r=>D7 r K
 | .fn _ a b=>match U4 a with|true=>U4 b|false=>false
 | .agg cs=>U4 cs
 | .tup vs=>U4 vs
 |_=>true
def U4:List V->Bool
 |[]=>true
 |v::l=>match R6 v with|true=>U4 l|false=>false
end
def At5:B9->Bool
 | .box _ cs=>U4 K cs
 | .fzb cs=>U4 K cs
 | .tree _ _ _ _ _ h=>(match h with|none=>true|some (_,cs)=>U4 K cs)
 | .frn _=>false
 |_=>true
def T9(R:List Nat)(ob:Nat->Option B9):Nat->Option B9:=fun r=>match D7 r K with
 |true=>match D7 r R with
  |true=>ob r
  |false=>match ob r with|some _=>some (.frn r)|none=>none
 |false=>none
def O2(ρ:Rho):Rho:=fun r=>match D7 r K with|true=>ρ r|false=>none
end
theorem P6{K R:List Nat}{ob:Nat->Option B9}{r:Nat}(h:D7 r K=true)(h':D7 r R=true):T9 K R ob r=ob r:=by simp[T9,h,h']
theorem Cb2{K R:List Nat}{ob:Nat->Option B9}{r:Nat}{o:B9}(h:D7 r K=true)(h':D7 r R=false)(ho:ob r=some o):T9 K R ob r=some (.frn r):=by simp[T9,h,h',ho]
theorem G0{K:List Nat}{ρ:Rho}{r:Nat}(h:D7 r K=true):O2 K ρ r=ρ r:=by simp[O2,h]
theorem Ag8{K R:List Nat}{ob:Nat->Option B9}{r:Nat}{o:B9}(h:T9 K R ob r=some o):D7 r K=true/\((D7 r R=true/\ob r=some o)\/(D7 r R=false/\o= .frn r/\∃x,ob r=some x)):=by
 unfold T9 at h;split at h
 ·rename_i hm;refine⟨hm,?_⟩;split at h
  ·rename_i hr;exact .inl ⟨hr,h⟩
  ·rename_i hr;split at h
   ·rename_i x hx;cases h;exact .inr ⟨hr,rfl,x,hx⟩
   ·cases h
 ·cases h
theorem Ag7{K R:List Nat}{ob:Nat->Option B9}{r:Nat}{i:Inf}{o:B9}{b:Nat}(h:T9 K R ob r=some o)(hl:blk i o b):D7 r R=true/\ob r=some o:=by
 obtain⟨_,⟨a,b⟩|⟨_,rfl,_⟩⟩:=Ag8 h
 ·exact⟨a,b⟩
 ·exact absurd hl (An8 rfl rfl)
theorem F1{K:List Nat}{ρ:Rho}{r:Nat}{i:Inf}(h:O2 K ρ r=some i):D7 r K=true/\ρ r=some i:=by
 unfold O2 at h;split at h
 ·rename_i hm;exact⟨hm,h⟩
 ·cases h
def SK(R:List Nat)(ρ:Rho)(ob:Nat->Option B9):Nat->Prop:=fun b=>∃r i o,D7 r R=true/\ρ r=some i/\ob r=some o/\blk i o b
section
variable {K:List Nat} {M:Mem} {ρ:Rho}
mutual
theorem Aq0:∀(v:V) {u:Value},R6 K v=true->C0 M ρ v u->C0 M (O2 K ρ) v u
 | .ptr r k,u,h,hv=>by
   simp only[R6]at h;simp only[C0,G0 h]at hv⊢;exact hv
 | .suf r g off,u,h,hv=>by
   simp only[R6]at h;simp only[C0,G0 h]at hv⊢;exact hv
 | .osl r g off len,u,h,hv=>by
   simp only[R6]at h;simp only[C0,G0 h]at hv⊢;exact hv
 | .ept r g j k,u,h,hv=>by
   simp only[R6]at h;simp only[C0,G0 h]at hv⊢;exact hv
 | .mp r,u,h,hv=>by
   simp only[R6]at h;simp only[C0,G0 h]at hv⊢;exact hv
 | .yl r,u,h,hv=>by
   simp only[R6]at h;simp only[C0,G0 h]at hv⊢;exact hv
 | .fn f a b,u,h,hv=>by
   simp only[R6]at h;split at h
   ·rename_i ha;simp only[C0]at hv⊢;obtain⟨fs,cs,e,h1,h2⟩:=hv;exact⟨fs,cs,e,I7 a ha h1,I7 b h h2⟩
   ·cases h
 | .agg cs,u,h,hv=>by
   simp only[R6]at h;simp only[C0]at hv⊢;obtain⟨us,e,h1⟩:=hv;exact⟨us,e,I7 cs h h1⟩
 | .tup cs,u,h,hv=>by
   simp only[R6]at h;simp only[C0]at hv⊢;obtain⟨us,e,h1⟩:=hv;exact⟨us,e,I7 cs h h1⟩
 | .d x,u,_,hv=>by simp only[C0]at hv⊢;exact hv
 | .rp cs k,u,_,hv=>by simp only[C0]at hv⊢;exact hv
 | .esl n,u,_,hv=>by simp only[C0]at hv⊢;exact hv
 | .undef,u,_,hv=>by simp only[C0]
 | .un,u,_,hv=>by simp only[C0]at hv⊢;exact hv
theorem I7:∀(vs:List V) {us:List Value},U4 K vs=true->B5 M ρ vs us->B5 M (O2 K ρ) vs us
 |[],us,_,hv=>by simp only[B5]at hv⊢;exact hv
 |v::l,us,h,hv=>by
  simp only[U4]at h;split at h
  ·rename_i ha;simp only[B5]at hv⊢;obtain⟨u,us',e,h1,h2⟩:=hv;exact⟨u,us',e,Aq0 v ha h1,I7 l h h2⟩
  ·cases h
end
end
section
variable {S:N0} {wl w w':World} {M0 M M':Mem} {ρ ρ':Rho} {ob:Nat->Option B9} {K R:List Nat}
theorem Bo9(h:Ow S wl M0 M ρ ob w){b:Nat}(hb:SK R ρ ob b):(S b\/wl.heap.size<=b)/\b<w.heap.size:=by
 obtain⟨r,i,o,_,h2,h3,h4⟩:=hb;obtain⟨i',h5,h6⟩:=h.own r o h3;rw[h2]at h5;cases h5;exact E2 h6 h4
theorem Ow.part(h:Ow S wl M0 M ρ ob w)(K R:List Nat)(hc:∀r o,D7 r R=true->ob r=some o->At5 K o=true):Ow ⟨SK R ρ ob,O2 K ρ⟩ w M M (O2 K ρ) (T9 K R ob) w:=by
 refine⟨Nat.le_refl _,rfl,rfl,rfl,fun _ _ _=>rfl,h.sits,M.le_refl,h.glE (fun b hb=>(Bo9 h hb).1),fun _ _ hb _=> .inl hb,fun r o hr=> ?_,fun r i hi=> ?_,fun r r' o o' i i' b h1 h2 h3 h4 l1 l2=>h.inj r r' o o' i i' b (Ag7 h1 l1).2 (Ag7 h2 l2).2 (F1 h3).2 (F1 h4).2 l1 l2,fun r i _ hi=>⟨i,hi,Ile.refl i⟩⟩
 ·obtain⟨hm,⟨hmr,ho⟩|⟨hmr,rfl,x,hx⟩⟩:=Ag8 hr
  rotate_left
  ·obtain⟨i,hi,_⟩:=h.own r x hx;exact⟨i,by rw[G0 hm];exact hi,by show O2 K ρ r=some i;rw[G0 hm];exact hi⟩
  obtain⟨i,hi,hok⟩:=h.own r o ho;refine⟨i,by rw[G0 hm];exact hi,?_⟩;have hcl:=hc r o hmr ho;have hS:Al9 i o->SK R ρ ob i.b:=fun hl=>⟨r,i,o,hmr,hi,ho,Aa6 hl⟩
  cases o with
  |tree g e sz shs es hh=>exact M6.tree hok (fun b hb=> .inl ⟨r,i,_,hmr,hi,ho,hb⟩) (fun k cs e us hus=>by subst e;exact I7 cs hcl hus)
  |box te cs=>
   obtain⟨h0,h1,us,e,h2,h3,h4⟩:=hok;exact⟨h0,⟨.inl (hS trivial),h1.2⟩,us,e,h2,I7 cs hcl h3,h4⟩
  |buf g e sz es=>
   obtain⟨h0,hg,hs,hn,ht,hx,h1⟩:=hok;refine⟨h0,hg,hs,hn,ht,hx,fun hp=> ?_⟩;obtain⟨h1,rest⟩:=h1 hp;exact⟨⟨.inl (hS hp),h1.2⟩,rest⟩
  |fzs g sz es=>exact hok
  |fzb cs=>
   obtain⟨h0,c0,us,h1,hP,h2,h3⟩:=hok;exact⟨h0,c0,us,h1,hP,I7 cs hcl h2,h3⟩
  |mapo kk ag sz es=>
   obtain⟨h0,h1,rest⟩:=hok;exact⟨h0,⟨.inl (hS trivial),h1.2⟩,rest⟩
  |raw b x=>
   obtain⟨h0,e,h1,h2⟩:=hok;exact⟨h0,e,⟨.inl (hS trivial),h1.2⟩,h2⟩
  |frn q=>cases hcl
 ·obtain⟨hm,hi⟩:=F1 hi;obtain⟨o,ho⟩:=h.dom r i hi;cases hmr:D7 r R with
  |true=>exact⟨o,by rw[P6 hm hmr];exact ho⟩
  |false=>exact⟨_,Cb2 hm hmr ho⟩
def Y4(K:List Nat):Wr->Bool
 |[]=>true
 |(d,o)::wr=>match D7 d K,o with|true,.frn _=>false|true,_=>Y4 K wr|false,_=>false
theorem Ey3:∀(wr:Wr) {ob ob':Nat->Option B9} {r:Nat},ob r=ob' r->wrO ob wr r=wrO ob' wr r
 |[],_,_,_,h=>h
 |(d,o)::wr,ob,ob',r,h=>by
  simp only[wrO];exact Ey3 wr (by unfold K0;split<;>first|rfl|exact h)
theorem Ab6{K:List Nat}:∀(wr:Wr) {ob:Nat->Option B9} {r:Nat},Y4 K wr=true->D7 r K=false->wrO ob wr r=ob r
 |[],_,_,_,_=>rfl
 |(d,o)::wr,ob,r,h,hr=>by
  unfold Y4 at h;split at h
  ·cases h
  ·rename_i hd _;simp only[wrO];rw[Ab6 wr h hr,C8];intro e;subst e;rw[hd]at hr;cases hr
  ·cases h
def Au1(K:List Nat)(ρ ρ':Rho):Rho:=fun r=>match D7 r K with|true=>ρ' r|false=>ρ r
theorem V8{r:Nat}(h:D7 r K=true):Au1 K ρ ρ' r=ρ' r:=by simp[Au1,h]
theorem Be5{r:Nat}(h:D7 r K=false):Au1 K ρ ρ' r=ρ r:=by simp[Au1,h]
theorem Ec8{R:List Nat}:∀(wr:Wr) {ob:Nat->Option B9} {r q:Nat},Y4 R wr=true->wrO ob wr r=some (.frn q)->ob r=some (.frn q)
 |[],_,_,_,_,h=>h
 |(d,o)::wr,ob,r,q,hk,h=>by
  unfold Y4 at hk;split at hk
  ·cases hk
  ·rename_i o' hne;simp only[wrO]at h;have:=Ec8 wr hk h;by_cases e:r=d
   ·subst e;rw[B7]at this;cases this;exact absurd rfl (hne q)
   ·rw[C8 _ _ e]at this;exact this
  ·cases hk
theorem Ow.back(h:Ow S wl M0 M ρ ob w){wr:Wr}{r0:Rho}(hc:∀r o,D7 r R=true->ob r=some o->At5 K o=true)(hsub:∀r,D7 r R=true->D7 r K=true)(hr0:∀r i,D7 r K=true->D7 r R=false->r0 r=some i->ρ r=some i)(hk:Y4 R wr=true)(h':Ow ⟨SK R ρ ob,r0⟩ w M M' ρ' (wrO (T9 K R ob) wr) w')(hr:Rle M M' (O2 K ρ) ρ'):
 Rle M M' ρ (Au1 K ρ ρ')/\Ow S wl M0 M' (Au1 K ρ ρ') (wrO ob wr) w'/\Rle M' M' ρ' (Au1 K ρ ρ'):=by
 have hin:∀r,D7 r R=true->wrO (T9 K R ob) wr r=wrO ob wr r:=fun r hm=>Ey3 wr (P6 (hsub r hm) hm)
 have hfr:∀r o,D7 r K=true->D7 r R=false->ob r=some o->wrO (T9 K R ob) wr r=some (.frn r):=fun r o hm hmr ho=>by rw[Ab6 wr hk hmr];exact Cb2 hm hmr ho
 have hKd:∀r i,ρ' r=some i->D7 r K=true:=fun r i hi=>by
  cases hm:D7 r K with
  |true=>rfl
  |false=>
   obtain⟨o,ho⟩:=h'.dom r i hi;have hmr:D7 r R=false:=by
    cases hmr:D7 r R with
    |false=>rfl
    |true=>rw[hsub r hmr]at hm;cases hm
   rw[Ab6 wr hk hmr]at ho;simp[T9,hm]at ho
 --what was not looked at stands where it stood
 have same:∀r o,D7 r K=true->D7 r R=false->ob r=some o->∃i,ρ r=some i/\ρ' r=some i:=fun r o hm hmr ho=>by
  obtain⟨i,hi,hok⟩:=h'.own r _ (hfr r o hm hmr ho);exact⟨i,hr0 r i hm hmr hok,hi⟩
 have e2:Rle M' M' ρ' (Au1 K ρ ρ'):=⟨M'.le_refl,fun r i hi=>⟨i,by rw[V8 (hKd r i hi)];exact hi,Nat.le_refl _,fun _=>rfl,fun _=>rfl⟩⟩
 have hrl:Rle M M' ρ (Au1 K ρ ρ'):=⟨hr.le,fun r i hi=>by
  cases hm:D7 r K with
  |true=>
   obtain⟨i',h1,h2⟩:=hr.ext r i (by rw[G0 hm];exact hi);exact⟨i',by rw[V8 hm];exact h1,h2⟩
  |false=>exact⟨i,by rw[Be5 hm];exact hi,Nat.le_refl _,fun _=>rfl,fun _=>rfl⟩⟩
 have mineK:∀{i:Inf} {o:B9} {b:Nat},M6 ⟨SK R ρ ob,r0⟩ w M' ρ' w' i o->blk i o b->S b\/wl.heap.size<=b:=fun hok hl=>by
  rcases(E2 hok hl).1 with hs|hs
  ·exact(Bo9 h hs).1
  ·exact .inr (Nat.le_trans h.size hs)
 have notK:∀{r:Nat} {i:Inf} {o:B9} {b:Nat},D7 r R=false->ρ r=some i->ob r=some o->blk i o b->¬SK R ρ ob b:=fun{r i o b} hm hi ho hl ⟨r1,i1,o1,h1,h2,h3,h4⟩=>by
  obtain rfl:=h.inj r1 r o1 o i1 i b h3 ho h2 hi h4 hl;rw[hm]at h1;cases h1
 --an object beside R:as it was
 have beside:∀r o,D7 r R=false->ob r=some o->∃i,ρ r=some i/\Au1 K ρ ρ' r=some i/\M6 S wl M ρ w i o:=fun r o hmr ho=>by
  obtain⟨i,hi,hok⟩:=h.own r o ho;refine⟨i,hi,?_,hok⟩;cases hm:D7 r K with
  |true=>
   obtain⟨j,h1,h2⟩:=same r o hm hmr ho;rw[hi]at h1;cases h1;rw[V8 hm];exact h2
  |false=>rw[Be5 hm];exact hi
 refine⟨hrl,⟨Nat.le_trans h.size h'.size,h'.os.trans h.os,h'.tape.trans h.tape,h'.output.trans h.output,fun k hk' hS=> ?_,h'.sits,Mem.le_trans h.le h'.le,⟨h'.gl.ok,h.gl.off,h.gl.sz⟩,fun b c hb hlt=> ?_,fun r o ho=> ?_,fun r i hi=> ?_,?_,?_⟩,e2⟩
 ·rw[h'.old k (by have:=h.size;omega) (fun hs=>(Bo9 h hs).1.elim hS (fun h1=>by omega))];exact h.old k hk' hS
 ·rcases h'.new b c hb (by have:=h.size;omega) with h1|h1
  ·exact h.new b c h1 hlt
  ·rcases(Bo9 h h1).1 with h2|h2
   ·exact .inr h2
   ·omega
 ·cases hmr:D7 r R with
  |true=>
   have hm:=hsub r hmr;rw[<-hin r hmr]at ho;obtain⟨i,hi,hok⟩:=h'.own r o ho;refine⟨i,by rw[V8 hm];exact hi,?_⟩;have hM:Al9 i o->S i.b\/wl.heap.size<=i.b:=fun hl=>mineK hok (Aa6 hl)
   cases o with
   |tree g e sz shs es hh=>exact M6.tree hok (fun b hb=>mineK hok hb) (fun k cs _ us hr=>B5.mono e2 _ hr)
   |box te cs=>
    obtain⟨h0,h1,us,e,h2,h3,h4⟩:=hok;exact⟨h0,⟨hM trivial,h1.2⟩,us,e,h2,B5.mono e2 _ h3,h4⟩
   |buf g e sz es=>
    obtain⟨h0,hg,hs,hn,ht,hx,h1⟩:=hok;refine⟨h0,hg,hs,hn,ht,hx,fun hp=> ?_⟩;obtain⟨h1,rest⟩:=h1 hp;exact⟨⟨hM hp,h1.2⟩,rest⟩
   |fzs g sz es=>exact hok
   |fzb cs=>
    obtain⟨h0,c0,us,h1,hP,h2,h3⟩:=hok;exact⟨h0,c0,us,h1,hP,B5.mono e2 _ h2,h3⟩
   |mapo kk ag sz es=>
    obtain⟨h0,h1,rest⟩:=hok;exact⟨h0,⟨hM trivial,h1.2⟩,rest⟩
   |raw b x=>
    obtain⟨h0,e,h1,h2⟩:=hok;exact⟨h0,e,⟨hM trivial,h1.2⟩,h2⟩
   |frn q=>
    exfalso;have h1:=Ec8 wr hk ho;rw[P6 hm hmr]at h1;have:=hc r _ hmr h1;cases this
  |false=>
   rw[Ab6 wr hk hmr]at ho;obtain⟨i,hi,hj,hok⟩:=beside r o hmr ho;refine⟨i,hj,hok.mono hrl (fun y hl=> ?_) (fun y hl=>h'.old _ (E2 hok hl).2 (notK hmr hi ho hl))⟩;cases hM:M' y with
   |none=>
    cases hm0:M y with
    |none=>rfl
    |some c=>obtain⟨c',h3,_⟩:=h'.le _ _ hm0;rw[hM]at h3;cases h3
   |some c=>
    rcases h'.new _ _ hM (E2 hok hl).2 with h1|h1
    ·exact h1.symm
    ·exact absurd h1 (notK hmr hi ho hl)
 ·cases hm:D7 r K with
  |true=>
   rw[V8 hm]at hi;obtain⟨o,ho⟩:=h'.dom r i hi;cases hmr:D7 r R with
   |true=>exact⟨o,by rw[<-hin r hmr];exact ho⟩
   |false=>
    rw[Ab6 wr hk hmr]at ho⊢;obtain⟨_,⟨h1,_⟩|⟨_,_,x,hx⟩⟩:=Ag8 ho
    ·rw[hmr]at h1;cases h1
    ·exact⟨x,hx⟩
  |false=>
   rw[Be5 hm]at hi;obtain⟨o,ho⟩:=h.dom r i hi;have hmr:D7 r R=false:=by
    cases hmr:D7 r R with
    |false=>rfl
    |true=>rw[hsub r hmr]at hm;cases hm
   exact⟨o,by rw[Ab6 wr hk hmr];exact ho⟩
 ·have mix:∀{r r':Nat} {o o':B9} {i i':Inf} {b:Nat},D7 r R=true->D7 r' R=false->wrO ob wr r=some o->wrO ob wr r'=some o'->Au1 K ρ ρ' r=some i->Au1 K ρ ρ' r'=some i'->blk i o b->blk i' o' b->False:=fun{r r' o o' i i' b} hm hm' h1 h2 h3 h4 l1 l2=>by
   rw[<-hin r hm]at h1;rw[Ab6 wr hk hm']at h2;rw[V8 (hsub r hm)]at h3;obtain⟨i1,h5,h6⟩:=h'.own r o h1;rw[h3]at h5;cases h5;obtain⟨i2,h7,h8,h9⟩:=beside r' o' hm' h2;rw[h4]at h8;cases h8;rcases(E2 h6 l1).1 with hs|hs
   ·exact notK hm' h7 h2 l2 hs
   ·have:=(E2 h9 l2).2;omega
  intro r r' o o' i i' b h1 h2 h3 h4 l1 l2;cases hm:D7 r R with
  |true=>
   cases hm':D7 r' R with
   |true=>
    rw[<-hin r hm]at h1;rw[<-hin r' hm']at h2;rw[V8 (hsub r hm)]at h3;rw[V8 (hsub r' hm')]at h4;exact h'.inj r r' o o' i i' b h1 h2 h3 h4 l1 l2
   |false=>exact(mix hm hm' h1 h2 h3 h4 l1 l2).elim
  |false=>
   cases hm':D7 r' R with
   |true=>exact(mix hm' hm h2 h1 h4 h3 l2 l1).elim
   |false=>
    rw[Ab6 wr hk hm]at h1;rw[Ab6 wr hk hm']at h2;obtain⟨_,q1,q2,_⟩:=beside r o hm h1;obtain⟨_,q3,q4,_⟩:=beside r' o' hm' h2;rw[h3]at q2;cases q2;rw[h4]at q4;cases q4;exact h.inj r r' o o' i i' b h1 h2 q1 q3 l1 l2
 ·intro r i hb hi;obtain⟨j,h1,h2⟩:=h.held r i hb hi;obtain⟨k,h3,h4⟩:=hrl.ext r j h1;exact⟨k,h3,h2.trans h4⟩
end
end
section
structure Dlt where
 rs:List Nat
 K:List Nat
 R:List Nat
 g0:Nat->V
 ob0:Nat->Option B9
 dst:Option Nat
 v:V
 wr:Wr
structure Bw8 where
 rs:List Nat
 K:List Nat
 R:List Nat
 ws:List Nat
 nw:List Nat
 dst:Option Nat
def N9:Wr->List Nat
 |[]=>[]
 |(d,_)::l=>d::N9 l
def Dg2(ob:Nat->Option B9):Wr->List Nat
 |[]=>[]
 |(d,_)::l=>match ob d with|some _=>Dg2 ob l|none=>d::Dg2 ob l
def U0(δ:Dlt):Bw8:=⟨δ.rs,δ.K,δ.R,N9 δ.wr,Dg2 δ.ob0 δ.wr,δ.dst⟩
def WOk(δ:Dlt):Prop:=∀x∈N9 δ.wr,D7 x δ.R=true
theorem Bf5{ob:Nat->Option B9}:∀{wr:Wr} {x:Nat},x∈N9 wr->x∉Dg2 ob wr->∃o,ob x=some o
 |[],_,h,_=>by cases h
 |(d,o)::wr,x,h,hn=>by
  unfold Dg2 at hn;split at hn
  ·rename_i y hy;rcases List.mem_cons.1 h with rfl|h
   ·exact⟨y,hy⟩
   ·exact Bf5 h hn
  ·rcases List.mem_cons.1 h with rfl|h
   ·exact absurd List.mem_cons_self hn
   ·exact Bf5 h (fun hm=>hn (List.mem_cons_of_mem _ hm))
def Cg0(g:Nat->V)(d:Option Nat)(v:V):Nat->V:=match d with
 |none=>g
 |some d=>fun t=>match Nat.beq t d with|true=>v|false=>g t
def App(δ:Dlt)(g:Nat->V)(ob:Nat->Option B9):Prop:=(∀t,D7 t δ.rs=true->g t=δ.g0 t)/\(∀r,D7 r δ.R=true->ob r=δ.ob0 r)/\∀r,D7 r δ.K=true->(ob r).isSome=(δ.ob0 r).isSome
def Bi2:List Nat->List Nat->Bool
 |[],_=>true
 |x::l,m=>match D7 x m with|true=>false|false=>Bi2 l m
def Bd0:Option Nat->List Nat->Bool
 |none,_=>true
 |some d,m=>match D7 d m with|true=>false|false=>true
def Ck9:Option Nat->Option Nat->Bool
 |some a,some b=>match Nat.beq a b with|true=>false|false=>true
 |_,_=>true
def Ac0(a b:Bw8):Bool:=match Bd0 a.dst b.rs,Bd0 b.dst a.rs,Ck9 a.dst b.dst,Bi2 a.ws b.R,Bi2 b.ws a.R,Bi2 a.ws b.ws with
 |true,true,true,true,true,true=>match Bi2 a.nw b.K,Bi2 b.nw a.K with|true,true=>true|_,_=>false
 |_,_,_,_,_,_=>false
theorem Al7{a b:Bw8}(h:Ac0 a b=true):Bd0 a.dst b.rs=true/\Bd0 b.dst a.rs=true/\Ck9 a.dst b.dst=true/\Bi2 a.ws b.R=true/\Bi2 b.ws a.R=true/\Bi2 a.ws b.ws=true/\Bi2 a.nw b.K=true/\Bi2 b.nw a.K=true:=by
 unfold Ac0 at h;split at h
 ·rename_i h1 h2 h3 h4 h5 h6;split at h
  ·rename_i h7 h8;exact⟨h1,h2,h3,h4,h5,h6,h7,h8⟩
  ·cases h
 ·cases h
theorem Y2:∀{l m:List Nat},Bi2 l m=true->∀x∈l,D7 x m=false
 |[],_,_,x,hx=>by cases hx
 |y::l,m,h,x,hx=>by
  unfold Bi2 at h;split at h
  ·cases h
  ·rename_i hb;rcases List.mem_cons.1 hx with rfl|hx
   ·exact hb
   ·exact Y2 h x hx
theorem Bs9:∀{l:List Nat} {n:Nat},n∈l->D7 n l=true
 |[],_,h=>by cases h
 |m::l,n,h=>by
  unfold D7;rcases List.mem_cons.1 h with rfl|h
  ·rw[Nat.beq_refl]
  ·split
   ·rfl
   ·exact Bs9 h
theorem P3:∀{wr:Wr} {ob:Nat->Option B9} {r:Nat},r∉N9 wr->wrO ob wr r=ob r
 |[],_,_,_=>rfl
 |(d,o)::wr,ob,r,h=>by
  simp only[wrO];rw[P3 (fun hm=>h (List.mem_cons_of_mem _ hm)),C8];exact fun e=>h (by rw[e];exact List.mem_cons_self)
theorem Cp6:∀{wr:Wr} {ob ob':Nat->Option B9} {r:Nat},r∈N9 wr->wrO ob wr r=wrO ob' wr r
 |[],_,_,_,h=>by cases h
 |(d,o)::wr,ob,ob',r,h=>by
  simp only[wrO];by_cases hm:r∈N9 wr
  ·exact Cp6 hm
  ·rcases List.mem_cons.1 h with rfl|h
   ·rw[P3 hm,P3 hm,B7,B7]
   ·exact absurd h hm
theorem Bn7:∀{wr:Wr} {ob:Nat->Option B9} {r:Nat},r∈N9 wr->(wrO ob wr r).isSome=true
 |[],_,_,h=>by cases h
 |(d,o)::wr,ob,r,h=>by
  simp only[wrO];by_cases hm:r∈N9 wr
  ·exact Bn7 hm
  ·rcases List.mem_cons.1 h with rfl|h
   ·rw[P3 hm,B7];rfl
   ·exact absurd h hm
theorem Eo3{a b:Wr}(h:Bi2 (N9 a) (N9 b)=true)(ob:Nat->Option B9):wrO (wrO ob a) b=wrO (wrO ob b) a:=by
 funext r;by_cases ha:r∈N9 a
 ·have hb:r∉N9 b:=fun hb=>by have:=Y2 h r ha;rw[Bs9 hb]at this;cases this
  rw[P3 hb];exact Cp6 ha
 ·rw[P3 (wr:=a) ha];by_cases hb:r∈N9 b
  ·exact Cp6 hb
  ·rw[P3 hb,P3 hb,P3 ha]
theorem Ec1{a b:Option Nat}(h:Ck9 a b=true)(g:Nat->V)(u v:V):Cg0 (Cg0 g a u) b v=Cg0 (Cg0 g b v) a u:=by
 cases a with
 |none=>rfl
 |some a=>
  cases b with
  |none=>rfl
  |some b=>
   funext t;simp only[Cg0];cases h1:Nat.beq t a<;>cases h2:Nat.beq t b<;>simp only;obtain rfl:=nB_ h1;obtain rfl:=nB_ h2;simp[Ck9]at h
theorem Da9{d:Option Nat}{rs:List Nat}(h:Bd0 d rs=true)(g:Nat->V)(v:V){t:Nat}(ht:D7 t rs=true):Cg0 g d v t=g t:=by
 cases d with
 |none=>rfl
 |some d=>
  simp only[Cg0];cases hb:Nat.beq t d with
  |true=>
   obtain rfl:=nB_ hb;simp[Bd0,ht]at h
  |false=>rfl
theorem Db4{wr:Wr}{K:List Nat}(h:Bi2 (N9 wr) K=true){ob:Nat->Option B9}{r:Nat}(hr:D7 r K=true):wrO ob wr r=ob r:=
 P3 fun hm=>by have:=Y2 h r hm;rw[hr]at this;cases this
theorem App.post{a b:Dlt}(h:Ac0 (U0 a) (U0 b)=true)(hw:WOk a){g:Nat->V}{ob:Nat->Option B9}(ha:App a g ob):App b (Cg0 g a.dst a.v) (wrO ob a.wr)↔App b g ob:=by
 obtain⟨h1,_,_,h4,_,_,h7,_⟩:=Al7 h;have h1:Bd0 a.dst b.rs=true:=h1;have h4:Bi2 (N9 a.wr) b.R=true:=h4;have h7:Bi2 (Dg2 a.ob0 a.wr) b.K=true:=h7;have key:∀r,D7 r b.K=true->(wrO ob a.wr r).isSome=(ob r).isSome:=fun r hr=>by
  by_cases hm:r∈N9 a.wr
  ·have hn:r∉Dg2 a.ob0 a.wr:=fun hn=>by have:=Y2 h7 r hn;rw[hr]at this;cases this
   obtain⟨o,ho⟩:=Bf5 hm hn;rw[Bn7 hm,ha.2.1 r (hw r hm),ho];rfl
  ·rw[P3 hm]
 constructor
 ·exact fun⟨p,q,s⟩=>⟨fun t ht=>by rw[<-p t ht,Da9 h1 g a.v ht],fun r hr=>by rw[<-q r hr,Db4 h4 hr],fun r hr=>by rw[<-s r hr,key r hr]⟩
 ·exact fun⟨p,q,s⟩=>⟨fun t ht=>by rw[Da9 h1 g a.v ht,p t ht],fun r hr=>by rw[Db4 h4 hr,q r hr],fun r hr=>by rw[key r hr,s r hr]⟩
theorem De1:∀{a b:Option Nat},Ck9 a b=true->Ck9 b a=true
 |none,none,_=>rfl
 |none,some _,_=>rfl
 |some _,none,_=>rfl
 |some x,some y,h=>by
  simp only[Ck9]at h⊢;cases h1:Nat.beq y x with
  |false=>rfl
  |true=>obtain rfl:=nB_ h1;rw[Nat.beq_refl]at h;cases h
theorem Dq4{a b:List Nat}(h:Bi2 a b=true):Bi2 b a=true:=by
 have:∀l:List Nat,(∀x∈l,D7 x a=false)->Bi2 l a=true:=fun l=>by
  induction l with
  |nil=>exact fun _=>rfl
  |cons x l ih=>exact fun hx=>by unfold Bi2;rw[hx x List.mem_cons_self];exact ih fun y hy=>hx y (List.mem_cons_of_mem _ hy)
 refine this _ fun x hx=> ?_
 cases hm:D7 x a with
 |false=>rfl
 |true=>have:=Y2 h x (Y7 hm);rw[Bs9 hx]at this;cases this
theorem Cn0{a b:Bw8}(h:Ac0 a b=true):Ac0 b a=true:=by
 obtain⟨h1,h2,h3,h4,h5,h6,h7,h8⟩:=Al7 h;simp only[Ac0,h2,h1,De1 h3,h5,h4,Dq4 h6,h8,h7]
def Er3:List (Nat×Dlt)->(Nat->V)->(Nat->Option B9)->(Nat->V)->(Nat->Option B9)->Prop
 |[],g,ob,gE,obE=>g=gE/\ob=obE
 |(_,δ)::R,g,ob,gE,obE=>App δ g ob/\Er3 R (Cg0 g δ.dst δ.v) (wrO ob δ.wr) gE obE
theorem Er3.front{i:Nat}{δ:Dlt}{B:List (Nat×Dlt)}{gE:Nat->V}{obE:Nat->Option B9}:∀(A:List (Nat×Dlt)) {g:Nat->V} {ob:Nat->Option B9},(∀a∈A,Ac0 (U0 a.2) (U0 δ)=true)->(∀a∈A,WOk a.2)->WOk δ->
 Er3 (A++(i,δ)::B) g ob gE obE->App δ g ob/\Er3 (A++B) (Cg0 g δ.dst δ.v) (wrO ob δ.wr) gE obE
 |[],_,_,_,_,_,h=>h
 |(j,a)::A,g,ob,hi,hwa,hwd,h=>by
  have h0:=hi (j,a) List.mem_cons_self;obtain⟨ha,h1⟩:=h;obtain⟨h2,h3⟩:=Er3.front A (fun x hx=>hi x (List.mem_cons_of_mem _ hx)) (fun x hx=>hwa x (List.mem_cons_of_mem _ hx)) hwd h1;have hd:=(App.post h0 (hwa _ List.mem_cons_self) ha).1 h2;refine⟨hd,(App.post (Cn0 h0) hwd hd).2 ha,?_⟩;obtain⟨_,_,e1,_,_,e2,_,_⟩:=Al7 h0;rw[<-Ec1 (a:=a.dst) (b:=δ.dst) e1,<-Eo3 (a:=a.wr) (b:=δ.wr) e2];exact h3
def Bm1:List Edge->List Nat
 |[]=>[]
 |e::l=>match Region.binds .any e with|true=>e.on::Bm1 l|false=>Bm1 l
def prd(l:List Oper)(b:Nat):List Nat:=match Cy2 l b with|some o=>Bm1 o.after.toList|none=>[]
def Gl5(p:Nat->Bool):List Nat->Bool
 |[]=>false
 |x::l=>match p x with|true=>true|false=>Gl5 p l
def Ew7(l:List Oper):Nat->Nat->Nat->Bool
 |0,_,_=>false
 |n+1,a,b=>match D7 a (prd l b) with|true=>true|false=>Gl5 (fun k=>match Nat.blt a k with|true=>Ew7 l n a k|false=>false) (prd l b)
theorem Bm2:∀{es:List Edge} {p:Nat},p∈Bm1 es↔∃e∈es,Region.binds .any e=true/\e.on=p
 |[],p=>by simp[Bm1]
 |e::l,p=>by
  unfold Bm1;have ih:=Bm2 (es:=l) (p:=p);split
  ·rename_i hb;constructor
   ·intro h;rcases List.mem_cons.1 h with rfl|h
    ·exact⟨e,List.mem_cons_self,hb,rfl⟩
    ·obtain⟨x,h1,h2⟩:=ih.1 h;exact⟨x,List.mem_cons_of_mem _ h1,h2⟩
   ·rintro ⟨x,h1,h2,h3⟩
    rcases List.mem_cons.1 h1 with rfl|h1
    ·rw[<-h3];exact List.mem_cons_self
    ·exact List.mem_cons_of_mem _ (ih.2 ⟨x,h1,h2,h3⟩)
  ·rename_i hb;constructor
   ·intro h;obtain⟨x,h1,h2⟩:=ih.1 h;exact⟨x,List.mem_cons_of_mem _ h1,h2⟩
   ·rintro ⟨x,h1,h2,h3⟩
    rcases List.mem_cons.1 h1 with rfl|h1
    ·rw[hb]at h2;cases h2
    ·exact ih.2 ⟨x,h1,h2,h3⟩
theorem Dx7{l:List Oper}{b p:Nat}{o:Oper}(ho:Cy2 l b=some o):p∈prd l b↔∃e∈o.after,Region.binds .any e=true/\e.on=p:=by
 unfold prd;rw[ho];simp only[Bm2,Array.mem_toList_iff]
def Eo5(l:List Oper)(listed:Array Bool):Prop:=∀k o,Cy2 l k=some o->listed.getD k false=true->∀p∈prd l k,listed.getD p false=true
theorem Bx3{p:Nat->Bool}:∀{l:List Nat},Gl5 p l=true->∃x∈l,p x=true
 |[],h=>by cases h
 |x::l,h=>by
  unfold Gl5 at h;split at h
  ·rename_i hb;exact⟨x,List.mem_cons_self,hb⟩
  ·obtain⟨y,h1,h2⟩:=Bx3 h;exact⟨y,List.mem_cons_of_mem _ h1,h2⟩
theorem Cd0{l:List Oper}{listed:Array Bool}(hc:Eo5 l listed):∀{n a b:Nat},Ew7 l n a b=true->(∀p∈prd l b,listed.getD p false=true)->listed.getD a false=true
 |0,_,_,h,_=>by cases h
 |n+1,a,b,h,hp=>by
  unfold Ew7 at h;split at h
  ·rename_i hm;exact hp a (Y7 hm)
  ·obtain⟨k,h1,h2⟩:=Bx3 h;have h2:Ew7 l n a k=true:=by
    revert h2;cases Nat.blt a k with
    |true=>exact id
    |false=>intro h;cases h
   refine Cd0 hc h2 fun p hpk=> ?_
   cases ho:Cy2 l k with
   |none=>unfold prd at hpk;rw[ho]at hpk;cases hpk
   |some o=>exact hc k o ho (hp k h1) p hpk
theorem Cn6{l:List Oper}{j:Nat}{o:Oper}(h:Cy2 l j=some o):j<l.length:=by
 rcases Nat.lt_or_ge j l.length with h'|h'
 ·exact h'
 ·have:=Bf9 l j;rw[h]at this;simp[List.getElem?_eq_none h']at this
theorem Fl6{listed:Array Bool}{a:Nat}(h:listed.getD a false=true):listed.getD a true=true:=by
 rcases Nat.lt_or_ge a listed.size with h'|h'
 ·simp[h']at h⊢;exact h
 ·simp[Array.getElem?_eq_none h']at h
theorem Fl5{listed:Array Bool}{a:Nat}(hl:a<listed.size)(h:listed.getD a true=true):listed.getD a false=true:=by
 simp[hl]at h⊢;exact h
structure Gj5(S:N0)(wl:World)(M0 M:Mem)(ρ:Rho)(N:Nat)(g:Nat->V)(ob:Nat->Option B9)(f:Nat->Value)(w:World):Prop where
 ow:Ow S wl M0 M ρ ob w
 sl:∀t,t<N->C0 M ρ (g t) (f t)
def DOk(r:Option Nat)(P:Program)(N:Nat)(ds:List Deferred)(all:List Oper)(o:Oper)(δ:Dlt):Prop:=
 ∀S wl M0 M ρ g ob f w,Gj5 S wl M0 M ρ N g ob f w->App δ g ob->∀(K:Act->World->Prop) (Q:Exit->Act->World->Prop),
  (∀M' ρ' f' w',Gj5 S wl M0 M' ρ' N (Cg0 g δ.dst δ.v) (wrO ob δ.wr) f' w'->K (fr N f' ds) w')->
  if Region.wanted o (yielded all.toArray (fr N f ds).tmps)=true then o.wpIn (WF r) 0 P (fr N f ds) w K Q else K ((fr N f ds).put o.dst undef) w
section
variable {r:Option Nat} {P:Program} {N:Nat} {ds:List Deferred} {l:List Oper} {S:N0} {wl:World} {M0:Mem} {gE:Nat->V} {obE:Nat->Option B9} {Q:Exit->Act->World->Prop} {F:Nat}
def Hb6(l:List Oper)(F:Nat)(a b:Nat×Dlt):Prop:=Ew7 l F a.1 b.1=true\/Ac0 (U0 a.2) (U0 b.2)=true
theorem Ff9(hback:∀j o,Cy2 l j=some o->∀p∈prd l j,p<j)(hE:∀M ρ f w,Gj5 S wl M0 M ρ N gE obE f w->Q .normal (fr N f ds) w):
 ∀(n:Nat) (R:List (Nat×Dlt)) (listed:Array Bool) (M:Mem) (ρ:Rho) (g:Nat->V) (ob:Nat->Option B9) (f:Nat->Value) (w:World),R.length=n->R.Pairwise (fun a b=>a.1<b.1)->
  listed.size=l.length->(∀j,listed.getD j true=false↔∃x∈R,x.1=j)->(∀x∈R,∃o,Cy2 l x.1=some o/\DOk r P N ds l o x.2/\WOk x.2)->R.Pairwise (Hb6 l F)->Eo5 l listed->
  Gj5 S wl M0 M ρ N g ob f w->Er3 R g ob gE obE->wpAnyIn (WF r) 0 P .any l.toArray Q n listed (fr N f ds) w:=by
 have nored:∀{listed:Array Bool} {R:List (Nat×Dlt)} {x:Nat×Dlt},listed.size=l.length->R.Pairwise (fun a b=>a.1<b.1)->(∀j,listed.getD j true=false↔∃x∈R,x.1=j)->(∀x∈R,∃o,Cy2 l x.1=some o/\DOk r P N ds l o x.2/\WOk x.2)->x∈R.head?->x.1∈Region.ready .any l.toArray listed:=fun{listed R x} hsz hs hl ho hx=>by
  cases R with
  |nil=>cases hx
  |cons y R=>
   simp only[List.head?_cons,Option.mem_def,Option.some.injEq]at hx;subst hx;obtain⟨o,ho,_⟩:=ho y List.mem_cons_self;refine mem_ready.2 ⟨(hl y.1).2 ⟨y,List.mem_cons_self,rfl⟩,o,(Bf9 l y.1).trans ho,fun e he hb=> ?_⟩;have hlt:=hback y.1 o ho e.on ((Dx7 ho).2 ⟨e,he,hb,rfl⟩);have hyl:=Cn6 ho;cases hc:listed.getD e.on true with
   |true=>exact Fl5 (by omega) hc
   |false=>
    obtain⟨z,hz,hze⟩:=(hl e.on).1 hc;rcases List.mem_cons.1 hz with rfl|hz
    ·omega
    ·have:=(List.pairwise_cons.1 hs).1 z hz;omega
 intro n
 induction n with
 |zero=>
  intro R listed M ρ g ob f w hn hs hsz hl ho hp hc ha hr;obtain rfl:=List.eq_nil_of_length_eq_zero hn;obtain⟨rfl,rfl⟩:=hr;refine⟨?_,hE _ _ _ _ ha⟩;rw[List.eq_nil_iff_forall_not_mem];intro j hj;obtain⟨x,hx,_⟩:=(hl j).1 (mem_ready.1 hj).1;cases hx
 |succ n ih=>
  intro R listed M ρ g ob f w hn hs hsz hl ho hp hc ha hr;refine⟨fun h0=> ?_,fun i hi=> ?_⟩
  ·cases R with
   |nil=>cases hn
   |cons x R=>
    have:=nored hsz hs hl ho (x:=x) (by simp);rw[h0]at this;cases this
  ·obtain⟨hun,oi,hoi,hall⟩:=mem_ready.1 hi;rw[Bf9]at hoi;obtain⟨x,hx,rfl⟩:=(hl i).1 hun;obtain⟨o,hox,hdo,hwx⟩:=ho x hx;rw[hoi]at hox;cases hox;obtain⟨A,B,rfl⟩:=List.append_of_mem hx;have hpre:∀p∈prd l x.1,listed.getD p false=true:=fun p hpp=>by
    obtain⟨e,he,hb,rfl⟩:=(Dx7 hoi).1 hpp;exact hall e he hb
   have hind:∀a∈A,Ac0 (U0 a.2) (U0 x.2)=true:=fun a haA=>by
    have:=(List.pairwise_append.1 hp).2.2 a haA x List.mem_cons_self;rcases this with h1|h1
    ·have h2:=Cd0 hc h1 hpre;have h3:=(hl a.1).2 ⟨a,List.mem_append_left _ haA,rfl⟩;rw[Fl6 h2]at h3;cases h3
    ·exact h1
   obtain⟨h1,h2⟩:=Er3.front (i:=x.1) (δ:=x.2) A hind (fun a ha=>by obtain⟨_,_,_,hw⟩:=ho a (List.mem_append_left _ ha);exact hw) hwx hr;have key:=hdo S wl M0 M ρ g ob f w ha h1 (wpAnyIn (WF r) 0 P .any l.toArray Q n (listed.setIfInBounds x.1 true)) Q (fun M' ρ' f' w' ha'=>by
    refine ih (A++B) _ M' ρ' _ _ f' w' (by simp at hn⊢;omega) ?_ (by simpa using hsz) ?_ ?_ ?_ ?_ ha' h2
    ·exact hs.sublist ((List.sublist_cons_self x B).append_left A)
    ·intro j;have hlt:x.1<listed.size:=by
      rw[hsz];exact Cn6 hoi
     by_cases e:x.1=j
     ·subst e;constructor
      ·intro hh;simp[hlt]at hh
      ·rintro ⟨y,hy,hyx⟩
       exfalso;have h3:=List.pairwise_append.1 hs;rcases List.mem_append.1 hy with hy|hy
       ·have:=h3.2.2 y hy x List.mem_cons_self;omega
       ·have:=(List.pairwise_cons.1 h3.2.1).1 y hy;omega
     ·rw[getD_set_ne true e,hl j];constructor
      ·rintro ⟨y,hy,rfl⟩
       rcases List.mem_append.1 hy with hy|hy
       ·exact⟨y,List.mem_append_left _ hy,rfl⟩
       ·rcases List.mem_cons.1 hy with rfl|hy
        ·exact absurd rfl e
        ·exact⟨y,List.mem_append_right _ hy,rfl⟩
      ·rintro ⟨y,hy,rfl⟩
       rcases List.mem_append.1 hy with hy|hy
       ·exact⟨y,List.mem_append_left _ hy,rfl⟩
       ·exact⟨y,List.mem_append_right _ (List.mem_cons_of_mem _ hy),rfl⟩
    ·intro y hy;refine ho y ?_;rcases List.mem_append.1 hy with hy|hy
     ·exact List.mem_append_left _ hy
     ·exact List.mem_append_right _ (List.mem_cons_of_mem _ hy)
    ·exact hp.sublist ((List.sublist_cons_self x B).append_left A)
    ·intro k o hk hlk p hpp;by_cases e:x.1=k
     ·subst e;exact getD_set_true (hpre p hpp)
     ·rw[getD_set_ne false e]at hlk;exact getD_set_true (hc k o hk hlk p hpp))
   unfold wpOpIn;rw[Bf9,hoi];simp only;split
   ·rename_i hw;rw[if_pos hw]at key;exact key
   ·rename_i hw;rw[if_neg hw]at key;exact⟨fun _ _=>trivial,key⟩
end
end
section
def tO:Operand->List Nat->List Nat
 | .tmp t,l=>t::l
 |_,l=>l
def tOs:List Operand->List Nat->List Nat
 |[],l=>l
 |x::xs,l=>tO x (tOs xs l)
def tPs:List (Nat×Operand)->List Nat->List Nat
 |[],l=>l
 |(_,x)::xs,l=>tO x (tPs xs l)
def Gz9:Option Operand->List Nat->List Nat
 |some x,l=>tO x l
 |none,l=>l
def Eb7:Op->List Nat
 | .move x| .assign x| .box _ x| .load _ x| .nilCheck x| .unOp _ _ x| .convert _ _ x| .fieldAddr _ x _| .field _ x _| .extract x _=>tO x []
 | .pick c x y=>tO c (tO x (tO y []))
 | .build _ ps=>tPs ps.toList []
 | .buildSlice _ _ ps=>tPs ps.toList []
 | .store _ x y| .binOp _ _ x y _| .indexAddr _ x y| .index _ x y| .makeSlice _ x y| .lookup _ x y _=>tO x (tO y [])
 | .mapUpdate _ m k v=>tO m (tO k (tO v []))
 | .insert _ m k v=>tO m (tO k (tO v []))
 | .makeFunc _ xs ys=>tOs xs.toList (tOs ys.toList [])
 | .slice _ x lo hi mx=>tO x (Gz9 lo (Gz9 hi (Gz9 mx [])))
 | .call c=>match c.callee with
   | .value f=>tO f (tOs c.args.toList [])
   |_=>tOs c.args.toList []
 |_=>[]
def Dz5(all:List Oper)(o:Oper):List Nat:=match o.guard with
 |none=>Eb7 o.op
 |some (j,_)=>match Bj0 all j with|some t=>t::Eb7 o.op|none=>Eb7 o.op
mutual
def Fo1:V->List Nat->List Nat
 | .ptr r _,l=>r::l
 | .suf r _ _,l=>r::l
 | .osl r _ _ _,l=>r::l
 | .ept r _ _ _,l=>r::l
 | .mp r,l=>r::l
 | .yl r,l=>r::l
 | .fn _ a b,l=>Aw7 a (Aw7 b l)
 | .agg cs,l=>Aw7 cs l
 | .tup vs,l=>Aw7 vs l
 |_,l=>l
def Aw7:List V->List Nat->List Nat
 |[],l=>l
 |v::vs,l=>Fo1 v (Aw7 vs l)
end
def Gz0:Option B9->List Nat
 |some (.box _ cs)=>Aw7 cs []
 |some (.fzb cs)=>Aw7 cs []
 |some (.tree _ _ _ _ _ (some (_,cs)))=>Aw7 cs []
 |_=>[]
def Cz9(N:Nat)(sl:Tri):List Nat->List Nat
 |[]=>[]
 |t::l=>Fo1 (G2 N sl (.tmp t)) (Cz9 N sl l)
def Fo0(ob:List (Nat×B9)):Nat->List Nat->List Nat->List Nat
 |0,_,acc=>acc
 |_,[],acc=>acc
 |n+1,r::l,acc=>match D7 r acc with
  |true=>Fo0 ob n l acc
  |false=>Fo0 ob n (Gz0 (B4 ob r)++l) (r::acc)
structure R3 where
 sl:Tri
 ob:List (Nat×B9)
 all:List Oper
 rest:List Oper
 ks:List Bw8
 td:List It
section
variable (P:Program) (N:Nat)
def dEv(sl:Tri)(K rs:List Nat):Operand->V
 | .tmp t=>match D7 t rs with
   |true=>match R6 K (G2 N sl (.tmp t)) with|true=>G2 N sl (.tmp t)|false=> .undef
   |false=> .undef
 |x=>G2 N sl x
def dOb(ob:List (Nat×B9))(K R:List Nat):Nat->Option B9:=T9 K R (B4 ob)
def S9(ob:List (Nat×B9))(K:List Nat):List Nat->Bool
 |[]=>true
 |r::l=>match B4 ob r with
  |some o=>match At5 K o with|true=>S9 ob K l|false=>false
  |none=>S9 ob K l
def gdD(ev:Operand->V)(all:List Oper)(o:Oper):Option Bool:=match o.guard with
 |none=>some true
 |some (j,want)=>match Bj0 all j with
  |some t=>match ev (.tmp t) with
   | .d (.bool b)=>match b,want with|true,true=>some true|false,false=>some true|_,_=>some false
   | .un=>some false
   |_=>none
  |none=>none
def Ft2(o:Oper):Bool:=match o.dst with|none=>true|some d=>Nat.blt d N
def Gg2(o:Oper):List Nat:=match o.dst with
 |some d=>match o.op with| .call _=>[d,Nat.add 1100 d,Nat.add 1300 d,Nat.add 1500 d,Nat.add 1700 d]|_=>[d]
 |none=>[]
def kOf(q:R3)(o:Oper):List Nat:=Fo0 q.ob 64 (Cz9 N q.sl (Dz5 q.all o)) (Gg2 o)
def Gs4(o:Oper):List Nat:=match o.dst with|some d=>[d]|none=>[]
def rOf(q:R3)(o:Oper)(K:List Nat):List Nat:=match o.op with
 | .move _| .assign _| .pick .. | .build .. | .extract .. | .field .. | .makeFunc .. | .box .. =>Gs4 o
 | .store _ x _| .load _ x=>match G2 N q.sl x with| .ptr r _=>r::Gs4 o|_=>K
 | .fieldAddr _ x _| .nilCheck x=>match G2 N q.sl x with| .ptr _ _=>Gs4 o|_=>K
 |_=>K
def Ee5:List Nat->List Nat->Bool
 |[],_=>true
 |x::l,K=>match D7 x K with|true=>Ee5 l K|false=>false
theorem Af4{K:List Nat}:∀{l:List Nat},Ee5 l K=true->∀r,D7 r l=true->D7 r K=true
 |[],_,r,h=>by cases h
 |x::l,hs,r,h=>by
  unfold Ee5 at hs;split at hs
  ·rename_i hx;unfold D7 at h;split at h
   ·rename_i hb;rw[nB_ hb];exact hx
   ·exact Af4 hs r h
  ·cases hs
def P7(all:List Oper)(b:Bw8)(n:Nat):List Bw8->Bool
 |[]=>true
 |a::l=>match Ac0 a b with
  |true=>P7 all b n l
  |false=>match Ew7 all 12 l.length n with|true=>P7 all b n l|false=>false
def Bp7(q:R3):Res:=match q.rest with
 |o::_=>match kOf N q o with
  |K=>match Dz5 q.all o with
   |rs=>match gdD (dEv N q.sl K rs) q.all o,S9 q.ob K (rOf N q o K),Ft2 N o with
    |some true,true,true=>J3 P (dOb q.ob K (rOf N q o K)) (o.dst.getD 0) o.type (dEv N q.sl K rs) o.op
    |_,_,_=> .bad
 |_=> .bad
def dGo(q:R3)(v:V)(wr:Wr):Option R3:=match q.rest with
 |o::rest=>match kOf N q o with
  |K=>match Y4 (rOf N q o K) wr,P7 q.all ⟨Dz5 q.all o,K,rOf N q o K,N9 wr,Dg2 (B4 q.ob) wr,o.dst⟩ q.ks.length q.ks,Ee5 (rOf N q o K) K with
   |true,true,true=>some ⟨Cf9 N q.sl o.dst v,R2 q.ob wr,q.all,rest,⟨Dz5 q.all o,K,rOf N q o K,N9 wr,Dg2 (B4 q.ob) wr,o.dst⟩::q.ks,q.td⟩
   |_,_,_=>none
 |_=>none
def Fh3(q:R3):Option R3:=match q.rest with
 |o::rest=>match gdD (dEv N q.sl [] (Dz5 q.all o)) q.all o,Ft2 N o,P7 q.all ⟨Dz5 q.all o,[],[],[],[],o.dst⟩ q.ks.length q.ks with
  |some false,true,true=>some ⟨Cf9 N q.sl o.dst .un,q.ob,q.all,rest,⟨Dz5 q.all o,[],[],[],[],o.dst⟩::q.ks,q.td⟩
  |_,_,_=>none
 |_=>none
def Gq5(q:R3):Option R3:=match Bp7 P N q with
 | .ok v wr=>dGo N q v wr
 |_=>Fh3 N q
def L3:Nat->R3->R3
 |0,q=>q
 |n+1,q=>match Gq5 P N q with
  |some q'=>L3 n q'
  |none=>q
end
def gOf(N:Nat)(sl:Tri):Nat->V:=fun t=>G2 N sl (.tmp t)
def Gq0:List Dlt->(Nat->V)->(Nat->Option B9)->(Nat->V)->(Nat->Option B9)->Prop
 |[],g,ob,gE,obE=>g=gE/\ob=obE
 |δ::R,g,ob,gE,obE=>App δ g ob/\Gq0 R (Cg0 g δ.dst δ.v) (wrO ob δ.wr) gE obE
def OkD(r:Option Nat)(P:Program)(N:Nat)(ds:List Deferred)(all:List Oper):List Oper->List Dlt->Prop
 |[],[]=>True
 |o::l,δ::Δ=>(DOk r P N ds all o δ/\WOk δ)/\OkD r P N ds all l Δ
 |_,_=>False
def PW(all:List Oper):List Bw8->List Dlt->Prop
 |_,[]=>True
 |ks,δ::Δ=>P7 all (U0 δ) ks.length ks=true/\PW all (U0 δ::ks) Δ
def JD(r:Option Nat)(P:Program)(N:Nat)(ds:List Deferred)(fin:Fin)(q:R3):Prop:=
 N<=1024/\(q.sl.ok 10->∃(Δ:List Dlt) (c:Cfg),c.td=q.td/\c.sl.ok 10/\J r P N ds fin c/\Gq0 Δ (gOf N q.sl) (B4 q.ob) (gOf N c.sl) (B4 c.ob)/\OkD r P N ds q.all q.rest Δ/\PW q.all q.ks Δ)
section
variable {r:Option Nat} {P:Program} {N:Nat} {ds:List Deferred} {fin:Fin} {q:R3}
theorem Fy5(hr:q.rest=[])(hk:J r P N ds fin ⟨q.sl,q.ob,q.td⟩):JD r P N ds fin q:=
 ⟨hk.1,fun hok=>⟨[],⟨q.sl,q.ob,q.td⟩,rfl,hok,hk,⟨rfl,rfl⟩,by rw[hr];trivial,trivial⟩⟩
theorem Fl3{sl:Tri}(hok:sl.ok 10)(hN:N<=1024){d:Option Nat}(hd:∀t,d=some t->Nat.blt t N=true)(v:V):Cg0 (gOf N sl) d v=gOf N (Cf9 N sl d v):=by
 cases d with
 |none=>rfl
 |some d=>
  have hlt:=hd d rfl;funext t;simp only[Cg0,gOf,G2,Cf9,hlt];cases hb:Nat.beq t d with
  |true=>
   obtain rfl:=nB_ hb;simp only[hlt,Tri.get_set_same]
  |false=>
   simp only;split
   ·rename_i ht;have h1:=Ae6 ht;have h2:=Ae6 hlt;rw[Tri.get_set_ne _ _ _ _ _ hok (by omega) (by omega) (fun e=>by subst e;rw[Nat.beq_refl]at hb;cases hb)]
   ·rfl
theorem Fn9{sl:Tri}(hok:sl.ok 10){d:Option Nat}{v:V}:(Cf9 N sl d v).ok 10:=by
 cases d with
 |none=>exact hok
 |some d=>
  simp only[Cf9];split
  ·exact Tri.set_ok _ _ _ _ hok
  ·trivial
theorem Bb4{o:Oper}{rest:List Oper}(hr:q.rest=o::rest)(hd:Ft2 N o=true){rs K R:List Nat}{v:V}{wr:Wr}(hdo:DOk r P N ds q.all o ⟨rs,K,R,gOf N q.sl,B4 q.ob,o.dst,v,wr⟩)(hw:∀x∈N9 wr,D7 x R=true)
 (hp:P7 q.all ⟨rs,K,R,N9 wr,Dg2 (B4 q.ob) wr,o.dst⟩ q.ks.length q.ks=true) (hk:JD r P N ds fin ⟨Cf9 N q.sl o.dst v,R2 q.ob wr,q.all,rest,⟨rs,K,R,N9 wr,Dg2 (B4 q.ob) wr,o.dst⟩::q.ks,q.td⟩):JD r P N ds fin q:=by
 refine⟨hk.1,fun hok=> ?_⟩;obtain⟨Δ,c,h1,h2,h3,h4,h5,h6⟩:=hk.2 (Fn9 hok);refine⟨⟨rs,K,R,gOf N q.sl,B4 q.ob,o.dst,v,wr⟩::Δ,c,h1,h2,h3,⟨⟨fun _ _=>rfl,fun _ _=>rfl,fun _ _=>rfl⟩,?_⟩,by rw[hr];exact⟨⟨hdo,hw⟩,h5⟩,hp,h6⟩;have e:=Fl3 hok hk.1 (d:=o.dst) (fun t ht=>by unfold Ft2 at hd;rw[ht]at hd;exact hd) v;simp only at h4⊢;rw[e,<-W0];exact h4
theorem Cw1{ev:Operand->V}{M:Mem}{ρ:Rho}{f:Nat->Value}{sl:Tri}{K rs:List Nat}(hev:∀t,C0 M ρ (dEv N sl K rs (.tmp t)) ((fr N f ds).eval (.tmp t))){all:List Oper}{o:Oper}{b:Bool}(hg:gdD (dEv N sl K rs) all o=some b):Region.wanted o (yielded all.toArray (fr N f ds).tmps)=b:=by
 obtain⟨d,op,ty,pos,aft,g⟩:=o;cases g with
 |none=>simp only[gdD,Option.some.injEq]at hg;subst hg;rfl
 |some p=>
  obtain⟨j,want⟩:=p;unfold gdD at hg;dsimp only at hg;split at hg
  ·rename_i t ht;have hr:=hev t;have hlt:∀v,dEv N sl K rs (.tmp t)=v->v≠ .undef->Nat.blt t N=true:=fun v hv hne=>by
    simp only[dEv]at hv;split at hv
    ·split at hv
     ·simp only[G2]at hv;split at hv
      ·assumption
      ·exact absurd hv.symm hne
     ·exact absurd hv.symm hne
    ·exact absurd hv.symm hne
   split at hg
   ·rename_i b' hb;have hN:=hlt _ hb (by intro e;cases e);rw[hb]at hr;have he:=Q5 hr;have hft:f t= .bool b':=by rw[<-he,Kx.ev hN rfl]
    rw[Db2 (Ey6 ht hN hft)];cases b'<;>cases want<;>simp at hg⊢<;>first|exact hg|exact hg.symm
   ·rename_i hb;have hN:=hlt _ hb (by intro e;cases e);rw[hb]at hr;simp only[C0]at hr;have hft:f t=undef:=by rw[<-hr,Kx.ev hN rfl]
    cases hg;exact Db3 (Db6 ht hN hft) want
   ·cases hg
  ·cases hg
theorem Dp7{M:Mem}{ρ:Rho}{f:Nat->Value}{g:Nat->V}{sl:Tri}{K rs:List Nat}(h:∀t,t<N->C0 M ρ (g t) (f t))(hg:∀t,D7 t rs=true->g t=gOf N sl t)(hG:Fs4 M)(x:Operand):C0 M (O2 K ρ) (dEv N sl K rs x) ((fr N f ds).eval x):=by
 cases x with
 |tmp t=>
  simp only[dEv];split
  ·rename_i hm;split
   ·rename_i hr;have e:=hg t hm;unfold gOf at e;by_cases ht:t<N
    ·have hb:Nat.blt t N=true:=by simpa[Nat.blt_eq] using ht
     rw[Kx.ev hb rfl];refine Aq0 _ hr ?_;rw[<-e];exact h t ht
    ·have hb:Nat.blt t N=false:=by
      cases hb:Nat.blt t N with
      |true=>exact absurd (Ae6 hb) ht
      |false=>rfl
     simp only[G2,hb];exact C5 _
   ·exact C5 _
  ·exact C5 _
 |const v=>exact Bv2 v
 |func g=>simp only[dEv,G2,C0];exact .fnc g
 |global g=>
  simp only[dEv,G2];split
  ·rename_i cs hgl;obtain⟨us,h1,h2⟩:=hG.d g cs hgl;simp only[C0];exact⟨g,0,us,rfl,h1,h2⟩
  ·exact C5 _
theorem X0{ob:List (Nat×B9)}{K:List Nat}:∀{l:List Nat},S9 ob K l=true->∀r o,D7 r l=true->B4 ob r=some o->At5 K o=true
 |[],_,r,o,h,_=>by cases h
 |x::l,hc,r,o,h,ho=>by
  unfold D7 at h;unfold S9 at hc;split at h
  ·rename_i hb;obtain rfl:=nB_ hb;rw[ho]at hc;simp only at hc;split at hc
   ·assumption
   ·cases hc
  ·split at hc
   ·split at hc
    ·exact X0 hc r o h ho
    ·cases hc
   ·exact X0 hc r o h ho
theorem Y5{R:List Nat}:∀{wr:Wr},Y4 R wr=true->∀x∈N9 wr,D7 x R=true
 |[],_,x,hx=>by cases hx
 |(d,o)::wr,h,x,hx=>by
  unfold Y4 at h;split at h
  ·cases h
  ·rename_i hd _;rcases List.mem_cons.1 hx with rfl|hx
   ·exact hd
   ·exact Y5 h x hx
  ·cases h
theorem dok{o:Oper}{K R rs:List Nat}{v:V}{wr:Wr}(hgd:gdD (dEv N q.sl K rs) q.all o=some true)(hcl:S9 q.ob K R=true)(hsub:Ee5 R K=true)(hd:Ft2 N o=true)(hk:Y4 R wr=true)
 (heff:∀S wl M0 M ρ f w,Ow S wl M0 M ρ (dOb q.ob K R) w->(∀x,C0 M ρ (dEv N q.sl K rs x) ((fr N f ds).eval x))->D6 r P (fr N f ds) o.op S wl M0 M ρ (dOb q.ob K R) w v wr):
 DOk r P N ds q.all o ⟨rs,K,R,gOf N q.sl,B4 q.ob,o.dst,v,wr⟩:=by
 intro S wl M0 M ρ g ob f w ha happ KK Q hK;have hev:=fun x=>Dp7 (N:=N) (ds:=ds) (sl:=q.sl) (K:=K) ha.sl happ.1 ha.ow.gl.ok x
 have hobe:T9 K R ob=dOb q.ob K R:=by
  funext x;unfold dOb T9;split
  ·rename_i hm;split
   ·rename_i hmr;exact happ.2.1 x hmr
   ·have:=happ.2.2 x hm;simp only at this;cases h1:ob x<;>cases h2:B4 q.ob x<;>rw[h1,h2]at this<;>first|rfl|cases this
  ·rfl
 have hcl':=fun x o' (hm:D7 x R=true) (ho:ob x=some o')=>X0 hcl x o' hm ((happ.2.1 x hm).symm.trans ho)
 rw[if_pos (Cw1 (ev:=dEv N q.sl K rs) (fun t=>hev (.tmp t)) hgd)];have hp:=ha.ow.part K R hcl';rw[hobe]at hp;obtain⟨d,op,ty,pos,aft,gg⟩:=o;refine heff _ _ _ _ _ f w hp hev d ty pos aft gg KK Q fun u w' ⟨M',ρ',h1,h2,h3⟩=> ?_
 rw[<-hobe]at h2;obtain⟨h4,h5,h6⟩:=ha.ow.back hcl' (Af4 hsub) (fun x i _ _ hi=>(F1 hi).2) hk h2 h1;rw[At8];refine hK M' (Au1 K ρ ρ') _ w' ⟨h5,fun t ht=> ?_⟩;cases d with
 |none=>exact C0.mono h4 _ (ha.sl t ht)
 |some d=>
  simp only[Cg0];cases hb:Nat.beq t d with
  |true=>
   obtain rfl:=nB_ hb;simp only[Ar0];exact C0.mono h6 _ h3
  |false=>
   simp only;rw[Cf5 _ _ (fun e=>by subst e;rw[Nat.beq_refl]at hb;cases hb)];exact C0.mono h4 _ (ha.sl t ht)
theorem Ei9{o:Oper}{rs:List Nat}(hgd:gdD (dEv N q.sl [] rs) q.all o=some false):DOk r P N ds q.all o ⟨rs,[],[],gOf N q.sl,B4 q.ob,o.dst,.un,[]⟩:=by
 intro S wl M0 M ρ g ob f w ha happ KK Q hK;have hev:=fun x=>Dp7 (N:=N) (ds:=ds) (sl:=q.sl) (K:=[]) ha.sl happ.1 ha.ow.gl.ok x
 have hw:=Cw1 (ev:=dEv N q.sl [] rs) (fun t=>hev (.tmp t)) hgd;rw[if_neg (by rw[hw];simp),At8];refine hK M ρ _ w ⟨ha.ow,fun t ht=> ?_⟩;obtain⟨d,op,ty,pos,aft,gg⟩:=o;cases d with
 |none=>exact ha.sl t ht
 |some d=>
  simp only[Cg0];cases hb:Nat.beq t d with
  |true=>
   obtain rfl:=nB_ hb;simp only[Ar0,C0]
  |false=>
   simp only;rw[Cf5 _ _ (fun e=>by subst e;rw[Nat.beq_refl]at hb;cases hb)];exact ha.sl t ht
theorem Bp8(h:Bp7 P N q≠ .bad):∃o rest,q.rest=o::rest/\gdD (dEv N q.sl (kOf N q o) (Dz5 q.all o)) q.all o=some true/\S9 q.ob (kOf N q o) (rOf N q o (kOf N q o))=true/\Ft2 N o=true/\
 Bp7 P N q=J3 P (dOb q.ob (kOf N q o) (rOf N q o (kOf N q o))) (o.dst.getD 0) o.type (dEv N q.sl (kOf N q o) (Dz5 q.all o)) o.op:=by
 unfold Bp7 at h⊢;split at h
 ·rename_i o rest hr;simp only at h;split at h
  ·rename_i h1 h2 h3;refine⟨o,rest,hr,h1,h2,h3,?_⟩;simp only[h1,h2,h3]
  ·exact absurd rfl h
 ·exact absurd rfl h
theorem Ct7{v:V}{wr:Wr}{q':R3}{o:Oper}{rest:List Oper}(hr:q.rest=o::rest)(h:dGo N q v wr=some q'):Y4 (rOf N q o (kOf N q o)) wr=true/\P7 q.all ⟨Dz5 q.all o,kOf N q o,rOf N q o (kOf N q o),N9 wr,Dg2 (B4 q.ob) wr,o.dst⟩ q.ks.length q.ks=true/\Ee5 (rOf N q o (kOf N q o)) (kOf N q o)=true/\q'=⟨Cf9 N q.sl o.dst v,R2 q.ob wr,q.all,rest,⟨Dz5 q.all o,kOf N q o,rOf N q o (kOf N q o),N9 wr,Dg2 (B4 q.ob) wr,o.dst⟩::q.ks,q.td⟩:=by
 unfold dGo at h;rw[hr]at h;simp only at h;split at h
 ·rename_i h1 h2 h3;cases h;exact⟨h1,h2,h3,rfl⟩
 ·cases h
theorem Dn1{v:V}{wr:Wr}{q':R3}(hb:Bp7 P N q≠ .bad)(hgo:dGo N q v wr=some q')
 (heff:∀(op:Op) (d:Nat) (ty:TypeId) (ob:Nat->Option B9) (ev:Operand->V),Bp7 P N q=J3 P ob d ty ev op->∀S wl M0 M ρ f w,Ow S wl M0 M ρ ob w->(∀x,C0 M ρ (ev x) ((fr N f ds).eval x))->D6 r P (fr N f ds) op S wl M0 M ρ ob w v wr) (hk:JD r P N ds fin q'):JD r P N ds fin q:=by
 obtain⟨o,rest,hr,h1,h2,h3,h4⟩:=Bp8 hb;obtain⟨h5,h6,h7,rfl⟩:=Ct7 hr hgo;exact Bb4 hr h3 (dok h1 h2 h7 h3 h5 (heff o.op _ _ _ _ h4)) (Y5 h5) h6 hk
theorem Fe5{q':R3}(h:Gq5 P N q=some q')(hk:JD r P N ds fin q'):JD r P N ds fin q:=by
 unfold Gq5 at h;have skip:Fh3 N q=some q'->JD r P N ds fin q:=fun h=>by
  unfold Fh3 at h;split at h
  ·rename_i o rest hr;split at h
   ·rename_i h1 h2 h3;cases h;exact Bb4 hr h2 (Ei9 h1) (fun x hx=>by cases hx) h3 hk
   ·cases h
  ·cases h
 split at h
 ·rename_i v wr he;refine Dn1 (by rw[he];intro e;cases e) h (fun op d ty ob ev heq S wl M0 M ρ f w ho hev=> ?_) hk;have:=S4 (r:=r) (P:=P) (a:=fr N f ds) (op:=op) (d:=d) (ty:=ty) ho hev;rw[<-heq,he]at this;exact this
 ·exact skip h
theorem R4:∀(n:Nat) {q:R3},JD r P N ds fin (L3 P N n q)->JD r P N ds fin q
 |0,_,h=>h
 |n+1,q,h=>by
  unfold L3 at h;split at h
  ·rename_i c' hc;exact Fe5 hc (R4 n h)
  ·exact h
def Fh8(P:Program)(N:Nat)(q:R3):Option (Option (List Dat)):=match Bp7 P N q with| .opt1 o _=>some o|_=>none
def Fh9(P:Program)(N:Nat)(q:R3):Option (Option (List (List Dat))):=match Bp7 P N q with| .opt2 o _=>some o|_=>none
def Fh5(N:Nat)(q:R3)(v:V)(wr:Wr):Bool:=match dGo N q v wr with|some _=>true|none=>false
def dgo(N:Nat)(q:R3)(v:V)(wr:Wr):R3:=match dGo N q v wr with|some q'=>q'|none=>q
theorem Bz2{v:V}{wr:Wr}(h:Fh5 N q v wr=true):dGo N q v wr=some (dgo N q v wr):=by
 unfold Fh5 at h;unfold dgo;split at h
 ·rename_i hq;rw[hq]
 ·cases h
def Gs0(P:Program)(N:Nat)(q:R3)(x:List Dat):Bool:=match Bp7 P N q with| .opt1 _ k=>Fh5 N q (k x).1 (k x).2|_=>false
def Fi0(P:Program)(N:Nat)(q:R3)(x:List Dat):R3:=match Bp7 P N q with| .opt1 _ k=>dgo N q (k x).1 (k x).2|_=>q
def Gs1(P:Program)(N:Nat)(q:R3)(x:List (List Dat)):Bool:=match Bp7 P N q with| .opt2 _ k=>Fh5 N q (k x).1 (k x).2|_=>false
def Fi1(P:Program)(N:Nat)(q:R3)(x:List (List Dat)):R3:=match Bp7 P N q with| .opt2 _ k=>dgo N q (k x).1 (k x).2|_=>q
theorem As9{o:Option (List Dat)}(x:List Dat)(ho:Fh8 P N q=some o)(hb:Gs0 P N q x=true)(hx:o=some x)(hk:JD r P N ds fin (Fi0 P N q x)):JD r P N ds fin q:=by
 unfold Fh8 at ho;unfold Gs0 at hb;unfold Fi0 at hk;split at ho
 ·rename_i o' k he;cases ho;rw[he]at hb hk;refine Dn1 (by rw[he];intro e;cases e) (Bz2 hb) (fun op d ty ob ev heq S wl M0 M ρ f w ho hev=> ?_) hk;have:=S4 (r:=r) (P:=P) (a:=fr N f ds) (op:=op) (d:=d) (ty:=ty) ho hev;rw[<-heq,he]at this;exact this x hx
 ·cases ho
theorem Bo6{o:Option (List (List Dat))}(x:List (List Dat))(ho:Fh9 P N q=some o)(hb:Gs1 P N q x=true)(hx:o=some x)(hk:JD r P N ds fin (Fi1 P N q x)):JD r P N ds fin q:=by
 unfold Fh9 at ho;unfold Gs1 at hb;unfold Fi1 at hk;split at ho
 ·rename_i o' k he;cases ho;rw[he]at hb hk;refine Dn1 (by rw[he];intro e;cases e) (Bz2 hb) (fun op d ty ob ev heq S wl M0 M ρ f w ho hev=> ?_) hk;have:=S4 (r:=r) (P:=P) (a:=fr N f ds) (op:=op) (d:=d) (ty:=ty) ho hev;rw[<-heq,he]at this;exact this x hx
 ·cases ho
def V7(N:Nat)(q:R3):Nat->Option B9:=match q.rest with|o::_=>dOb q.ob (kOf N q o) (rOf N q o (kOf N q o))|[]=>fun _=>none
def Ei6(P:Program)(N:Nat)(q:R3):Option (FuncId×List V):=match Bp7 P N q with
 | .call g args=>match N2 (V7 N q) args with
   |some (xs,_)=>some (g,xs)
   |none=>none
 |_=>none
def Gm1(P:Program)(N:Nat)(q:R3)(v:V):Bool:=match Bp7 P N q with
 | .call _ args=>match N2 (V7 N q) args with
   |some (_,wr)=>Fh5 N q v wr
   |none=>false
 |_=>false
def Ej1(P:Program)(N:Nat)(q:R3)(v:V):R3:=match Bp7 P N q with
 | .call _ args=>match N2 (V7 N q) args with
   |some (_,wr)=>dgo N q v wr
   |none=>q
 |_=>q
theorem Eg7{g:FuncId}{xs:List V}(ys:List V)(v:V)(hc:Ei6 P N q=some (g,xs))(hb:Gm1 P N q v=true)(he:A8 P g)(hre:M8 xs ys)(hcall:C3 P g ys v)(hk:JD r P N ds fin (Ej1 P N q v)):JD r P N ds fin q:=by
 unfold Ei6 at hc;unfold Gm1 at hb;unfold Ej1 at hk;split at hc
 ·rename_i g' args hev;split at hc
  ·rename_i xs' wr hargs;cases hc;rw[hev]at hb hk;simp only[hargs]at hb hk;obtain⟨o,rest,hr,h1,h2,h3,h4⟩:=Bp8 (P:=P) (N:=N) (q:=q) (by rw[hev];intro e;cases e);obtain⟨h5,h6,h8,h7⟩:=Ct7 hr (Bz2 hb);rw[h7]at hk;refine Bb4 hr h3 (dok h1 h2 h8 h3 h5 (fun S wl M0 M ρ f w ho hev'=> ?_)) (Y5 h5) h6 hk;have hob:V7 N q=dOb q.ob (kOf N q o) (rOf N q o (kOf N q o)):=by unfold V7;rw[hr]
   rw[hob]at hargs;rw[h4]at hev;obtain⟨vals,h1,h2⟩:=Bp3 (r:=r) (w:=w) hev hev' he;obtain⟨M1,r1,o1,d1⟩:=F5 ho h1 hargs;refine h2 _ _ (hcall M1 w vals o1.sits o1.gla (hre.rel (d1 noR))) ?_
   rintro e w' ⟨u,M2,rfl,hext,hv⟩
   obtain⟨h3,h4⟩:=o1.call hext;exact⟨u,rfl,M2,ρ,r1.trans h3,h4,Cy8 hv⟩
  ·cases hc
 ·cases hc
def Ee2(q:R3)(t:Nat)(v:V):R3:=⟨q.sl.set 10 t v,q.ob,q.all,q.rest,q.ks,q.td⟩
theorem Cr3(t:Nat){b v:Bool}(h:b=v)(hb:G2 N q.sl (.tmp t)= .d (.bool b))(hk:JD r P N ds fin (Ee2 q t (.d (.bool v)))):JD r P N ds fin q:=by
 subst h;have hlt:Nat.blt t N=true:=by
  simp only[G2]at hb;split at hb
  ·assumption
  ·cases hb
 refine⟨hk.1,fun hok=> ?_⟩;obtain⟨Δ,c,h1,h2,h3,h4,h5,h6⟩:=hk.2 (Tri.set_ok _ _ _ _ hok);refine⟨Δ,c,h1,h2,h3,?_,h5,h6⟩;have e:gOf N (Ee2 q t (.d (.bool b))).sl=gOf N q.sl:=by
  funext s;by_cases hs:s=t
  ·subst hs;unfold gOf;rw[hb];simp only[G2,hlt,Ee2,Tri.get_set_same]
  ·unfold gOf;simp only[G2,Ee2];split
   ·rename_i hsN;have h1:=Ae6 hsN;have h2:=Ae6 hlt;have:=hk.1;rw[Tri.get_set_ne _ _ _ _ _ hok (by omega) (by omega) (fun e=>hs e.symm)]
   ·rfl
 rw[e]at h4;exact h4
theorem Fe6(t:Nat){b:Bool}(hb:G2 N q.sl (.tmp t)= .d (.bool b))(ht:b=true->JD r P N ds fin (Ee2 q t (.d (.bool true))))(hf:b=false->JD r P N ds fin (Ee2 q t (.d (.bool false)))):JD r P N ds fin q:=by
 cases b with
 |true=>exact Cr3 t rfl hb (ht rfl)
 |false=>exact Cr3 t rfl hb (hf rfl)
def Cs3(l:List Oper):Nat->List Oper->Bool
 |_,[]=>true
 |j,_::rest=>match Bi4 j (prd l j) with|true=>Cs3 l (j+1) rest|false=>false
def idx:Nat->List Dlt->List (Nat×Dlt)
 |_,[]=>[]
 |i,δ::Δ=>(i,δ)::idx (i+1) Δ
theorem Du1:∀{Δ:List Dlt} {i:Nat} {g:Nat->V} {ob:Nat->Option B9} {gE:Nat->V} {obE:Nat->Option B9},Gq0 Δ g ob gE obE->Er3 (idx i Δ) g ob gE obE
 |[],_,_,_,_,_,h=>h
 |_::_,_,_,_,_,_,h=>⟨h.1,Du1 h.2⟩
theorem Du0:∀{Δ:List Dlt} {i:Nat},(idx i Δ).length=Δ.length
 |[],_=>rfl
 |_::_,_=>by simp only[idx,List.length_cons,Du0]
theorem Br5:∀{Δ:List Dlt} {i:Nat} {x:Nat×Dlt},x∈idx i Δ->i<=x.1/\x.1<i+Δ.length/\Δ[x.1-i]? =some x.2
 |[],_,_,h=>by cases h
 |δ::Δ,i,x,h=>by
  rcases List.mem_cons.1 h with rfl|h
  ·simp
  ·obtain⟨h1,h2,h3⟩:=Br5 h;refine⟨by omega,by simp;omega,?_⟩;obtain⟨k,hk⟩:∃k,x.1=i+1+k:=⟨x.1-(i+1),by omega⟩
   rw[hk]at h3⊢;rw[show i+1+k-(i+1)=k by omega]at h3;rw[show i+1+k-i=k+1 by omega];exact h3
theorem Dt9:∀{Δ:List Dlt} {i j:Nat},i<=j->j<i+Δ.length->∃x∈idx i Δ,x.1=j
 |[],i,j,h1,h2=>by simp at h2;omega
 |δ::Δ,i,j,h1,h2=>by
  rcases Nat.eq_or_lt_of_le h1 with rfl|h1
  ·exact⟨(i,δ),List.mem_cons_self,rfl⟩
  ·obtain⟨x,hx,he⟩:=Dt9 (Δ:=Δ) (i:=i+1) (j:=j) h1 (by simp at h2;omega);exact⟨x,List.mem_cons_of_mem _ hx,he⟩
theorem Bm6:∀{Δ:List Dlt} {i:Nat},(idx i Δ).Pairwise (fun a b=>a.1<b.1)
 |[],_=>List.Pairwise.nil
 |δ::Δ,i=>List.pairwise_cons.2 ⟨fun x hx=>by have:=(Br5 hx).1;simp only;omega,Bm6⟩
theorem Ae8{all:List Oper}{b:Bw8}{n:Nat}{κ:Bw8}{ks:List Bw8}:∀{A:List Bw8},P7 all b n (A++κ::ks)=true->Ac0 κ b=true\/Ew7 all 12 ks.length n=true
 |[],h=>by
  simp only[List.nil_append]at h;unfold P7 at h;split at h
  ·rename_i hi;exact .inl hi
  ·split at h
   ·rename_i ho;exact .inr ho
   ·cases h
 |a::A,h=>by
  simp only[List.cons_append]at h;unfold P7 at h;split at h
  ·exact Ae8 h
  ·split at h
   ·exact Ae8 h
   ·cases h
theorem Er2{all:List Oper}{κ:Bw8}{ks:List Bw8}:∀{Δ:List Dlt} {A:List Bw8},PW all (A++κ::ks) Δ->∀x∈idx (A.length+1+ks.length) Δ,Ew7 all 12 ks.length x.1=true\/Ac0 κ (U0 x.2)=true
 |[],_,_,x,hx=>by cases hx
 |δ::Δ,A,h,x,hx=>by
  rcases List.mem_cons.1 hx with rfl|hx
  ·have:=Ae8 h.1;rw[show(A++κ::ks).length=A.length+1+ks.length by simp;omega]at this;exact this.symm
  ·have:=Er2 (A:=U0 δ::A) (κ:=κ) (ks:=ks) h.2 x (by rw[show(U0 δ::A).length+1+ks.length=A.length+1+ks.length+1 by simp;omega];exact hx);exact this
theorem Dn6{all:List Oper}:∀{Δ:List Dlt} {ks:List Bw8},PW all ks Δ->(idx ks.length Δ).Pairwise (Hb6 all 12)
 |[],_,_=>List.Pairwise.nil
 |δ::Δ,ks,h=>by
  refine List.pairwise_cons.2 ⟨fun x hx=> ?_,Dn6 (ks:=U0 δ::ks) h.2⟩;have:=Er2 (A:=[]) (κ:=U0 δ) (ks:=ks) h.2 x (by rw[show([]:List Bw8).length+1+ks.length=ks.length+1 by simp;omega];exact hx);exact this
theorem Dn5{all:List Oper}:∀{l:List Oper} {Δ:List Dlt},OkD r P N ds all l Δ->l.length=Δ.length/\∀(j:Nat) (δ:Dlt),Δ[j]? =some δ->∃o,Cy2 l j=some o/\DOk r P N ds all o δ/\WOk δ
 |[],[],_=>⟨rfl,fun j δ h=>by cases j<;>cases h⟩
 |o::l,δ::Δ,h=>by
  obtain⟨h1,h2⟩:=Dn5 h.2;refine⟨by simp[h1],fun j δ' hj=> ?_⟩;cases j with
  |zero=>simp at hj;subst hj;exact⟨o,rfl,h.1.1,h.1.2⟩
  |succ j=>simp at hj;exact h2 j δ' hj
 |[],_::_,h=>h.elim
 |_::_,[],h=>h.elim
theorem Bc1{l:List Oper}:∀{rest:List Oper} {j:Nat},Cs3 l j rest=true->∀k,j<=k->k<j+rest.length->∀p∈prd l k,p<k
 |[],j,_,k,h1,h2=>by simp at h2;omega
 |_::rest,j,h,k,h1,h2=>by
  unfold Cs3 at h;split at h
  ·rename_i ha;rcases Nat.eq_or_lt_of_le h1 with rfl|h1
   ·exact Ag1 ha
   ·exact Bc1 h k h1 (by simp at h2;omega)
  ·cases h
def Do2(c:Cfg):Option R3:=match c.td with
 | .code (.region _ ops true)::k=>match Cs3 ops.toList 0 ops.toList with
   |true=>some ⟨c.sl,c.ob,ops.toList,ops.toList,[],k⟩
   |false=>none
 |_=>none
def Du2(c:Cfg):R3:=match Do2 c with|some q=>q|none=>⟨c.sl,c.ob,[],[],[],[]⟩
def Du5(c:Cfg):Bool:=match Do2 c with|some _=>true|none=>false
theorem Fy8{c:Cfg}(hm:P.follows .mixedOrders=true)(hd:Du5 c=true)(hk:JD r P N ds fin (Du2 c)):J r P N ds fin c:=by
 unfold Du5 at hd;unfold Du2 at hk;split at hd
 ·rename_i q hq;rw[hq]at hk;unfold Do2 at hq;split at hq
  ·rename_i id ops k ht;split at hq
   ·rename_i hall;cases hq;refine⟨hk.1,fun S wl M0 hH M ρ f w ha=> ?_⟩;obtain⟨Δ,c',h1,h2,h3,h4,h5,h6⟩:=hk.2 ha.ok;simp only at h1 h4 h5 h6;rw[ht];simp only[Wk,Exit.then];refine Ff5 ?_;obtain⟨hlen,hget⟩:=Dn5 h5;have key:=Ff9 (r:=r) (P:=P) (N:=N) (ds:=ds) (l:=ops.toList) (S:=S) (wl:=wl) (M0:=M0) (gE:=gOf N c'.sl) (obE:=B4 c'.ob) (Q:=Wk r P (fin S wl M0) k) (F:=12)
     (fun j o ho p hp=>Bc1 hall j (Nat.zero_le _) (by have:=Cn6 ho;omega) p hp)
     (fun M ρ f w ha=>by
      rw[<-h1];refine h3.2 S wl M0 hH M ρ f w ⟨ha.ow,h2,fun t ht=> ?_⟩;have:=ha.sl t ht;unfold gOf at this;simp only[G2,show Nat.blt t N=true by simpa[Nat.blt_eq] using ht]at this;exact this)
     ops.size (idx 0 Δ) (Array.replicate ops.size false) M ρ (gOf N c.sl) (B4 c.ob) f w.drew (by rw[Du0,<-hlen];simp) Bm6 (by simp)
     (fun j=>by
      constructor
      ·intro hj;have:j<ops.size:=by
        rcases Nat.lt_or_ge j ops.size with h'|h'
        ·exact h'
        ·simp[h']at hj
       exact Dt9 (Nat.zero_le _) (by rw[<-hlen];simpa using this)
      ·rintro ⟨x,hx,rfl⟩
       have:=(Br5 hx).2.1;rw[<-hlen]at this;simp at this;simp[this])
     (fun x hx=>by
      obtain⟨_,_,h9⟩:=Br5 hx;exact hget _ _ (by simpa using h9))
     (Dn6 (ks:=[]) h6)
     (fun k o _ hl=>by
      exfalso;rcases Nat.lt_or_ge k ops.size with h'|h'
      ·simp[h']at hl
      ·simp[h']at hl)
     ⟨ha.ow.drew,fun t ht=>by
      unfold gOf;simp only[G2,show Nat.blt t N=true by simpa[Nat.blt_eq] using ht];exact ha.sl t ht⟩ (Du1 h4)
    have:=wpIn_region_any (F:=WF r) (n:=0) (id:=id) (ops:=ops) hm key;exact this
   ·cases hq
  ·cases hq
 ·cases hd
end
end
section
def lk:List (Nat×Nat)->Nat->Option Nat
 |[],_=>none
 |(a,b)::l,r=>match Nat.beq r a with|true=>some b|false=>lk l r
def inv:List (Nat×Nat)->List (Nat×Nat)
 |[]=>[]
 |(a,b)::l=>(b,a)::inv l
def H7:List (Nat×Nat)->List Nat
 |[]=>[]
 |(a,_)::l=>a::H7 l
theorem Be2:∀(l:List (Nat×Nat)),inv (inv l)=l
 |[]=>rfl
 |(a,b)::l=>by simp only[inv,Be2 l]
def Fs9(p q:List (Nat×Nat)):List (Nat×Nat)->Bool
 |[]=>true
 |(a,b)::l=>match lk p a,lk q b with
  |some x,some y=>match Nat.beq x b,Nat.beq y a with|true,true=>Fs9 p q l|_,_=>false
  |_,_=>false
def bij(p:List (Nat×Nat)):Bool:=Fs9 p (inv p) p
theorem Cb7:∀{l:List (Nat×Nat)} {r s:Nat},lk l r=some s->(r,s)∈l
 |[],_,_,h=>by cases h
 |(a,b)::l,r,s,h=>by
  simp only[lk]at h;split at h
  ·rename_i hb;cases h;rw[nB_ hb];exact List.mem_cons_self
  ·exact List.mem_cons_of_mem _ (Cb7 h)
theorem Be3:∀{l:List (Nat×Nat)} {r s:Nat},(r,s)∈inv l->(s,r)∈l
 |[],_,_,h=>by cases h
 |(a,b)::l,r,s,h=>by
  rcases List.mem_cons.1 h with e|h
  ·cases e;exact List.mem_cons_self
  ·exact List.mem_cons_of_mem _ (Be3 h)
theorem X9{p q:List (Nat×Nat)}:∀{l:List (Nat×Nat)},Fs9 p q l=true->∀a b,(a,b)∈l->lk p a=some b/\lk q b=some a
 |[],_,a,b,h=>by cases h
 |(x,y)::l,h,a,b,hm=>by
  unfold Fs9 at h;split at h
  ·rename_i u v h1 h2;split at h
   ·rename_i h3 h4;rcases List.mem_cons.1 hm with e|hm
    ·cases e;rw[nB_ h3]at h1;rw[nB_ h4]at h2;exact⟨h1,h2⟩
    ·exact X9 h a b hm
   ·cases h
  ·cases h
theorem Ga8{p:List (Nat×Nat)}(h:bij p=true){a b:Nat}(hl:lk p a=some b):lk (inv p) b=some a:=(X9 h a b (Cb7 hl)).2
theorem Ai3{p:List (Nat×Nat)}(h:bij p=true){a b:Nat}(hl:lk (inv p) b=some a):lk p a=some b:=(X9 h a b (Be3 (Cb7 hl))).1
section
variable (p:List (Nat×Nat))
mutual
def Aw8:V->V
 | .ptr r k=>match lk p r with|some s=> .ptr s k|none=> .undef
 | .suf r g off=>match lk p r with|some s=> .suf s g off|none=> .undef
 | .osl r g off len=>match lk p r with|some s=> .osl s g off len|none=> .undef
 | .ept r g j k=>match lk p r with|some s=> .ept s g j k|none=> .undef
 | .mp r=>match lk p r with|some s=> .mp s|none=> .undef
 | .yl r=>match lk p r with|some s=> .yl s|none=> .undef
 | .fn f a b=> .fn f (Ax7 a) (Ax7 b)
 | .agg cs=> .agg (Ax7 cs)
 | .tup vs=> .tup (Ax7 vs)
 | .d x=> .d x
 | .rp cs k=> .rp cs k
 | .esl n=> .esl n
 | .undef=> .undef
 | .un=> .un
def Ax7:List V->List V
 |[]=>[]
 |v::l=>Aw8 v::Ax7 l
end
def Cy9:B9->B9
 | .box te cs=> .box te (Ax7 p cs)
 | .fzb cs=> .fzb (Ax7 p cs)
 | .tree g e sz shs es h=> .tree g e sz shs es (match h with|none=>none|some (k,cs)=>some (k,Ax7 p cs))
 |o=>o
def Au5(ρ:Rho):Rho:=fun s=>match lk (inv p) s with|some r=>ρ r|none=>none
def X4(ob:Nat->Option B9):Nat->Option B9:=fun s=>match lk (inv p) s with|some r=>(match ob r with|some o=>some (Cy9 p o)|none=>none)|none=>none
end
theorem Af2{p:List (Nat×Nat)}{ρ:Rho}{r s:Nat}(hb:bij p=true)(h:lk p r=some s):Au5 p ρ s=ρ r:=by simp only[Au5,Ga8 hb h]
section
variable {p:List (Nat×Nat)} {M:Mem} {ρ:Rho}
mutual
theorem Bu1(hb:bij p=true):∀(v:V) {u:Value},C0 M ρ v u->C0 M (Au5 p ρ) (Aw8 p v) u
 | .ptr r k,u,hv=>by
   simp only[Aw8];split
   ·rename_i s hs;simp only[C0,Af2 hb hs]at hv⊢;exact hv
   ·exact C5 _
 | .suf r g off,u,hv=>by
   simp only[Aw8];split
   ·rename_i s hs;simp only[C0,Af2 hb hs]at hv⊢;exact hv
   ·exact C5 _
 | .osl r g off len,u,hv=>by
   simp only[Aw8];split
   ·rename_i s hs;simp only[C0,Af2 hb hs]at hv⊢;exact hv
   ·exact C5 _
 | .ept r g j k,u,hv=>by
   simp only[Aw8];split
   ·rename_i s hs;simp only[C0,Af2 hb hs]at hv⊢;exact hv
   ·exact C5 _
 | .mp r,u,hv=>by
   simp only[Aw8];split
   ·rename_i s hs;simp only[C0,Af2 hb hs]at hv⊢;exact hv
   ·exact C5 _
 | .yl r,u,hv=>by
   simp only[Aw8];split
   ·rename_i s hs;simp only[C0,Af2 hb hs]at hv⊢;exact hv
   ·exact C5 _
 | .fn f a b,u,hv=>by
   simp only[Aw8,C0]at hv⊢;obtain⟨fs,cs,e,h1,h2⟩:=hv;exact⟨fs,cs,e,Q0 hb a h1,Q0 hb b h2⟩
 | .agg cs,u,hv=>by simp only[Aw8,C0]at hv⊢;obtain⟨us,e,h1⟩:=hv;exact⟨us,e,Q0 hb cs h1⟩
 | .tup cs,u,hv=>by simp only[Aw8,C0]at hv⊢;obtain⟨us,e,h1⟩:=hv;exact⟨us,e,Q0 hb cs h1⟩
 | .d x,u,hv=>by simp only[Aw8,C0]at hv⊢;exact hv
 | .rp cs k,u,hv=>by simp only[Aw8,C0]at hv⊢;exact hv
 | .esl n,u,hv=>by simp only[Aw8,C0]at hv⊢;exact hv
 | .undef,u,_=>by simp only[Aw8];exact C5 _
 | .un,u,hv=>by simp only[Aw8,C0]at hv⊢;exact hv
theorem Q0(hb:bij p=true):∀(vs:List V) {us:List Value},B5 M ρ vs us->B5 M (Au5 p ρ) (Ax7 p vs) us
 |[],us,hv=>by simp only[Ax7,B5]at hv⊢;exact hv
 |v::l,us,hv=>by
  simp only[Ax7,B5]at hv⊢;obtain⟨u,us',e,h1,h2⟩:=hv;exact⟨u,us',e,Bu1 hb v h1,Q0 hb l h2⟩
end
end
section
variable {s:Nat->Prop} {r0 r1:Rho} {wl w:World} {M0 M:Mem} {ρ:Rho} {ob:Nat->Option B9} {p:List (Nat×Nat)}
def Cb1:B9->Bool
 | .frn _=>true
 |_=>false
theorem En3{o:B9}:Cb1 (Cy9 p o)=Cb1 o:=by cases o<;>rfl
theorem Dy7{i:Inf}{o:B9}:Al9 i (Cy9 p o)=Al9 i o:=by cases o<;>rfl
theorem Bu0{i:Inf}{o:B9}{b:Nat}(h:blk i (Cy9 p o) b):blk i o b:=I3 rfl rfl (by cases o<;>rfl) (by rw[Dy7];exact id) h
theorem Ah0{t:Nat}{o':B9}(h:X4 p ob t=some o'):∃r o,lk (inv p) t=some r/\ob r=some o/\o'=Cy9 p o:=by
 unfold X4 at h;split at h
 ·rename_i r hr;split at h
  ·rename_i o ho;cases h;exact⟨r,o,hr,ho,rfl⟩
  ·cases h
 ·cases h
theorem Ow.ren(h:Ow ⟨s,r0⟩ wl M0 M ρ ob w)(hb:bij p=true)(hnf:∀r o t,lk p r=some t->ob r=some o->Cb1 o=false)(hh:∀t i,Nat.ble 2000 t=true->r1 t=some i->∃i',Au5 p ρ t=some i'/\Ile i i'):Ow ⟨s,r1⟩ wl M0 M (Au5 p ρ) (X4 p ob) w:=by
 refine⟨h.size,h.os,h.tape,h.output,h.old,h.sits,h.le,h.gl,h.new,fun t o' ho=> ?_,fun t i hi=> ?_,fun t t' o o' i i' b h1 h2 h3 h4 l1 l2=> ?_,hh⟩
 ·obtain⟨r,o,h1,h2',rfl⟩:=Ah0 ho;obtain⟨i,hi,hok⟩:=h.own r o h2';refine⟨i,by simp only[Au5,h1];exact hi,?_⟩;cases o with
  |box te cs=>
   obtain⟨h0,hm,us,e,h2,h3,h4⟩:=hok;exact⟨h0,hm,us,e,h2,Q0 hb cs h3,h4⟩
  |tree g e sz shs es hh=>
   obtain⟨a1,a2,a3,a4,a5,a6,a7,a8,a9,a10⟩:=hok;refine⟨a1,a2,a3,a4,a5,a6,a7,a8,a9,fun hp=> ?_⟩;obtain⟨b1,b2,pre,us,sp,b3,b4,b5,b6⟩:=a10 hp;refine⟨b1,b2,pre,us,sp,b3,b4,b5,b6.mono (fun j x u b _ k=> ?_)⟩;unfold Ad6 at k⊢;split at k
   ·exact k
   ·exact⟨fun e=>⟨(k.1 e).1,Q0 hb _ (k.1 e).2.1,(k.1 e).2.2⟩,k.2⟩
  |buf g e sz es=>exact hok
  |fzs g sz es=>exact hok
  |fzb cs=>
   obtain⟨h0,c0,us,h1,hP,h2,h3⟩:=hok;exact⟨h0,c0,us,h1,hP,Q0 hb cs h2,h3⟩
  |mapo kk ag sz es=>exact hok
  |raw b x=>exact hok
  |frn q=>have:=hnf r _ t (Ai3 hb h1) h2';cases this
 ·unfold Au5 at hi;split at hi
  ·rename_i r hr;obtain⟨o,ho⟩:=h.dom r i hi;exact⟨Cy9 p o,by simp only[X4,hr,ho]⟩
  ·cases hi
 ·obtain⟨r,x,a1,a2,rfl⟩:=Ah0 h1;obtain⟨r',x',b1,b2,rfl⟩:=Ah0 h2;simp only[Au5,a1]at h3;simp only[Au5,b1]at h4;obtain rfl:=h.inj r r' x x' i i' b a2 b2 h3 h4 (Bu0 l1) (Bu0 l2);have e1:=Ai3 hb a1;have e2:=Ai3 hb b1;rw[e1]at e2;cases e2;rfl
end
def I0(P:Program)(g:FuncId)(os:List (Nat×B9))(args:List V)(H:List (Nat×B9))(v:V):Prop:=
 ∀s wl M0 M ρ w vals,Ow ⟨s,ρ⟩ wl M0 M ρ (B4 os) w->B5 M ρ args vals->Calls P g vals.toArray w (fun e w'=>∃u M' ρ',e= .returned u/\Ow ⟨s,ρ⟩ wl M0 M' ρ' (B4 H) w'/\C0 M' ρ' v u)
section
variable {r:Option Nat} {P:Program} {N:Nat} {S:N0} {wl w:World} {M0 M:Mem} {ρ:Rho} {ob:Nat->Option B9}
def Gq7(K:List Nat)(ob:Nat->Option B9)(v:V):Option (V×Wr):=match Fo1 v [] with
 |[]=>Dc9 ob v
 |_=>match R6 K v with|true=>some (v,[])|false=>Dc9 ob v
def Dd1(K:List Nat)(ob:Nat->Option B9):List V->Option (List V×Wr)
 |[]=>some ([],[])
 |v::l=>match Gq7 K ob v with
  |some (x,wr)=>match Dd1 K (wrO ob wr) l with
   |some (xs,wr')=>some (x::xs,wr++wr')
   |none=>none
  |none=>none
theorem Dd0(h:Ow S wl M0 M ρ ob w){K:List Nat}{v x:V}{u:Value}{wr:Wr}(hv:C0 M ρ v u)(hd:Gq7 K ob v=some (x,wr)):∃M',Rle M M' ρ ρ/\Ow S wl M0 M' ρ (wrO ob wr) w/\C0 M' ρ x u:=by
 have arg:Dc9 ob v=some (x,wr)->∃M',Rle M M' ρ ρ/\Ow S wl M0 M' ρ (wrO ob wr) w/\C0 M' ρ x u:=fun hd=>by
  obtain⟨M',h1,h2,h3⟩:=F5 (vs:=[v]) (us:=[u]) (xs:=[x]) (wr:=wr) h (by simp only[B5];exact⟨u,[],rfl,hv,rfl⟩) (by simp only[N2,hd,List.append_nil]);have:=h3 ρ;simp only[B5]at this;obtain⟨u',us',e,h4,_⟩:=this;cases e;exact⟨M',h1,h2,h4⟩
 unfold Gq7 at hd;split at hd
 ·exact arg hd
 ·split at hd
  ·cases hd;exact⟨M,Rle.refl _ _,h,hv⟩
  ·exact arg hd
theorem Aa5{K:List Nat}:∀{vs:List V} {ob:Nat->Option B9} {M:Mem} (_h:Ow S wl M0 M ρ ob w) {us:List Value} {xs:List V} {wr:Wr},B5 M ρ vs us->Dd1 K ob vs=some (xs,wr)->∃M',Rle M M' ρ ρ/\Ow S wl M0 M' ρ (wrO ob wr) w/\B5 M' ρ xs us
 |[],ob,M,h,us,xs,wr,hv,hd=>by
  simp only[Dd1,Option.some.injEq,Prod.mk.injEq]at hd;obtain⟨rfl,rfl⟩:=hd;exact⟨M,Rle.refl _ _,h,hv⟩
 |v::vs,ob,M,h,us,xs,wr,hv,hd=>by
  simp only[B5]at hv;obtain⟨u,us',rfl,h1,h2⟩:=hv;unfold Dd1 at hd;split at hd
  ·rename_i x wr1 hx;split at hd
   ·rename_i xs' wr2 hs;cases hd;obtain⟨M1,a1,a2,a3⟩:=Dd0 h h1 hx;obtain⟨M2,b1,b2,b3⟩:=Aa5 a2 (B5.mono a1 _ h2) hs;exact⟨M2,a1.trans b1,by rw[G3];exact b2,by simp only[B5];exact⟨u,us',rfl,C0.mono b1 _ a3,b3⟩⟩
   ·cases hd
  ·cases hd
def Cd1(p:List (Nat×Nat))(ob:Nat->Option B9):List (Nat×Nat)->List (Nat×B9)
 |[]=>[]
 |(a,b)::l=>match ob a with|some o=>(b,Cy9 p o)::Cd1 p ob l|none=>Cd1 p ob l
theorem Cy3{p:List (Nat×Nat)}{ob:Nat->Option B9}:∀{l:List (Nat×Nat)} {t:Nat} {r:Nat},(∀a b,(a,b)∈l->lk p a=some b/\lk (inv p) b=some a)->lk (inv p) t=some r->
 (∀o,B4 (Cd1 p ob l) t=some o->∃x,ob r=some x/\o=Cy9 p x)/\((r,t)∈l->∀x,ob r=some x->B4 (Cd1 p ob l) t=some (Cy9 p x))
 |[],t,r,_,_=>⟨fun o h=>by simp[Cd1,B4]at h,fun h=>by cases h⟩
 |(a,b)::l,t,r,hl,ht=>by
  obtain⟨i1,i2⟩:=Cy3 (l:=l) (ob:=ob) (fun a b h=>hl a b (List.mem_cons_of_mem _ h)) ht;have hab:=hl a b List.mem_cons_self;have hne:Nat.beq t b=true->a=r:=fun h=>by
   obtain rfl:=nB_ h;rw[hab.2]at ht;cases ht;rfl
  constructor
  ·intro o ho;unfold Cd1 at ho;split at ho
   ·rename_i x hx;simp only[B4]at ho;split at ho
    ·rename_i hb;cases ho;obtain rfl:=hne hb;exact⟨x,hx,rfl⟩
    ·exact i1 o ho
   ·exact i1 o ho
  ·intro hm x hx;unfold Cd1;rcases List.mem_cons.1 hm with e|hm
   ·cases e;simp only[hx,B4,Nat.beq_refl]
   ·split
    ·rename_i y hy;simp only[B4];split
     ·rename_i hb;obtain rfl:=hne hb;rw[hx]at hy;cases hy;rfl
     ·exact i2 hm x hx
    ·exact i2 hm x hx
theorem Cd2{p:List (Nat×Nat)}{ob:Nat->Option B9}:∀{l:List (Nat×Nat)} {t:Nat},(∀a,(a,t)∉l)->B4 (Cd1 p ob l) t=none
 |[],_,_=>rfl
 |(a,b)::l,t,h=>by
  have ih:=Cd2 (p:=p) (ob:=ob) (l:=l) (t:=t) (fun a hm=>h a (List.mem_cons_of_mem _ hm));unfold Cd1;split
  ·simp only[B4];split
   ·rename_i hb;obtain rfl:=nB_ hb;exact absurd List.mem_cons_self (h a)
   ·exact ih
  ·exact ih
theorem Cb8:∀{l:List (Nat×Nat)} {a b:Nat},(a,b)∈l->∃c,lk l a=some c
 |(x,y)::l,a,b,h=>by
  simp only[lk];split
  ·exact⟨y,rfl⟩
  ·rename_i hb;rcases List.mem_cons.1 h with e|h
   ·cases e;rw[Nat.beq_refl]at hb;cases hb
   ·exact Cb8 h
theorem Cw5:∀{l:List (Nat×Nat)} {r s:Nat},(r,s)∈l->(s,r)∈inv l
 |(a,b)::l,r,s,h=>by
  rcases List.mem_cons.1 h with e|h
  ·cases e;exact List.mem_cons_self
  ·exact List.mem_cons_of_mem _ (Cw5 h)
theorem Cn7{p:List (Nat×Nat)}(hb:bij p=true)(ob:Nat->Option B9):B4 (Cd1 p ob p)=X4 p ob:=by
 funext t;unfold X4;split
 ·rename_i r hr;obtain⟨i1,i2⟩:=Cy3 (ob:=ob) (X9 hb) hr;split
  ·rename_i o ho;exact i2 (Be3 (Cb7 hr)) o ho
  ·rename_i ho;cases h:B4 (Cd1 p ob p) t with
   |none=>rfl
   |some x=>obtain⟨y,hy,_⟩:=i1 x h;rw[ho]at hy;cases hy
 ·rename_i hr;refine Cd2 fun a hm=> ?_
  obtain⟨c,hc⟩:=Cb8 (Cw5 hm);rw[hr]at hc;cases hc
theorem F2{r:Nat}:∀{l:List (Nat×Nat)},D7 r (H7 l)=true↔∃s,lk l r=some s
 |[]=>by simp[H7,D7,lk]
 |(a,b)::l=>by
  simp only[H7,D7,lk];cases Nat.beq r a with
  |true=>simp
  |false=>exact F2
def Q2(p:List (Nat×Nat))(H:List (Nat×B9)):List (Nat×Nat)->Option Wr
 |[]=>some []
 |(a,b)::l=>match B4 H b,Q2 p H l with|some o,some wr=>(match Cb1 o with|true=>none|false=>some ((a,Cy9 (inv p) o)::wr))|_,_=>none
theorem Al0{p:List (Nat×Nat)}{H:List (Nat×B9)}:∀{l:List (Nat×Nat)} {wr:Wr},Q2 p H l=some wr->N9 wr=H7 l
 |[],wr,h=>by simp only[Q2,Option.some.injEq]at h;subst h;rfl
 |(a,b)::l,wr,h=>by
  unfold Q2 at h;split at h
  ·rename_i o wr' h1 h2;split at h
   ·cases h
   ·cases h;simp only[N9,H7,Al0 h2]
  ·cases h
theorem Cs7{p:List (Nat×Nat)}{H:List (Nat×B9)}:∀{l:List (Nat×Nat)} {wr:Wr},Q2 p H l=some wr->∀a b o,(a,b)∈l->B4 H b=some o->Cb1 o=false
 |[],_,_,a,b,o,hm,_=>by cases hm
 |(x,y)::l,wr,h,a,b,o,hm,ho=>by
  unfold Q2 at h;split at h
  ·rename_i o' wr' h1 h2;split at h
   ·cases h
   ·rename_i hf;rcases List.mem_cons.1 hm with e|hm
    ·cases e;rw[ho]at h1;cases h1;exact hf
    ·exact Cs7 h2 a b o hm ho
  ·cases h
theorem Bl2{p:List (Nat×Nat)}{H:List (Nat×B9)}(ob:Nat->Option B9){r s:Nat}:∀{l:List (Nat×Nat)} {wr:Wr},(∀a b,(a,b)∈l->lk p a=some b)->Q2 p H l=some wr->lk p r=some s->r∈H7 l->wrO ob wr r=(match B4 H s with|some o=>some (Cy9 (inv p) o)|none=>none)
 |[],wr,_,_,_,hm=>by cases hm
 |(a,b)::l,wr,hl,h,hr,hm=>by
  unfold Q2 at h;split at h
  ·rename_i o wr' h1 h2;split at h
   ·cases h
   cases h;simp only[wrO];by_cases hin:r∈H7 l
   ·rw[<-Bl2 (K0 ob a (Cy9 (inv p) o)) (fun a b h=>hl a b (List.mem_cons_of_mem _ h)) h2 hr hin]
   ·rw[P3 (by rw[Al0 h2];exact hin)];rcases List.mem_cons.1 hm with rfl|hm
    ·have:=hl r b List.mem_cons_self;rw[hr]at this;cases this;rw[B7,h1]
    ·exact absurd hm hin
  ·cases h
def Cs1:List (Nat×Nat)->Bool
 |[]=>true
 |(_,b)::l=>match Nat.ble 2000 b with|true=>Cs1 l|false=>false
theorem Bb9:∀{l:List (Nat×Nat)} {r s:Nat},Cs1 l=true->lk l r=some s->Nat.ble 2000 s=true
 |[],_,_,_,h=>by cases h
 |(a,b)::l,r,s,hb,h=>by
  unfold Cs1 at hb;simp only[lk]at h;split at hb
  ·rename_i h1;split at h
   ·cases h;exact h1
   ·exact Bb9 hb h
  ·cases hb
def V2:Wr->Bool
 |[]=>true
 |(_,o)::l=>match Cb1 o with|true=>false|false=>V2 l
theorem Bx8{p:List (Nat×Nat)}{H:List (Nat×B9)}:∀{l:List (Nat×Nat)} {wr:Wr},Q2 p H l=some wr->V2 wr=true
 |[],wr,h=>by simp only[Q2,Option.some.injEq]at h;subst h;rfl
 |(a,b)::l,wr,h=>by
  unfold Q2 at h;split at h
  ·rename_i o wr' h1 h2;split at h
   ·cases h
   ·rename_i hf;cases h;unfold V2;rw[En3,hf];exact Bx8 h2
  ·cases h
theorem Cb4{K:List Nat}:∀{wr:Wr},V2 wr=true->(∀x∈N9 wr,D7 x K=true)->Y4 K wr=true
 |[],_,_=>rfl
 |(d,o)::wr,hn,h=>by
  unfold V2 at hn;unfold Y4;rw[h d List.mem_cons_self];split at hn
  ·cases hn
  ·rename_i hf;cases o<;>first|(cases hf;done)|exact Cb4 hn fun x hx=>h x (List.mem_cons_of_mem _ hx)
def K2(ob:Nat->Option B9)(K:List Nat):List Nat->Bool
 |[]=>true
 |r::l=>match ob r with
  |some o=>match At5 K o with|true=>K2 ob K l|false=>false
  |none=>K2 ob K l
theorem E8{ob:Nat->Option B9}{K:List Nat}:∀{l:List Nat},K2 ob K l=true->∀r o,D7 r l=true->ob r=some o->At5 K o=true
 |[],_,r,o,h,_=>by cases h
 |x::l,hc,r,o,h,ho=>by
  unfold D7 at h;unfold K2 at hc;split at h
  ·rename_i hb;obtain rfl:=nB_ hb;rw[ho]at hc;simp only at hc;split at hc
   ·assumption
   ·cases hc
  ·split at hc
   ·split at hc
    ·exact E8 hc r o h ho
    ·cases hc
   ·exact E8 hc r o h ho
def Ai4(ob:Nat->Option B9)(p:List (Nat×Nat))(args:List V):Option (List (Nat×B9)×List V×Wr):=match Dd1 (H7 p) ob args,bij p,Cs1 p with
 |some (xs,wr),true,true=>match K2 (wrO ob wr) (H7 p) (H7 p) with
  |true=>some (Cd1 p (wrO ob wr) p,Ax7 p xs,wr)
  |false=>none
 |_,_,_=>none
theorem Bc7{a:Act}{w:World}{op:Op}{d:Nat}{ty:TypeId}{ev:Operand->V}{g:FuncId}{args xs ys:List V}{p:List (Nat×Nat)}{os H:List (Nat×B9)}{v:V}{wr bk:Wr}(ho:Ow S wl M0 M ρ ob w)(hev:∀x,C0 M ρ (ev x) (a.eval x))(hc:J3 P ob d ty ev op= .call g args)(he:A8 P g)
 (hh:Ai4 ob p args=some (os,xs,wr)) (hre:M8 xs ys) (hcall:I0 P g os ys H v) (hbk:Q2 p H p=some bk):D6 r P a op S wl M0 M ρ ob w (Aw8 (inv p) v) (wr++bk):=by
 obtain⟨vals,h1,h2⟩:=Bp3 (r:=r) (w:=w) hc hev he;unfold Ai4 at hh;split at hh
 ·rename_i xs0 wr0 hargs hbij hbig;split at hh
  ·rename_i hcl;cases hh;obtain⟨M1,r1,o1,d1⟩:=Aa5 ho h1 hargs;have hp:=o1.part (H7 p) (H7 p) (fun x o hm hx=>E8 hcl x o hm hx);have eR:Au5 p (O2 (H7 p) ρ)=Au5 p ρ:=by
    funext t;unfold Au5;split
    ·rename_i q hq;exact G0 (F2.2 ⟨t,Ai3 hbij hq⟩)
    ·rfl
   have eO:X4 p (T9 (H7 p) (H7 p) (wrO ob wr))=X4 p (wrO ob wr):=by
    funext t;unfold X4;split
    ·rename_i q hq;rw[P6 (F2.2 ⟨t,Ai3 hbij hq⟩) (F2.2 ⟨t,Ai3 hbij hq⟩)]
    ·rfl
   have hq:=hp.ren (r1:=Au5 p ρ) hbij (fun q o t hq ho=>by
    have hm:=F2.2 ⟨t,hq⟩;rw[P6 hm hm]at ho;have:=E8 hcl q o hm ho;cases o<;>first|rfl|cases this) (fun t i _ hi=>⟨i,by rw[eR];exact hi,Ile.refl i⟩)
   rw[eR,eO,<-Cn7 hbij]at hq;refine h2 _ _ (hcall _ _ _ _ _ w vals hq (hre.rel (Q0 hbij _ d1))) ?_
   rintro e w' ⟨u,M2,ρ2,rfl,hE,hv⟩
   have hbi:bij (inv p)=true:=by
    have:∀{l:List (Nat×Nat)},(∀a b,(a,b)∈l->lk (inv p) a=some b/\lk p b=some a)->Fs9 (inv p) p l=true:=fun{l} hl=>by
     induction l with
     |nil=>rfl
     |cons x l ih=>
      obtain⟨a,b⟩:=x;obtain⟨q1,q2⟩:=hl a b List.mem_cons_self;unfold Fs9;simp only[q1,q2,Nat.beq_refl];exact ih fun a b h=>hl a b (List.mem_cons_of_mem _ h)
    unfold bij;rw[Be2];exact this fun a b hm=>by
     obtain⟨q1,q2⟩:=X9 hbij b a (Be3 hm);exact⟨q2,q1⟩
   have hB:=hE.ren (r1:=noR) hbi (fun q o t hq ho=>Cs7 hbk t q o (Be3 (Cb7 hq)) ho) (fun t i _ hi=>by cases hi);have hkeys:∀x,D7 x (H7 p)=true↔x∈N9 bk:=fun x=>by rw[Al0 hbk];exact⟨Y7,Bs9⟩
   have eB:X4 (inv p) (B4 H)=wrO (T9 (H7 p) (H7 p) (wrO ob wr)) bk:=by
    funext x;cases hm:D7 x (H7 p) with
    |true=>
     obtain⟨t,ht⟩:=F2.1 hm;rw[Bl2 _ (fun a b h=>(X9 hbij a b h).1) hbk ht (Y7 hm)];unfold X4;rw[Be2,ht]
    |false=>
     rw[P3 (fun hx=>by rw[(hkeys x).2 hx]at hm;cases hm)];have:lk p x=none:=by
      cases hl:lk p x with
      |none=>rfl
      |some t=>rw[F2.2 ⟨t,hl⟩]at hm;cases hm
     unfold X4 T9;rw[Be2,this,hm]
   rw[eB]at hB;have hR:Rle M1 M2 (O2 (H7 p) ρ) (Au5 (inv p) ρ2):=⟨hE.le,fun x i hi=>by
    obtain⟨hm,hi⟩:=F1 hi;obtain⟨t,ht⟩:=F2.1 hm;obtain⟨i',h3,h4⟩:=hE.held t i (Bb9 hbig ht) (by show Au5 p ρ t=some i;rw[Af2 hbij ht];exact hi);refine⟨i',?_,h4⟩;unfold Au5;rw[Be2,ht];exact h3⟩
   obtain⟨b1,b2,b3⟩:=o1.back (fun x o hm hx=>E8 hcl x o hm hx) (fun _ h=>h) (fun _ _ h h'=>by rw[h]at h';cases h') (Cb4 (Bx8 hbk) fun x hx=>(hkeys x).2 hx) hB hR;exact⟨u,rfl,M2,_,r1.trans b1,by rw[G3];exact b2,C0.mono b3 _ (Bu1 hbi _ hv)⟩
  ·cases hh
 ·cases hh
end
section
variable {r:Option Nat} {P:Program} {N:Nat} {ds:List Deferred} {fin:Fin} {c:Cfg} {q:R3}
def Ck0(P:Program)(N:Nat)(c:Cfg)(p:List (Nat×Nat)):Option (FuncId×List (Nat×B9)×List V):=match Ah2 P N c with
 | .call g args=>match Ai4 (B4 c.ob) p args with
   |some (os,xs,_)=>some (g,os,xs)
   |none=>none
 |_=>none
def okR(P:Program)(N:Nat)(c:Cfg)(p:List (Nat×Nat))(H:List (Nat×B9)):Bool:=match Ah2 P N c,Q2 p H p with
 | .call _ _,some _=>true
 |_,_=>false
def Gz4(P:Program)(N:Nat)(c:Cfg)(p:List (Nat×Nat))(H:List (Nat×B9))(v:V):Cfg:=match Ah2 P N c with
 | .call _ args=>match Ai4 (B4 c.ob) p args,Q2 p H p with
   |some (_,_,wr),some bk=>after N c (Aw8 (inv p) v) (wr++bk)
   |_,_=>c
 |_=>c
theorem Fe8{g:FuncId}{os:List (Nat×B9)}{xs:List V}(p:List (Nat×Nat))(ys:List V)(H:List (Nat×B9))(v:V)(hc:Ck0 P N c p=some (g,os,xs))(hb:okR P N c p H=true)(he:A8 P g)(hre:M8 xs ys)(hcall:I0 P g os ys H v)(hk:J r P N ds fin (Gz4 P N c p H v)):J r P N ds fin c:=by
 unfold Ck0 at hc;split at hc
 ·rename_i g' args hev;split at hc
  ·rename_i os' xs' wr hh;cases hc;unfold okR at hb;rw[hev]at hb;split at hb
   ·rename_i bk _ hbk;obtain⟨op,all,rest,k',ht,hg⟩:=Ao5 (P:=P) (N:=N) (c:=c) (by rw[hev];intro e;cases e);unfold Gz4 at hk;rw[hev]at hk;simp only[hh,hbk,Ag0 ht]at hk;refine Dc5 ht hg (fun S wl M0 M ρ f w ha=> ?_) hk;rw[Ad9 ht hg]at hev;exact Bc7 ha.ow (F6 (ds:=ds) ha) hev he hh hre hcall hbk
   ·cases hb
  ·cases hc
 ·cases hc
def Bl8(P:Program)(N:Nat)(q:R3)(p:List (Nat×Nat)):Option (FuncId×List (Nat×B9)×List V):=match Bp7 P N q with
 | .call g args=>match Ai4 (V7 N q) p args with
   |some (os,xs,_)=>some (g,os,xs)
   |none=>none
 |_=>none
def Gs2(P:Program)(N:Nat)(q:R3)(p:List (Nat×Nat))(H:List (Nat×B9))(v:V):Bool:=match Bp7 P N q with
 | .call _ args=>match Ai4 (V7 N q) p args,Q2 p H p with
   |some (_,_,wr),some bk=>Fh5 N q (Aw8 (inv p) v) (wr++bk)
   |_,_=>false
 |_=>false
def Fi2(P:Program)(N:Nat)(q:R3)(p:List (Nat×Nat))(H:List (Nat×B9))(v:V):R3:=match Bp7 P N q with
 | .call _ args=>match Ai4 (V7 N q) p args,Q2 p H p with
   |some (_,_,wr),some bk=>dgo N q (Aw8 (inv p) v) (wr++bk)
   |_,_=>q
 |_=>q
theorem Eg8{g:FuncId}{os:List (Nat×B9)}{xs:List V}(p:List (Nat×Nat))(ys:List V)(H:List (Nat×B9))(v:V)(hc:Bl8 P N q p=some (g,os,xs))(hb:Gs2 P N q p H v=true)(he:A8 P g)(hre:M8 xs ys)(hcall:I0 P g os ys H v)(hk:JD r P N ds fin (Fi2 P N q p H v)):JD r P N ds fin q:=by
 unfold Bl8 at hc;split at hc
 ·rename_i g' args hev;split at hc
  ·rename_i os' xs' wr hh;cases hc;unfold Gs2 at hb;unfold Fi2 at hk;rw[hev]at hb hk;simp only[hh]at hb hk;split at hb
   ·rename_i os2 xs2 wr2 bk hh2 hbk;cases hh2;simp only[hbk]at hk;obtain⟨o,rest,hr,h1,h2,h3,h4⟩:=Bp8 (P:=P) (N:=N) (q:=q) (by rw[hev];intro e;cases e);obtain⟨h5,h6,h8,h7⟩:=Ct7 hr (Bz2 hb);rw[h7]at hk;refine Bb4 hr h3 (dok h1 h2 h8 h3 h5 (fun S wl M0 M ρ f w ho hev'=> ?_)) (Y5 h5) h6 hk;have hob:V7 N q=dOb q.ob (kOf N q o) (rOf N q o (kOf N q o)):=by unfold V7;rw[hr]
    rw[hob]at hh;rw[h4]at hev;exact Bc7 ho hev' hev he hh hre hcall hbk
   ·cases hb
  ·cases hc
 ·cases hc
def De0(same:List Nat):Wr->Wr
 |[]=>[]
 |(a,o)::l=>match D7 a same with|true=>De0 same l|false=>(a,o)::De0 same l
def Gf5(same:List Nat):(Nat->Option B9)->Wr->List (Option B9)
 |_,[]=>[]
 |ob,(a,o)::l=>match D7 a same with|true=>ob a::Gf5 same ob l|false=>Gf5 same (K0 ob a o) l
def Gi0(same:List Nat):Wr->List (Option B9)
 |[]=>[]
 |(a,o)::l=>match D7 a same with|true=>some o::Gi0 same l|false=>Gi0 same l
theorem Bq1{same:List Nat}:∀{bk:Wr} {ob:Nat->Option B9},Gf5 same ob bk=Gi0 same bk->wrO ob bk=wrO ob (De0 same bk)
 |[],_,_=>rfl
 |(a,o)::l,ob,h=>by
  unfold Gf5 Gi0 at h;unfold De0;split at h
  ·injection h with h1 h2
   rw[<-Bq1 h2];simp only[wrO];congr 1;funext x;by_cases e:x=a
   ·subst e;rw[B7,h1]
   ·rw[C8 _ _ e]
  ·simp only[wrO];exact Bq1 h
def dbk(P:Program)(N:Nat)(q:R3)(p:List (Nat×Nat))(H:List (Nat×B9)):Option (Wr×Wr):=match Bp7 P N q with
 | .call _ args=>match Ai4 (V7 N q) p args,Q2 p H p with
   |some (_,_,wr),some bk=>some (wr,bk)
   |_,_=>none
 |_=>none
def Gy2(P:Program)(N:Nat)(q:R3)(p:List (Nat×Nat))(H:List (Nat×B9))(same:List Nat):List (Option B9):=match dbk P N q p H with
 |some (wr,bk)=>Gf5 same (wrO (V7 N q) wr) bk
 |none=>[none]
def Gz6(P:Program)(N:Nat)(q:R3)(p:List (Nat×Nat))(H:List (Nat×B9))(same:List Nat):List (Option B9):=match dbk P N q p H with
 |some (_,bk)=>Gi0 same bk
 |none=>[]
def Gs3(P:Program)(N:Nat)(q:R3)(p:List (Nat×Nat))(H:List (Nat×B9))(v:V)(same:List Nat):Bool:=match dbk P N q p H with
 |some (wr,bk)=>Fh5 N q (Aw8 (inv p) v) (wr++De0 same bk)
 |none=>false
def Fi3(P:Program)(N:Nat)(q:R3)(p:List (Nat×Nat))(H:List (Nat×B9))(v:V)(same:List Nat):R3:=match dbk P N q p H with
 |some (wr,bk)=>dgo N q (Aw8 (inv p) v) (wr++De0 same bk)
 |none=>q
theorem Eg9{g:FuncId}{os:List (Nat×B9)}{xs:List V}(p:List (Nat×Nat))(same:List Nat)(H:List (Nat×B9))(v:V)(hc:Bl8 P N q p=some (g,os,xs))(hb:Gs3 P N q p H v same=true)(hs:Gy2 P N q p H same=Gz6 P N q p H same)(he:A8 P g)(hcall:I0 P g os xs H v)(hk:JD r P N ds fin (Fi3 P N q p H v same)):JD r P N ds fin q:=by
 unfold Bl8 at hc;split at hc
 ·rename_i g' args hev;split at hc
  ·rename_i os' xs' wr hh;cases hc;unfold Gy2 Gz6 dbk at hs;unfold Gs3 dbk at hb;unfold Fi3 dbk at hk;rw[hev]at hb hk hs;simp only[hh]at hb hk hs;split at hb
   ·rename_i wr2 bk hbk;split at hbk
    ·rename_i os2 xs2 wr3 bk2 hh2 hbk2;cases hh2;cases hbk;simp only[hbk2]at hk hs;obtain⟨o,rest,hr,h1,h2,h3,h4⟩:=Bp8 (P:=P) (N:=N) (q:=q) (by rw[hev];intro e;cases e);obtain⟨h5,h6,h8,h7⟩:=Ct7 hr (Bz2 hb);rw[h7]at hk;refine Bb4 hr h3 (dok h1 h2 h8 h3 h5 (fun S wl M0 M ρ f w ho hev'=> ?_)) (Y5 h5) h6 hk;have hob:V7 N q=dOb q.ob (kOf N q o) (rOf N q o (kOf N q o)):=by unfold V7;rw[hr]
     rw[hob]at hh hs;rw[h4]at hev;have:=Bc7 (r:=r) ho hev' hev he hh (M8.refl _) hcall hbk2;unfold D6 at this⊢;rw[G3]at this⊢;rw[<-Bq1 hs];exact this
    ·cases hbk
   ·cases hb
  ·cases hc
 ·cases hc
def L7:List (Nat×B9)->List (Nat×B9)
 |[]=>[]
 |(r,o)::l=>match Nat.ble 2000 r with|true=>(r,o)::L7 l|false=>L7 l
theorem Ae3:∀(l:List (Nat×B9)) (r:Nat),B4 (L7 l) r=match Nat.ble 2000 r with|true=>B4 l r|false=>none
 |[],r=>by simp only[L7,B4];split<;>rfl
 |(q,o)::l,r=>by
  have ih:=Ae3 l r;unfold L7;split
  ·rename_i hq;simp only[B4];cases hb:Nat.beq r q with
   |true=>
    obtain rfl:=nB_ hb;simp only[hq]
   |false=>exact ih
  ·rename_i hq;rw[ih];cases hr:Nat.ble 2000 r with
   |false=>rfl
   |true=>
    simp only[B4];cases hb:Nat.beq r q with
    |true=>
     obtain rfl:=nB_ hb;rw[hr]at hq;cases hq
    |false=>rfl
def G1:List (Nat×B9)->List Nat
 |[]=>[]
 |(r,_)::l=>r::G1 l
theorem I6:∀{l:List (Nat×B9)} {r:Nat},D7 r (G1 l)=true↔∃o,B4 l r=some o
 |[],r=>by simp[G1,D7,B4]
 |(q,o)::l,r=>by
  simp only[G1,D7,B4];cases Nat.beq r q with
  |true=>simp
  |false=>exact I6
theorem Ow.onlyH{S:N0}{wl w:World}{M0 M:Mem}{ρ:Rho}{l:List (Nat×B9)}(h:Ow S wl M0 M ρ (B4 l) w)(hc:K2 (B4 l) (G1 (L7 l)) (G1 (L7 l))=true):Ow S wl M0 M (O2 (G1 (L7 l)) ρ) (B4 (L7 l)) w:=by
 have e:B4 (L7 l)=T9 (G1 (L7 l)) (G1 (L7 l)) (B4 l):=by
  funext r;cases hm:D7 r (G1 (L7 l)) with
  |true=>
   rw[P6 hm hm];obtain⟨o,ho⟩:=I6.1 hm;rw[ho];rw[Ae3]at ho;split at ho
   ·exact ho.symm
   ·cases ho
  |false=>
   simp only[T9,hm];cases ho:B4 (L7 l) r with
   |none=>rfl
   |some o=>rw[I6.2 ⟨o,ho⟩]at hm;cases hm
 rw[e];refine⟨h.size,h.os,h.tape,h.output,h.old,h.sits,h.le,h.gl,h.new,fun r o hr=> ?_,fun r i hi=> ?_,fun r r' o o' i i' b h1 h2 h3 h4 l1 l2=>h.inj r r' o o' i i' b (Ag7 h1 l1).2 (Ag7 h2 l2).2 (F1 h3).2 (F1 h4).2 l1 l2,fun r i hb hi=> ?_⟩
 ·obtain⟨hm,⟨_,ho⟩|⟨hn,_⟩⟩:=Ag8 hr
  rotate_left
  ·rw[hm]at hn;cases hn
  obtain⟨i,hi,hok⟩:=h.own r o ho;refine⟨i,by rw[G0 hm];exact hi,?_⟩;have hcl:=E8 hc r o hm ho;cases o with
  |box te cs=>
   obtain⟨h0,h1,us,e,h2,h3,h4⟩:=hok;exact⟨h0,h1,us,e,h2,I7 cs hcl h3,h4⟩
  |tree g e sz shs es hh=>exact M6.tree hok (fun b hb=>(E2 hok hb).1) (fun k cs e us hus=>by subst e;exact I7 cs hcl hus)
  |buf g e sz es=>exact hok
  |fzs g sz es=>exact hok
  |fzb cs=>
   obtain⟨h0,c0,us,h1,hP,h2,h3⟩:=hok;exact⟨h0,c0,us,h1,hP,I7 cs hcl h2,h3⟩
  |mapo kk ag sz es=>exact hok
  |raw b x=>exact hok
  |frn q=>cases hcl
 ·obtain⟨hm,hi⟩:=F1 hi;obtain⟨o,ho⟩:=h.dom r i hi;exact⟨o,by rw[P6 hm hm];exact ho⟩
 ·obtain⟨i',h1,h2⟩:=h.held r i hb hi;obtain⟨o,ho⟩:=h.dom r i' h1;have hm:D7 r (G1 (L7 l))=true:=I6.2 ⟨o,by rw[Ae3,hb];exact ho⟩;exact⟨i',by rw[G0 hm];exact h1,h2⟩
def Cf8(P:Program)(fn:Func)(H:List (Nat×B9))(v:V):Fin:= .mk (fun _ _ _=>True) fun S wl M0 e a w=>bodyPost P fn (fun e w'=>∃u M' ρ',e= .returned u/\Ow S wl M0 M' ρ' (B4 H) w'/\C0 M' ρ' v u) e a w
def Cd8(P:Program)(N:Nat)(c:Cfg)(rs:List ResultVar):Option (List V×List (Nat×B9)):=match Bi5 c with
 |true=>match Dz1 P N c rs with
  |some vs=>match N2 (B4 c.ob) vs with
   |some (xs,wr)=>match K2 (B4 (R2 c.ob wr)) (G1 (L7 (R2 c.ob wr))) (G1 (L7 (R2 c.ob wr))) with
    |true=>some (xs,L7 (R2 c.ob wr))
    |false=>none
   |none=>none
  |none=>none
 |false=>none
theorem Fz1{fn:Func}{v:V}{rs:List ResultVar}{xs:List V}{H:List (Nat×B9)}(ys:List V)(hfn:fn.results=rs.toArray)(hN:Nat.ble N 1024=true)(hv:Cd8 P N c rs=some (xs,H))(hre:M8 xs ys)(he:Di3 ys=v):J r P N [] (Cf8 P fn H v) c:=by
 refine⟨H3 hN,fun S wl M0 hH M ρ f w h=> ?_⟩;unfold Cd8 at hv;split at hv
 ·rename_i hat;split at hv
  ·rename_i vs hvs;split at hv
   ·rename_i xs' wr hx;split at hv
    ·rename_i hcl;cases hv;obtain⟨us,h1,h2⟩:=Am1 h hvs;obtain⟨M',r1,o1,d1⟩:=F5 h.ow h2 hx;rw[<-W0]at o1;have o2:=o1.onlyH hcl;have key:bodyPost P fn (fun e w'=>∃u M' ρ',e= .returned u/\Ow S wl M0 M' ρ' (B4 (L7 (R2 c.ob wr))) w'/\C0 M' ρ' v u) .ret (fr N f []) w:=
      ⟨rfl,Da6 us,P1 hfn h1,Da6 us,M',_,rfl,o2,by rw[<-he];exact Aq9 (hre.rel (d1 _))⟩
     unfold Bi5 at hat;split at hat
     ·rename_i ht;rw[ht];exact Cj0 (Ab7 _ hat key)
     ·rename_i ht;rw[ht];exact key
     ·cases hat
    ·cases hv
   ·cases hv
  ·cases hv
 ·cases hv
def Dz0(P:Program)(N:Nat)(c:Cfg)(rs:List ResultVar):Option (List V×List (Nat×B9)):=match Bi5 c with
 |true=>match Dz1 P N c rs with
  |some vs=>match Dd1 (G1 (L7 c.ob)) (B4 c.ob) vs with
   |some (xs,wr)=>match K2 (B4 (R2 c.ob wr)) (G1 (L7 (R2 c.ob wr))) (G1 (L7 (R2 c.ob wr))),U4 (G1 (L7 (R2 c.ob wr))) xs with
    |true,true=>some (xs,L7 (R2 c.ob wr))
    |_,_=>none
   |none=>none
  |none=>none
 |false=>none
theorem Ci6{fn:Func}{v:V}{rs:List ResultVar}{xs:List V}{H:List (Nat×B9)}(ys:List V)(hfn:fn.results=rs.toArray)(hN:Nat.ble N 1024=true)(hv:Dz0 P N c rs=some (xs,H))(hre:M8 xs ys)(he:Di3 ys=v):J r P N [] (Cf8 P fn H v) c:=by
 refine⟨H3 hN,fun S wl M0 hH M ρ f w h=> ?_⟩;unfold Dz0 at hv;split at hv
 ·rename_i hat;split at hv
  ·rename_i vs hvs;split at hv
   ·rename_i xs' wr hx;split at hv
    ·rename_i hcl hrf;cases hv;obtain⟨us,h1,h2⟩:=Am1 h hvs;obtain⟨M',r1,o1,d1⟩:=Aa5 h.ow h2 hx;rw[<-W0]at o1;have o2:=o1.onlyH hcl;have key:bodyPost P fn (fun e w'=>∃u M' ρ',e= .returned u/\Ow S wl M0 M' ρ' (B4 (L7 (R2 c.ob wr))) w'/\C0 M' ρ' v u) .ret (fr N f []) w:=
      ⟨rfl,Da6 us,P1 hfn h1,Da6 us,M',_,rfl,o2,by rw[<-he];exact Aq9 (hre.rel (I7 _ hrf d1))⟩
     unfold Bi5 at hat;split at hat
     ·rename_i ht;rw[ht];exact Cj0 (Ab7 _ hat key)
     ·rename_i ht;rw[ht];exact key
     ·cases hat
    ·cases hv
   ·cases hv
  ·cases hv
 ·cases hv
theorem Eh9{g:FuncId}{fn:Func}{b:Code}{os H:List (Nat×B9)}{args:List V}{v:V}(hf:P.funcs[g]? =some fn)(hb:fn.body=some b)(hN:fn.ntmps=N)(hv:Nat.ble args.length N=true)(h:J none P N [] (Cf8 P fn H v) ⟨mkT (Dh8 0 args),os,[.code b]⟩):I0 P g os args H v:=by
 intro s wl M0 M ρ w vals ho hr;have hl:=H3 hv;refine entry hf hb hN (by rw[hr.len];exact hl) ?_;refine Bl1 (h.2 ⟨s,ρ⟩ wl M0 trivial M ρ (Bv6 vals) w ⟨ho,Ai6 _,Ab1 h.1 _ (fun t v hm=> ?_)⟩) (fun e a w hq=>hq);obtain⟨_,h2⟩:=Aa4 hm;rw[Nat.sub_zero]at h2;obtain⟨u,h3,h4⟩:=hr.get h2;exact⟨Nat.lt_of_lt_of_le (List.getElem?_eq_some_iff.1 h2).1 hl,by unfold Bv6;rw[h3];exact h4⟩
end
end
section
section
variable {r:Option Nat} {P:Program} {N:Nat} {ds:List Deferred} {fin:Fin} {c:Cfg} {q:R3}
end
section
variable {κ β:Type} [DecidableEq κ]
def Fm5:List (κ×β)->κ->Bool
 |[],_=>false
 |x::l,k=>bif decide (x.1=k) then true else Fm5 l k
def pe(ke:κ->Dat)(ve:β->List Dat)(x:κ×β):Dat×List Dat:=(ke x.1,ve x.2)
variable {ke:κ->Dat} {ve:β->List Dat}
theorem hsm(hk:∀a b,Dd9 (ke a) (ke b)=decide (a=b)):∀(l:List (κ×β)) (k:κ),Ee0 (l.map (pe ke ve)) (ke k)=Fm5 l k
 |[],_=>rfl
 |x::l,k=>by
  simp only[List.map_cons,Ee0,Fm5,pe,hk];cases decide (x.1=k) with
  |true=>rfl
  |false=>simp only[cond_false];exact hsm hk l k
end
end
section
structure Bk8(T:Nat->Prop)(M:Mem)(w:World)(T':Nat->Prop)(M':Mem)(w':World):Prop where
 size:w.heap.size<=w'.heap.size
 os:w'.os=w.os
 tape:w'.tape=w.tape
 output:w'.output=w.output
 old:∀k,k<w.heap.size->¬T k->w'.heap[k]? =w.heap[k]?
 le:M.le M'
 sits:Ai2 M' w'
 new:∀b c,M' b=some c->b<w.heap.size->M b=some c\/T b
 grow:∀b,T' b->T b\/w.heap.size<=b
 own:∀b,T' b->b<w'.heap.size
section
variable {S:N0} {wl w w':World} {M0 M M':Mem} {ρ:Rho} {ob:Nat->Option B9}
def TA(ρ:Rho)(ob:Nat->Option B9):Nat->Prop:=fun b=>∃r i o,ρ r=some i/\ob r=some o/\blk i o b
theorem N1(h:Ow S wl M0 M ρ ob w){b:Nat}(hb:TA ρ ob b):(S b\/wl.heap.size<=b)/\b<w.heap.size:=by
 obtain⟨r,i,o,h2,h3,h4⟩:=hb;obtain⟨i',h5,h6⟩:=h.own r o h3;rw[h2]at h5;cases h5;exact E2 h6 h4
theorem Ow.step(h:Ow S wl M0 M ρ ob w):Bk8 S.s M0 wl (TA ρ ob) M w:=
 ⟨h.size,h.os,h.tape,h.output,h.old,h.le,h.sits,h.new,fun _ hb=>(N1 h hb).1,fun _ hb=>(N1 h hb).2⟩
theorem Ow.it{T T':Nat->Prop}{M':Mem}{w':World}(h:Ow S wl M0 M ρ ob w)(k:Bk8 T M w T' M' w')(hT:∀b,T b->¬TA ρ ob b/\(S b\/wl.heap.size<=b)):
 Ow S wl M0 M' ρ ob w'/\∀b,T' b->¬TA ρ ob b/\(S b\/wl.heap.size<=b):=by
 have hr:Rle M M' ρ ρ:=⟨k.le,fun _ j hj=>⟨j,hj,Ile.refl j⟩⟩
 refine⟨⟨Nat.le_trans h.size k.size,k.os.trans h.os,k.tape.trans h.tape,k.output.trans h.output,fun b hb hS=> ?_,k.sits,Mem.le_trans h.le k.le,h.gl.mono k.le,fun b c hb hlt=> ?_,fun q o hq=> ?_,h.dom,h.inj,h.held⟩,fun b hb=> ?_⟩
 ·rw[k.old b (by have:=h.size;omega) (fun ht=>(hT b ht).2.elim hS (fun hl=>by omega))];exact h.old b hb hS
 ·rcases k.new b c hb (by have:=h.size;omega) with h1|h1
  ·exact h.new b c h1 hlt
  ·exact(hT b h1).2.elim .inr (fun hl=>by omega)
 ·obtain⟨i,h1,h2⟩:=h.own q o hq;have hTA:∀b,blk i o b->TA ρ ob b:=fun b hl=>⟨q,i,o,h1,hq,hl⟩
  refine⟨i,h1,h2.mono hr (fun y hl=> ?_) (fun y hl=>k.old _ (E2 h2 hl).2 (fun ht=>(hT _ ht).1 (hTA y hl)))⟩;cases hm:M' y with
  |none=>
   cases hm0:M y with
   |none=>rfl
   |some c=>obtain⟨c',h3,_⟩:=k.le _ _ hm0;rw[hm]at h3;cases h3
  |some c=>
   rcases k.new _ _ hm (E2 h2 hl).2 with h3|h3
   ·exact h3.symm
   ·exact absurd (hTA y hl) (hT _ h3).1
 ·rcases k.grow b hb with h1|h1
  ·exact hT b h1
  ·refine⟨fun hta=> ?_,.inr (Nat.le_trans h.size h1)⟩;have:=(N1 h hta).2;omega
end
def Go0(e:Ending):Prop:=∃t u,e= .panicked [{v:= .iface t u,recovered:=false}]
def Hb5(wl:World)(M0:Mem):Ending->World->Prop:=fun e w'=>Go0 e/\∃M',Ext M0 M' wl w'
def Go6(P:Program)(g:FuncId)(args:List V):Prop:=∀M w vals,Ai2 M w->GlA M w->B5 M noR args vals->Calls P g vals.toArray w (Hb5 w M)
def Go5(P:Program)(g:FuncId)(args:List V):Option V->Prop
 |some v=>C3 P g args v
 |none=>Go6 P g args
section
variable {r:Option Nat} {P:Program} {N:Nat} {ds:List Deferred} {fin:Fin} {c:Cfg}
theorem Av8{fin':Exit->Act->World->Prop}{a:Act}{w:World}{ch:List PanicEntry}:∀(k:List It),Bf7 k=true->fin' (.panic ch) a w->Wk r P fin' k (.panic ch) a w
 |[],_,h=>h
 | .begR _::_,hn,_=>by cases hn
 | .code _::k,hn,h=>by simp only[Wk,Exit.then];exact Av8 k hn h
 | .inBlock _::k,hn,h=>by simp only[Wk,Exit.inBlock];exact Av8 k hn h
 | .inLoop _::k,hn,h=>by simp only[Wk,Exit.then];exact Av8 k hn h
 | .inScope _::k,hn,h=>by simp only[Wk,Bj2];exact Av8 k hn h
 | .ops _ _::k,hn,h=>by simp only[Wk,Exit.then];exact Av8 k hn h
def JP(N:Nat)(ds:List Deferred)(fin:Fin)(sl:Tri)(ob:List (Nat×B9)):Prop:=
 ∀S wl M0,fin.H S wl M0->∀r1 M ρ w f t u,(∀q i,S.r0 q=some i->(∃o,B4 ob q=some o)->r1 q=some i)->Ow ⟨S.s,r1⟩ wl M0 M ρ (B4 ob) w->(∀t,t<N->C0 M ρ (sl.get 10 t) (f t))->fin S wl M0 (.panic [{v:= .iface t u,recovered:=false}]) (fr N f ds) w
def Ga6(c:Cfg):Bool:=match c.td with|_::k=>Bf7 k|[]=>false
def Bj5(ids:List Nat)(ρ:Rho):Rho:=fun r=>match D7 r ids with|true=>ρ r|false=>none
theorem Bn3{ids:List Nat}{ρ:Rho}{r:Nat}{i:Inf}(h:Bj5 ids ρ r=some i):D7 r ids=true/\ρ r=some i:=by
 unfold Bj5 at h;split at h
 ·rename_i hm;exact⟨hm,h⟩
 ·cases h
theorem Ew3{l:List (Nat×B9)}(h:V2 l=true):∀q z,B4 l q≠some (.frn z):=by
 induction l with
 |nil=>intro q z h;cases h
 |cons x l ih=>
  obtain⟨r,o⟩:=x;intro q z hx;unfold V2 at h;split at h
  ·cases h
  ·rename_i hf;simp only[B4]at hx;split at hx
   ·cases hx;cases hf
   ·exact ih h q z hx
end
end
section
def cap:Nat->Nat->Nat
 |0,_=>0
 |_+1,0=>0
 |n+1,k+1=>cap n k+1
def Er5(P:Program)(l:Nat)(vals:List Value)(w:World)(R:Ending->World->Prop):Prop:=
 ∃fn tmps assign body,(Instr.yield l vals.toArray).run P w= .ok (.round l fn tmps assign body) w/\RoundIn (WF none) 0 P l fn tmps assign body w R
structure Aa1(P:Program)(l:Nat)(Inv:List (List V)->(Nat->Prop)->Mem->World->Prop)(Stop Pan:(Nat->Prop)->Mem->World->Prop):Prop where
 inv:∀ys T M w T' M' w',Inv ys T M w->Bk8 T M w T' M' w'->Inv ys T' M' w'
 stop:∀T M w T' M' w',Stop T M w->Bk8 T M w T' M' w'->Stop T' M' w'
 round:∀y ys T M w vals,Inv (y::ys) T M w->Ai2 M w->B5 M noR y vals->(∀b,T b->b<w.heap.size)->Er5 P l vals w (fun e w'=>∃M',M.le M'/\Ai2 M' w'/\Sz w'/\w.heap.size<=w'.heap.size/\(∀k,T k->w'.heap[k]? =w.heap[k]?/\M' k=M k)/\
  ((e= .returned (.bool true)/\Inv ys T M' w')\/(e= .returned (.bool false)/\Stop T M' w')\/(Go0 e/\Pan T M' w')))
def Gx7(Inv:List (List V)->(Nat->Prop)->Mem->World->Prop)(Stop Pan:(Nat->Prop)->Mem->World->Prop)(fl:Bool):Ending->World->Prop:=fun e w'=>
 ∃T' M',(∃v,e= .returned v/\((fl=false/\Inv [] T' M' w')\/Stop T' M' w'))\/(Go0 e/\((fl=true/\Inv [] T' M' w')\/Pan T' M' w'))
section
variable {S:N0} {wl w w':World} {M0 M M':Mem} {ρ:Rho} {ob:Nat->Option B9}
theorem Ow.base(h:Ow S wl M0 M ρ ob w){r0:Rho}(hle:M.le M')(hs:Ai2 M' w')(_:w.heap.size<=w'.heap.size)(hk:∀k,TA ρ ob k->w'.heap[k]? =w.heap[k]?/\M' k=M k)
 (hfr:∀q i,ob q=some (.frn q)->ρ q=some i->r0 q=some i) (hfq:∀q x,ob q=some (.frn x)->x=q) (hh:∀r i,Nat.ble 2000 r=true->r0 r=some i->ρ r=some i) (hz:Sz w'):Ow ⟨TA ρ ob,r0⟩ w' M' M' ρ ob w':=by
 have hr:Rle M M' ρ ρ:=⟨hle,fun _ j hj=>⟨j,hj,Ile.refl j⟩⟩
 refine⟨Nat.le_refl _,rfl,rfl,rfl,fun _ _ _=>rfl,hs,M'.le_refl,⟨h.gl.ok.mono hle,fun _ _ e hb=>h.offm e (N1 h hb).1,hz⟩,fun _ _ hb _=> .inl hb,fun r o ho=> ?_,h.dom,h.inj,fun r i hb hi=>⟨i,hh r i hb hi,Ile.refl i⟩⟩;obtain⟨i,hi,hok⟩:=h.own r o ho;refine⟨i,hi,?_⟩;have hTb:∀b,blk i o b->TA ρ ob b:=fun b hl=>⟨r,i,o,hi,ho,hl⟩
 have hT:Al9 i o->TA ρ ob i.b:=fun hl=>hTb _ (Aa6 hl)
 have hok':=hok.mono hr (fun _ hl=>(hk _ (hTb _ hl)).2) (fun _ hl=>(hk _ (hTb _ hl)).1);cases o with
 |tree g e sz shs es hh=>exact M6.tree hok' (fun b hb=> .inl (hTb b hb)) (fun _ _ _ _ h=>h)
 |box te cs=>
  obtain⟨h0,h1,rest⟩:=hok';exact⟨h0,⟨.inl (hT trivial),h1.2⟩,rest⟩
 |buf g e sz es=>
  obtain⟨h0,hg,hss,hn,ht,hx,h1⟩:=hok';refine⟨h0,hg,hss,hn,ht,hx,fun hp=> ?_⟩;obtain⟨h1,rest⟩:=h1 hp;exact⟨⟨.inl (hT hp),h1.2⟩,rest⟩
 |fzs g sz es=>exact hok'
 |fzb cs=>exact hok'
 |mapo kk ag sz es=>
  obtain⟨h0,h1,rest⟩:=hok';exact⟨h0,⟨.inl (hT trivial),h1.2⟩,rest⟩
 |raw b x=>
  obtain⟨h0,e,h1,rest⟩:=hok';exact⟨h0,e,⟨.inl (hT trivial),h1.2⟩,rest⟩
 |frn q=>
  obtain rfl:=hfq r q ho;exact hfr _ i ho hi
end
def Df3(P:Program)(fn:Func)(l:Nat)(Inv:List (List V)->(Nat->Prop)->Mem->World->Prop)(Stop Pan:(Nat->Prop)->Mem->World->Prop)(fl:Bool)(st:Option (List (List V))):Fin where
 H:=fun S wl M0=>(match st with|some ys=>Inv ys S.s M0 wl|none=>Stop S.s M0 wl)/\∃i,S.r0 2000=some i/\i.b=l
 post:=fun _ _ _ e a w=>bodyPost P fn (Gx7 Inv Stop Pan fl) e a w
def Df4:List (Nat×B9)->Bool
 |[]=>true
 |(r,o)::l=>match o with| .frn x=>(match Nat.beq x r with|true=>Df4 l|false=>false)|_=>Df4 l
theorem At9:∀{l:List (Nat×B9)},Df4 l=true->∀q x,B4 l q=some (.frn x)->x=q
 |[],_,q,x,h=>by cases h
 |(r,o)::l,h,q,x,hx=>by
  unfold Df4 at h;simp only[B4]at hx;split at hx
  ·rename_i hb;obtain rfl:=nB_ hb;cases hx;simp only at h;split at h
   ·rename_i hb;exact nB_ hb
   ·cases h
  ·split at h
   ·split at h
    ·exact At9 h q x hx
    ·cases h
   ·exact At9 h q x hx
def Cp7(N:Nat)(c:Cfg):Option (List V×Wr):=match c.td with
 | .ops all (o::_)::_=>match gd N c.sl all o,o.op with
   |some true,.call cl=>match cl.callee with
    | .value f=>match G2 N c.sl f,B4 c.ob 2000,Df4 c.ob with
      | .yl 2000,some (.frn 2000),true=>N2 (B4 c.ob) (Di2 (G2 N c.sl) cl.args.toList)
      |_,_,_=>none
    |_=>none
   |_,_=>none
 |_=>none
def Ey5(N:Nat)(c:Cfg):Option (List V):=match Cp7 N c with|some (xs,wr)=>(match Df4 (R2 c.ob wr) with|true=>some xs|false=>none)|none=>none
def Gz5(N:Nat)(c:Cfg)(b:Bool):Cfg:=match Cp7 N c with|some (_,wr)=>after N c (.d (.bool b)) wr|none=>c
section
variable {P:Program} {N:Nat} {fn:Func} {l:Nat} {Inv:List (List V)->(Nat->Prop)->Mem->World->Prop} {Stop Pan:(Nat->Prop)->Mem->World->Prop} {fl:Bool} {c:Cfg}
theorem Cp1{a:Act}{w:World}{o:Oper}{cl:Call}{f:Operand}{l fn':Nat}{tmps:Array Value}{assign body:Code}(ho:o.op= .call cl)(hc:cl.callee= .value f)(hf:a.eval f= .func (.yield l) #[] #[])
 (hy:(Instr.yield l (cl.args.map a.eval)).run P w= .ok (.round l fn' tmps assign body) w):(execOp a.eval o).run P w= .ok (.round l fn' tmps assign body) w:=by
 obtain⟨callee,args,tys⟩:=cl;simp only at hc;subst hc;simp only at hy;simp[execOp,ho,resolve,Deferred.ofValue,hf,invoke,hy]
theorem Ci7(R:Aa1 P l Inv Stop Pan){xs:List V}(y:List V){ys:List (List V)}(hx:Ey5 N c=some xs)(hb:Ga6 c=true)(hre:M8 xs y)(ht:J none P N [] (Df3 P fn l Inv Stop Pan fl (some ys)) (Gz5 N c true))(hs:J none P N [] (Df3 P fn l Inv Stop Pan fl none) (Gz5 N c false)):J none P N [] (Df3 P fn l Inv Stop Pan fl (some (y::ys))) c:=by
 refine⟨ht.1,fun S wl M0 hH M ρ f w ha=> ?_⟩;unfold Ey5 at hx;split at hx
 ·rename_i xs' wr hyo;split at hx
  ·rename_i hfk;cases hx;unfold Gz5 at ht hs;rw[hyo]at ht hs;unfold Cp7 at hyo;split at hyo
   ·rename_i all o rest k htd;split at hyo
    ·rename_i cl hg hop;split at hyo
     ·rename_i fop hcal;split at hyo
      ·rename_i hfv hob _;simp only[Ag0 htd]at ht hs;have hfe:=F6 (ds:=[]) ha fop;rw[hfv]at hfe;simp only[C0]at hfe;obtain⟨i,hi,_,hfe⟩:=hfe;obtain⟨i',hi',hok⟩:=ha.ow.own 2000 _ hob;rw[hi]at hi';cases hi';have hok:S.r0 2000=some i:=hok;obtain⟨hinv,j,hj,hjl⟩:=hH;rw[hok]at hj;cases hj;rw[hjl]at hfe;have hargs:=Ag4 (xs:=cl.args.toList) (F6 (ds:=[]) ha);obtain⟨M1,r1,o1,d1⟩:=F5 ha.ow hargs hyo;have hst:=o1.step;have hinv1:=R.inv _ _ _ _ _ _ _ hinv hst;obtain⟨fn',tmps,assign,body,hrun,hround⟩:=R.round y ys _ M1 w _ hinv1 o1.sits (hre.rel (d1 noR)) hst.own;rw[htd];simp only[Wk,Exit.then];refine Hb4 (Cm7 ha hg) ?_;have hexec:=Cp1 (P:=P) (a:=fr N f []) (w:=w) hop hcal hfe (by
        have e:cl.args.map (fr N f []).eval=(cl.args.toList.map (fr N f []).eval).toArray:=by apply Array.ext';simp
        rw[e];exact hrun)
       refine⟨fun _ _=>trivial,?_⟩;rw[show(WF none).round=none from rfl,Af3 (by rw[hop];rfl),hexec];refine⟨fun h=>(by cases h),RoundIn.mono hround ?_⟩
       rintro e w2 ⟨M2,hle,hsit,hszw,hsz,hkept,hcase⟩
       have hb:Bf7 k=true:=by unfold Ga6 at hb;rw[htd]at hb;exact hb
       have o1':Ow S wl M0 M1 ρ (B4 (R2 c.ob wr)) w:=by rw[W0];exact o1
       have hTA:TA ρ (wrO (B4 c.ob) wr)=TA ρ (B4 (R2 c.ob wr)):=by rw[W0]
       rw[hTA]at hkept hcase;have hb':=o1'.base (r0:=ρ) hle hsit hsz hkept (fun _ _ _ h=>h) (At9 hfk) (fun _ _ _ h=>h) hszw;have hR:Rle M M2 ρ ρ:=⟨Mem.le_trans r1.le hle,fun _ j hj=>⟨j,hj,Ile.refl j⟩⟩
       have hput:=fun(b:Bool) (td:List It)=>Bt5 (S:=⟨TA ρ (B4 (R2 c.ob wr)),ρ⟩) (wl:=w2) (M0:=M2) (M:=M2) (ρ:=ρ) (N:=N) (c:=⟨c.sl,R2 c.ob wr,td⟩) (f:=f) (w:=w2) ⟨hb',ha.ok,fun t ht=>C0.mono hR _ (ha.sl t ht)⟩ ht.1 (Rle.refl _ _) (ob':=R2 c.ob wr) hb' (v:= .d (.bool b)) (u:= .bool b) U3 o.dst (.ops all rest::k)
       rcases hcase with⟨rfl,hT⟩|⟨rfl,hF⟩|⟨⟨t,u,rfl⟩,hP⟩
       ·dsimp only;rw[At8];have:=ht.2 ⟨TA ρ (B4 (R2 c.ob wr)),ρ⟩ w2 M2 ⟨hT,i,hi,hjl⟩ M2 ρ _ w2 (hput true []);simp only[Wk,Exit.then]at this;exact this
       ·dsimp only;rw[At8];have:=hs.2 ⟨TA ρ (B4 (R2 c.ob wr)),ρ⟩ w2 M2 ⟨hF,i,hi,hjl⟩ M2 ρ _ w2 (hput false []);simp only[Wk,Exit.then]at this;exact this
       ·exact Av8 k hb ⟨rfl,_,M2,.inr ⟨⟨t,u,rfl⟩,.inr hP⟩⟩
      ·cases hyo
     ·cases hyo
    ·cases hyo
   ·cases hyo
  ·cases hx
 ·cases hx
theorem Bb6(R:Aa1 P l Inv Stop Pan){st:Option (List (List V))}(hst:(st=some []/\fl=false)\/st=none)(hN:Nat.ble N 1024=true)(hfn:fn.results= #[])(hat:Bi5 c=true):J none P N [] (Df3 P fn l Inv Stop Pan fl st) c:=by
 refine⟨H3 hN,fun S wl M0 hH M ρ f w ha=> ?_⟩;have hend:(fl=false/\Inv [] (TA ρ (B4 c.ob)) M w)\/Stop (TA ρ (B4 c.ob)) M w:=by
  rcases hst with⟨rfl,h⟩|rfl
  ·exact .inl ⟨h,R.inv _ _ _ _ _ _ _ hH.1 ha.ow.step⟩
  ·exact .inr (R.stop _ _ _ _ _ _ hH.1 ha.ow.step)
 have key:(Df3 P fn l Inv Stop Pan fl st) S wl M0 .ret (fr N f []) w:=⟨rfl,_,P1 (rs:=[]) (vs:=[]) (by rw[hfn]) trivial,_,M,.inl ⟨_,rfl,hend⟩⟩
 unfold Bi5 at hat;split at hat
 ·rename_i ht;rw[ht];exact Cj0 (Ab7 _ hat key)
 ·rename_i ht;rw[ht];exact key
 ·cases hat
def Dc4(P:Program)(g:FuncId)(os:List (Nat×B9))(args:List V)(ys:List (List V))(fl:Bool):Prop:=
 ∀l Inv Stop Pan,Aa1 P l Inv Stop Pan->∀s M ρ w vals i,Ow ⟨s,ρ⟩ w M M ρ (B4 os) w->Inv ys s M w->ρ 2000=some i->i.b=l->B5 M ρ args vals->Calls P g vals.toArray w (Gx7 Inv Stop Pan fl)
theorem Cw7{g:FuncId}{b:Code}{os:List (Nat×B9)}{args:List V}{ys:List (List V)}(hf:P.funcs[g]? =some fn)(hb:fn.body=some b)(hN:fn.ntmps=N)(hv:Nat.ble args.length N=true)(h:∀l Inv Stop Pan,Aa1 P l Inv Stop Pan->J none P N [] (Df3 P fn l Inv Stop Pan fl (some ys)) ⟨mkT (Dh8 0 args),os,[.code b]⟩):Dc4 P g os args ys fl:=by
 intro l Inv Stop Pan R s M ρ w vals i ho hi h2 hl hr;have h:=h l Inv Stop Pan R;have hlen:=H3 hv;refine entry hf hb hN (by rw[hr.len];exact hlen) ?_;refine Bl1 (h.2 ⟨s,ρ⟩ w M ⟨hi,i,h2,hl⟩ M ρ (Bv6 vals) w ⟨ho,Ai6 _,Ab1 h.1 _ (fun t v hm=> ?_)⟩) (fun e a w hq=>hq);obtain⟨_,h2⟩:=Aa4 hm;rw[Nat.sub_zero]at h2;obtain⟨u,h3,h4⟩:=hr.get h2;exact⟨Nat.lt_of_lt_of_le (List.getElem?_eq_some_iff.1 h2).1 hlen,by unfold Bv6;rw[h3];exact h4⟩
def Eg6(P:Program)(g:FuncId)(os:List (Nat×B9))(args:List V)(ys:List (List V))(fl:Bool):Prop:=
 ∀l Inv Stop Pan,Aa1 P l Inv Stop Pan->(∀T M w,¬Inv [] T M w)->∀s M ρ w vals i,Ow ⟨s,ρ⟩ w M M ρ (B4 os) w->Inv ys s M w->ρ 2000=some i->i.b=l->B5 M ρ args vals->Calls P g vals.toArray w (Gx7 Inv Stop Pan fl)
theorem El6{g:FuncId}{b:Code}{os:List (Nat×B9)}{args:List V}{ys:List (List V)}(hf:P.funcs[g]? =some fn)(hb:fn.body=some b)(hN:fn.ntmps=N)(hv:Nat.ble args.length N=true)(h:∀l Inv Stop Pan,Aa1 P l Inv Stop Pan->(∀T M w,¬Inv [] T M w)->J none P N [] (Df3 P fn l Inv Stop Pan fl (some ys)) ⟨mkT (Dh8 0 args),os,[.code b]⟩):Eg6 P g os args ys fl:=by
 intro l Inv Stop Pan R hE s M ρ w vals i ho hi h2 hl hr;have h:=h l Inv Stop Pan R hE;have hlen:=H3 hv;refine entry hf hb hN (by rw[hr.len];exact hlen) ?_;refine Bl1 (h.2 ⟨s,ρ⟩ w M ⟨hi,i,h2,hl⟩ M ρ (Bv6 vals) w ⟨ho,Ai6 _,Ab1 h.1 _ (fun t v hm=> ?_)⟩) (fun e a w hq=>hq);obtain⟨_,h2⟩:=Aa4 hm;rw[Nat.sub_zero]at h2;obtain⟨u,h3,h4⟩:=hr.get h2;exact⟨Nat.lt_of_lt_of_le (List.getElem?_eq_some_iff.1 h2).1 hlen,by unfold Bv6;rw[h3];exact h4⟩
theorem Dn2(hE:∀T M w,¬Inv [] T M w)(hN:Nat.ble N 1024=true):J none P N [] (Df3 P fn l Inv Stop Pan fl (some [])) c:=
 ⟨H3 hN,fun _ _ _ hH=>absurd hH.1 (hE _ _ _)⟩
end
end
section
section
variable {S:N0} {wl w:World} {M0 M:Mem} {ρ:Rho} {ob:Nat->Option B9}
theorem Ow.raw(h:Ow S wl M0 M ρ ob w){q b:Nat}{o:Obj}(hq:ob q=some (.raw b o))(o':Obj):w.heap[b]? =some o/\Ow S wl M0 M ρ (K0 ob q (.raw b o')) (w.putObj b o'):=by
 obtain⟨i,hi,hfix,hib,hm,hw⟩:=h.own q _ hq;have hlt:b<w.heap.size:=(Array.getElem?_eq_some_iff.1 hw).1;obtain⟨h1,h2⟩:=h.turn (w':=w.putObj b o') hq hi i (.raw b o') (fun k _ hk=>World.putObj_heap_other (by have:=hk trivial;rw[hib]at this;exact this)) (by simp) rfl rfl rfl (fun _ c hc=>by rw[hm.2]at hc;cases hc) (Ile.refl i) (fun _=> .inl ⟨trivial,rfl⟩)
  (fun ρ' _ _=>⟨hfix,hib,hm,World.putObj_heap_same hlt⟩)
 refine⟨hw,?_⟩;have e:K0 ρ q i=ρ:=by
  funext s;by_cases e:s=q
  ·subst e;rw[B7,hi]
  ·rw[C8 _ _ e]
 rw[e]at h2;exact h2
theorem Ow.compP{r0 r1 r2:Rho}{M2:Mem}{ρ2:Rho}{ob2:Nat->Option B9}{w2:World}(h:Ow ⟨S.s,r0⟩ wl M0 M ρ ob w)(h2:Ow ⟨TA ρ ob,r1⟩ w M M2 ρ2 ob2 w2)(hnf:∀q x,ob2 q≠some (.frn x))(hh:∀q i,Nat.ble 2000 q=true->r2 q=some i->∃k,ρ2 q=some k/\Ile i k):Ow ⟨S.s,r2⟩ wl M0 M2 ρ2 ob2 w2:=by
 refine⟨Nat.le_trans h.size h2.size,h2.os.trans h.os,h2.tape.trans h.tape,h2.output.trans h.output,fun k hk hS=> ?_,h2.sits,Mem.le_trans h.le h2.le,⟨h2.gl.ok,h.gl.off,h.gl.sz⟩,fun b c hb hlt=> ?_,fun q o hq=> ?_,h2.dom,h2.inj,fun q i hb hi=>hh q i hb hi⟩
 ·rw[h2.old k (by have:=h.size;omega) (fun ht=>(N1 h ht).1.elim hS (fun hl=>by omega))];exact h.old k hk hS
 ·rcases h2.new b c hb (by have:=h.size;omega) with h1|h1
  ·exact h.new b c h1 hlt
  ·exact(N1 h h1).1.elim .inr (fun hl=>by omega)
 ·obtain⟨i,hi,hok⟩:=h2.own q o hq;refine⟨i,hi,?_⟩;have hMb:∀b,blk i o b->S.s b\/wl.heap.size<=b:=fun b hl=>by
   rcases(E2 hok hl).1 with hs|hs
   ·exact(N1 h hs).1
   ·exact .inr (Nat.le_trans h.size hs)
  have hM:Al9 i o->S.s i.b\/wl.heap.size<=i.b:=fun hl=>hMb _ (Aa6 hl)
  cases o with
  |tree g e sz shs es hh=>exact M6.tree hok hMb (fun _ _ _ _ h=>h)
  |box te cs=>obtain⟨h0,h1,rest⟩:=hok;exact⟨h0,⟨hM trivial,h1.2⟩,rest⟩
  |buf g e sz es=>
   obtain⟨h0,hg,hs,hn,ht,hx,h1⟩:=hok;refine⟨h0,hg,hs,hn,ht,hx,fun hp=> ?_⟩;obtain⟨h1,rest⟩:=h1 hp;exact⟨⟨hM hp,h1.2⟩,rest⟩
  |fzs g sz es=>exact hok
  |fzb cs=>exact hok
  |mapo kk ag sz es=>obtain⟨h0,h1,rest⟩:=hok;exact⟨h0,⟨hM trivial,h1.2⟩,rest⟩
  |raw b x=>obtain⟨h0,e,h1,rest⟩:=hok;exact⟨h0,e,⟨hM trivial,h1.2⟩,rest⟩
  |frn x=>exact absurd hq (hnf q x)
theorem Ow.comp{r0:Rho}{M2:Mem}{ρ2:Rho}{ob2:Nat->Option B9}{w2:World}(h:Ow ⟨S.s,r0⟩ wl M0 M ρ ob w)(h2:Ow ⟨TA ρ ob,ρ⟩ w M M2 ρ2 ob2 w2)(hnf:∀q x,ob2 q≠some (.frn x)):Ow ⟨S.s,r0⟩ wl M0 M2 ρ2 ob2 w2:=
 h.compP h2 hnf fun q i hb hi=>by
  obtain⟨j,h1,h3⟩:=h.held q i hb hi;obtain⟨k,h4,h5⟩:=h2.held q j hb h1;exact⟨k,h4,h3.trans h5⟩
end
section
variable {r:Option Nat} {P:Program} {N:Nat} {ds:List Deferred} {fin:Fin} {c:Cfg}
theorem Bb5{l q:Nat}{k:List It}{rec:Loop}(ht:c.td= .begR l::k)(hq:B4 c.ob q=some (.raw l (.loop rec)))(hs:rec.state= .ready)(hk:J r P N ds fin ⟨c.sl,Ac3 c.ob q (.raw l (.loop {rec with state:= .busy})),k⟩):J r P N ds fin c:=by
 refine⟨hk.1,fun S wl M0 hH M ρ f w ha=> ?_⟩;rw[ht];obtain⟨h1,h2⟩:=ha.ow.raw hq (.loop {rec with state:= .busy});simp only[Wk,Exit.then];refine⟨_,run_beginRound h1 hs,hk.2 S wl M0 hH M ρ f _ ⟨?_,ha.ok,ha.sl⟩⟩;dsimp only;rw[H8];exact h2
end
end
section
structure Lp where
 D:Nat
 L:Nat
 fn:FuncId
 tmps:Array Value
 ps:Array Tmp
 as:Code
 bo:Code
def F4(x:Lp)(st:LoopState)(pe:Option Code):Loop:={state:=st,pending:=pe,fn:=x.fn,tmps:=x.tmps,params:=x.ps,assign:=x.as,body:=x.bo,defers:=x.D}
def rob(x:Lp)(st:LoopState)(pe:Option Code)(ob:List (Nat×B9)):List (Nat×B9):=(3000,.raw x.D (.deferred (some [])))::(3001,.raw x.L (.loop (F4 x st pe)))::ob
def Ey8(x:Lp)(S:N0)(wl:World)(M0:Mem)(ρ0:Rho)(Ms:Mem)(Good:List (List V)->List (Nat×B9)->Prop)(ys:List (List V))(T:Nat->Prop)(M:Mem)(w:World):Prop:=
 Ms.le M/\∃ρ ob,Good ys ob/\Ow ⟨S.s,ρ0⟩ wl M0 M ρ (B4 (rob x .ready none ob)) w/\∀b,T b->¬TA ρ (B4 (rob x .ready none ob)) b/\(S b\/wl.heap.size<=b)
def Db9(x:Lp)(S:N0)(wl:World)(M0:Mem)(ρ0:Rho)(Ms:Mem)(GoodX:Code->List (Nat×B9)->Prop)(T:Nat->Prop)(M:Mem)(w:World):Prop:=
 Ms.le M/\∃ρ ob j,GoodX j ob/\Ow ⟨S.s,ρ0⟩ wl M0 M ρ (B4 (rob x .done (some j) ob)) w/\∀b,T b->¬TA ρ (B4 (rob x .done (some j) ob)) b/\(S b\/wl.heap.size<=b)
theorem Ey8.it{x:Lp}{S:N0}{wl:World}{M0 Ms:Mem}{ρ0:Rho}{Good:List (List V)->List (Nat×B9)->Prop}:∀ys T M w T' M' w',Ey8 x S wl M0 ρ0 Ms Good ys T M w->Bk8 T M w T' M' w'->Ey8 x S wl M0 ρ0 Ms Good ys T' M' w':=
 fun _ _ _ _ _ _ _ ⟨h0,ρ,ob,h1,h2,h3⟩ k=>by obtain⟨h4,h5⟩:=h2.it k h3;exact⟨Mem.le_trans h0 k.le,ρ,ob,h1,h4,h5⟩
theorem Db9.it{x:Lp}{S:N0}{wl:World}{M0 Ms:Mem}{ρ0:Rho}{GoodX:Code->List (Nat×B9)->Prop}:∀T M w T' M' w',Db9 x S wl M0 ρ0 Ms GoodX T M w->Bk8 T M w T' M' w'->Db9 x S wl M0 ρ0 Ms GoodX T' M' w':=
 fun _ _ _ _ _ _ ⟨h0,ρ,ob,j,h1,h2,h3⟩ k=>by obtain⟨h4,h5⟩:=h2.it k h3;exact⟨Mem.le_trans h0 k.le,ρ,ob,j,h1,h4,h5⟩
def Ha5(x:Lp)(S:N0)(wl:World)(M0:Mem)(ρ0:Rho)(Ms:Mem)(GoodP:List (Nat×B9)->Prop)(T:Nat->Prop)(M:Mem)(w:World):Prop:=
 Ms.le M/\∃r1 ρ ob,GoodP ob/\(∀q i,ρ0 q=some i->(∃o,B4 ob q=some o)->r1 q=some i)/\Ow ⟨S.s,r1⟩ wl M0 M ρ (B4 (rob x .busy none ob)) w/\∀b,T b->¬TA ρ (B4 (rob x .busy none ob)) b/\(S b\/wl.heap.size<=b)
def Ed9(x:Lp)(Good:List (List V)->List (Nat×B9)->Prop)(GoodX:Code->List (Nat×B9)->Prop)(GoodP:List (Nat×B9)->Prop)(ys:List (List V)):Fin where
 H:=fun _ _ _=>True
 post:=fun S wl M0 e a w=>a.defers=[]/\((∃ρ M ob,Ow S wl M0 M ρ (B4 (rob x .busy none ob)) w/\(∀q z,B4 ob q≠some (.frn z))/\((e= .normal/\Good ys ob)\/(e= .ret/\GoodX .ret ob)\/(∃id,e= .exit id/\GoodX (.exit id) ob)\/∃l,e= .goto l/\GoodX (.goto l) ob))\/
  (∃t u,e= .panic [{v:= .iface t u,recovered:=false}])/\∃r1 ρ M ob,Ow ⟨S.s,r1⟩ wl M0 M ρ (B4 (rob x .busy none ob)) w/\(∀q i,S.r0 q=some i->(∃o,B4 (rob x .busy none ob) q=some o)->r1 q=some i)/\(∀q z,B4 ob q≠some (.frn z))/\GoodP ob)
def Dg7(P:Program)(l:Nat)(R:Ending->World->Prop):Exit->Act->World->Prop
 | .normal,_,w=>∃v w',(Instr.endRound l none).run P w= .ok v w'/\R (.returned v) w'
 | .ret,_,w=>∃v w',(Instr.endRound l (some .ret)).run P w= .ok v w'/\R (.returned v) w'
 | .exit id,_,w=>∃v w',(Instr.endRound l (some (.exit id))).run P w= .ok v w'/\R (.returned v) w'
 | .goto t,_,w=>∃v w',(Instr.endRound l (some (.goto t))).run P w= .ok v w'/\R (.returned v) w'
 | .panic ch,a,w=>a.defers=[]/\R (.panicked ch) w
 |_,_,_=>False
theorem Cd9{P:Program}{l:Nat}{f:FuncId}{tmps:Array Value}{assign body:Code}{w:World}{R:Ending->World->Prop}(hf:∃fn,P.funcs[f]? =some fn)
 (h:W (some l) P assign (Exit.then (fun a₁ w₁=>∃w₂,(Instr.beginRound l).run P w₁= .ok () w₂/\W (some l) P body (Dg7 P l R) a₁ w₂) (fun _ _ _=>False)) {tmps:=tmps,defers:=[]} w):
 RoundIn (WF none) 0 P l f tmps assign body w R:=by
 refine⟨trivial,fun c cs hr=> ?_⟩
 let b:Frame:={(default:Frame) with fn:=f,kind:= .normal,roundOf:=some l}
 have hb0:Frame.round l f tmps assign body .normal=b.atR {tmps:=tmps,defers:=[]} [.code assign,.beginRound,.code body]:=by
  simp[Frame.round,Frame.atR,b]
 obtain⟨e,a₁,w₁,hq,harr⟩:=Dc7 h b [.beginRound,.code body] (c::cs) rfl hf;rw[<-hb0]at harr;cases e with
 |normal=>
  obtain⟨w₂,hbr,hbody⟩:=hq;have s1:StepsIn (Machine.fenced P (WF (some l))) P (lone (b.atR a₁ [.beginRound,.code body]) (c::cs) w₁) (lone (b.atR a₁ [.code body]) (c::cs) w₂):=
   .one (L0 (fr:=b.atR a₁ [.beginRound,.code body]) rfl) (stepR_beginRound rfl hbr)
  obtain⟨e₂,a₂,w₃,hq₂,harr₂⟩:=Dc7 hbody b [] (c::cs) rfl hf;cases e₂ with
  |normal=>
   obtain⟨v,w₄,hend,hR⟩:=hq₂;exact⟨.returned v,w₄,hR,(StepsIn.trans harr s1).trans (StepsIn.trans harr₂ (.one (L0 (fr:=b.atR a₂ []) rfl) (stepR_round_end rfl rfl hend)))⟩
  |ret=>
   obtain⟨v,w₄,hend,hR⟩:=hq₂;obtain⟨k₁,hs⟩:=harr₂.2 rfl;exact⟨.returned v,w₄,hR,(StepsIn.trans harr s1).trans (StepsIn.trans hs (.one (L0 (fr:=b.atR a₂ (.code .ret::k₁)) rfl) (stepR_round_ret rfl rfl hend)))⟩
  |exit id=>
   obtain⟨v,w₄,hend,hR⟩:=hq₂;obtain⟨k₁,hk,hs⟩:=harr₂.2 rfl rfl;exact⟨.returned v,w₄,hR,(StepsIn.trans harr s1).trans (StepsIn.trans hs (.one (L0 (fr:=b.atR a₂ (.code (.exit id)::k₁)) rfl) (stepR_round_exit rfl rfl hk hend)))⟩
  |panic chain=>
   obtain⟨hd,hR⟩:=hq₂;obtain⟨todo,hs⟩:=harr₂;obtain⟨fn,hfn⟩:=hf;have hl:Frame.leaving P {b.atR a₂ todo with mode:= .panicking chain} w₃ (.panicked chain):=⟨rfl,hd,fn,hfn⟩
   exact⟨.panicked chain,w₃,hR,(StepsIn.trans harr s1).trans (StepsIn.trans hs (.one (fenced_leaving (n:=0) trivial (Aa2 _ _) hl) (step_leave_panicked hl)))⟩
  |goto t=>
   obtain⟨v,w₄,hend,hR⟩:=hq₂;obtain⟨k₁,hk,hs⟩:=harr₂.2 rfl rfl;exact⟨.returned v,w₄,hR,(StepsIn.trans harr s1).trans (StepsIn.trans hs (.one (L0 (fr:=b.atR a₂ (.code (.goto t)::k₁)) rfl) (stepR_round_goto rfl rfl hk hend)))⟩
  |outgrown=>exact hq₂.elim
 |exit id=>exact hq.elim
 |goto t=>exact hq.elim
 |ret=>exact hq.elim
 |panic chain=>exact hq.elim
 |outgrown=>exact hq.elim
def Au9(N:Nat)(sl:Tri):List Tmp->List V->Option Tri
 |[],[]=>some sl
 |p::ps,v::vs=>match Nat.blt p N with|true=>Au9 N (sl.set 10 p v) ps vs|false=>none
 |_,_=>none
def Fp1(f:Nat->Value):List (Tmp×Value)->Nat->Value
 |[]=>f
 |(p,v)::l=>Fp1 (upd f p v) l
theorem Ca5{N:Nat}:∀(l:List (Tmp×Value)) (f:Nat->Value),l.foldl (fun t (p,v)=>t.setIfInBounds p v) (fr N f []).tmps=(fr N (Fp1 f l) []).tmps
 |[],_=>rfl
 |(p,v)::l,f=>by
  simp only[List.foldl_cons,Fp1];have e:(fr N f []).tmps.setIfInBounds p v=(fr N (upd f p v) []).tmps:=by
   have:=congrArg Act.tmps (Eu0 (N:=N) (f:=f) (ds:=[]) (d:=p) (v:=v));exact this
  rw[e];exact Ca5 l (upd f p v)
theorem Ce8{N:Nat}(hN:N<=1024){M:Mem}{ρ:Rho}:∀{ps:List Tmp} {vs:List V} {us:List Value} {sl sl':Tri} {f:Nat->Value},Au9 N sl ps vs=some sl'->sl.ok 10->B5 M ρ vs us->(∀t,t<N->C0 M ρ (sl.get 10 t) (f t))->
 sl'.ok 10/\(∀t,t<N->C0 M ρ (sl'.get 10 t) (Fp1 f (ps.zip us) t))/\us.length=ps.length
 |[],[],us,sl,sl',f,h,hok,hr,hs=>by
  simp only[Au9,Option.some.injEq]at h;subst h;simp only[B5]at hr;subst hr;exact⟨hok,hs,rfl⟩
 |p::ps,v::vs,us,sl,sl',f,h,hok,hr,hs=>by
  unfold Au9 at h;split at h
  ·rename_i hp;simp only[B5]at hr;obtain⟨u,us',rfl,h1,h2⟩:=hr;have hp:=Ae6 hp;obtain⟨a1,a2,a3⟩:=Ce8 hN (f:=upd f p u) h (Tri.set_ok _ _ _ _ hok) h2 (fun t ht=>by
    by_cases e:t=p
    ·subst e;rw[Tri.get_set_same,Ar0];exact h1
    ·rw[Tri.get_set_ne _ _ _ _ _ hok (by omega) (by omega) (fun e'=>e e'.symm),Cf5 _ _ e];exact hs t ht)
   exact⟨a1,a2,by simp[a3]⟩
  ·cases h
 |[],_::_,_,_,_,_,h,_,_,_=>by cases h
 |_::_,[],_,_,_,_,h,_,_,_=>by cases h
section
variable {P:Program} {N:Nat} {x:Lp} {S:N0} {wl:World} {M0 Ms:Mem} {ρ0:Rho} {Good:List (List V)->List (Nat×B9)->Prop} {GoodX:Code->List (Nat×B9)->Prop} {GoodP:List (Nat×B9)->Prop} {sl:Tri} {f:Nat->Value}
theorem En7(hfx:∃fn,P.funcs[x.fn]? =some fn)(hN:N<=1024)(hx:x.tmps=(fr N f []).tmps)(hok:sl.ok 10)(hsl:∀t,t<N->C0 Ms ρ0 (sl.get 10 t) (f t))(hbig:∀r i,ρ0 r=some i->Nat.ble 2000 r=true)
 (hnf:∀ys ob,Good ys ob->∀q z,B4 ob q≠some (.frn z))
 (hJ:∀y ys ob,Good (y::ys) ob->∃sl',Au9 N sl x.ps.toList y=some sl'/\J (some x.L) P N [] (Ed9 x Good GoodX GoodP ys) ⟨sl',rob x .ready none ob,[.code x.as,.begR x.L,.code x.bo]⟩)
 (y:List V) (ys:List (List V)) (T:Nat->Prop) (M:Mem) (w:World) (vals:List Value) (hI:Ey8 x S wl M0 ρ0 Ms Good (y::ys) T M w) (hs:Ai2 M w) (hr:B5 M noR y vals) (hT0:∀b,T b->b<w.heap.size):
 Er5 P x.L vals w (fun e w'=>∃M',M.le M'/\Ai2 M' w'/\Sz w'/\w.heap.size<=w'.heap.size/\(∀k,T k->w'.heap[k]? =w.heap[k]?/\M' k=M k)/\
  ((e= .returned (.bool true)/\Ey8 x S wl M0 ρ0 Ms Good ys T M' w')\/(e= .returned (.bool false)/\Db9 x S wl M0 ρ0 Ms GoodX T M' w')\/(Go0 e/\Ha5 x S wl M0 ρ0 Ms GoodP T M' w'))):=by
 obtain⟨hle,ρ,ob,hg,ho,hT⟩:=hI;obtain⟨sl',hset,hj⟩:=hJ y ys ob hg;have hnf':∀(st:LoopState) (pe:Option Code) (ob:List (Nat×B9)),(∀q z,B4 ob q≠some (.frn z))->∀q z,B4 (rob x st pe ob) q≠some (.frn z):=fun st pe ob h q z=>by
  simp only[rob,B4];split
  ·intro e;cases e
  ·split
   ·intro e;cases e
   ·exact h q z
 have h1:B4 (rob x .ready none ob) 3001=some (.raw x.L (.loop (F4 x .ready none))):=rfl;have hR:Rle Ms M ρ0 ρ:=⟨hle,fun r i hi=>ho.held r i (hbig r i hi) hi⟩
 obtain⟨a1,a2,a3⟩:=Ce8 hN (f:=f) hset hok (B5.mono (ρ':=ρ) ⟨M.le_refl,fun r i hi=>by cases hi⟩ _ hr) (fun t ht=>C0.mono hR _ (hsl t ht));have hy:=run_yield (P:=P) (args:=vals.toArray) (ho.raw h1 (.loop (F4 x .ready none))).1 (by simp[F4,a3]);refine⟨x.fn,_,x.as,x.bo,hy,Cd9 hfx ?_⟩;have hb:=ho.base (r0:=ρ) M.le_refl hs (Nat.le_refl _) (fun k hk=>⟨rfl,rfl⟩) (fun q i hq _=>absurd hq (hnf' _ _ _ (hnf _ _ hg) q q)) (fun q z hq=>absurd hq (hnf' _ _ _ (hnf _ _ hg) q z)) (fun _ _ _ h=>h) ho.szw;have hw:=hj.2 ⟨TA ρ (B4 (rob x .ready none ob)),ρ⟩ w M trivial M ρ (Fp1 f (x.ps.toList.zip vals)) w ⟨hb,a1,a2⟩;have hfr:({tmps:=((F4 x .ready none).params.zip vals.toArray).foldl (fun t (p,v)=>t.setIfInBounds p v) (F4 x .ready none).tmps,defers:=[]}:Act)=fr N (Fp1 f (x.ps.toList.zip vals)) []:=by
  have e:((F4 x .ready none).params.zip vals.toArray).foldl (fun t (p,v)=>t.setIfInBounds p v) (F4 x .ready none).tmps=(fr N (Fp1 f (x.ps.toList.zip vals)) []).tmps:=by
   rw[<-Ca5,<-Array.foldl_toList];simp[F4,hx]
  rw[e];rfl
 rw[hfr];simp only[Wk,Exit.then]at hw;have hup:∀(st st':LoopState) (pe pe':Option Code) (ob:List (Nat×B9)),K0 (B4 (rob x st pe ob)) 3001 (.raw x.L (.loop (F4 x st' pe')))=B4 (rob x st' pe' ob):=fun st st' pe pe' ob=>by
  funext q;by_cases e:q=3001
  ·subst e;rw[B7];rfl
  ·rw[C8 _ _ e];simp only[rob,B4];split
   ·rfl
   ·have:Nat.beq q 3001=false:=I5 e;simp only[this]
 have hLTA:TA ρ (B4 (rob x .ready none ob)) x.L:=by
  obtain⟨i,hi,_,hib,_⟩:=ho.own 3001 _ h1;exact⟨3001,i,_,hi,h1,.inl ⟨trivial,hib⟩⟩
 have fin:∀(st':LoopState) (pe':Option Code) (ρ2:Rho) (M2:Mem) (ob2:List (Nat×B9)) (w3:World),Ow ⟨TA ρ (B4 (rob x .ready none ob)),ρ⟩ w M M2 ρ2 (B4 (rob x .busy none ob2)) w3->(∀q z,B4 ob2 q≠some (.frn z))->
  w3.heap[x.L]? =some (.loop (F4 x .busy none))/\M.le M2/\Ai2 M2 (w3.putObj x.L (.loop (F4 x st' pe')))/\w.heap.size<=(w3.putObj x.L (.loop (F4 x st' pe'))).heap.size/\(∀k,T k->(w3.putObj x.L (.loop (F4 x st' pe'))).heap[k]? =w.heap[k]?/\M2 k=M k)/\
  Ow ⟨S.s,ρ0⟩ wl M0 M2 ρ2 (B4 (rob x st' pe' ob2)) (w3.putObj x.L (.loop (F4 x st' pe')))/\∀b,T b->¬TA ρ2 (B4 (rob x st' pe' ob2)) b/\(S b\/wl.heap.size<=b):=fun st' pe' ρ2 M2 ob2 w3 h2 hn2=>by
  have hc:=ho.comp h2 (hnf' _ _ _ hn2);have h3:B4 (rob x .busy none ob2) 3001=some (.raw x.L (.loop (F4 x .busy none))):=rfl;obtain⟨hh,h4⟩:=hc.raw h3 (.loop (F4 x st' pe'));obtain⟨_,h5⟩:=h2.raw h3 (.loop (F4 x st' pe'));rw[hup]at h4 h5;refine⟨hh,h2.le,h5.sits,h5.size,fun k hk=>⟨h5.old k (hT0 k hk) (hT k hk).1,?_⟩,h4,fun b hb=>⟨fun hta=> ?_,(hT b hb).2⟩⟩
  ·cases hm:M2 k with
   |none=>
    cases hm0:M k with
    |none=>rfl
    |some c=>obtain⟨c',h3,_⟩:=h2.le _ _ hm0;rw[hm]at h3;cases h3
   |some c=>
    rcases h2.new k c hm (hT0 k hk) with h6|h6
    ·exact h6.symm
    ·exact absurd h6 (hT k hk).1
  ·rcases(N1 h5 hta).1 with h6|h6
   ·exact(hT b hb).1 h6
   ·have:=hT0 b hb;omega
 have pan:∀(r1 ρ2:Rho) (M2:Mem) (ob2:List (Nat×B9)) (w3:World),Ow ⟨TA ρ (B4 (rob x .ready none ob)),r1⟩ w M M2 ρ2 (B4 (rob x .busy none ob2)) w3->(∀q i,ρ q=some i->(∃o,B4 (rob x .busy none ob2) q=some o)->r1 q=some i)->(∀q z,B4 ob2 q≠some (.frn z))->
  M.le M2/\Ai2 M2 w3/\w.heap.size<=w3.heap.size/\(∀k,T k->w3.heap[k]? =w.heap[k]?/\M2 k=M k)/\
  ∃r2,(∀q i,ρ0 q=some i->(∃o,B4 ob2 q=some o)->r2 q=some i)/\Ow ⟨S.s,r2⟩ wl M0 M2 ρ2 (B4 (rob x .busy none ob2)) w3/\∀b,T b->¬TA ρ2 (B4 (rob x .busy none ob2)) b/\(S b\/wl.heap.size<=b):=fun r1 ρ2 M2 ob2 w3 h2 hr1 hn2=>by
  have hob:∀q,(∃o,B4 ob2 q=some o)->∃o,B4 (rob x .busy none ob2) q=some o:=fun q ⟨o,ho⟩=>by
   simp only[rob,B4];split
   ·exact⟨_,rfl⟩
   ·split
    ·exact⟨_,rfl⟩
    ·exact⟨o,ho⟩
  have hc:=ho.compP h2 (hnf' _ _ _ hn2) (r2:=Bj5 (G1 ob2) ρ0) (fun q i hb hq=>by
   obtain⟨hm,hq⟩:=Bn3 hq;obtain⟨j,h3,h4⟩:=ho.held q i hb hq;obtain⟨k,h5,h6⟩:=h2.held q j hb (hr1 q j h3 (hob q (I6.1 hm)));exact⟨k,h5,h4.trans h6⟩)
  refine⟨h2.le,h2.sits,h2.size,fun k hk=>⟨h2.old k (hT0 k hk) (hT k hk).1,?_⟩,_,fun q i hq ho'=> ?_,hc,fun b hb=>⟨fun hta=> ?_,(hT b hb).2⟩⟩
  ·cases hm:M2 k with
   |none=>
    cases hm0:M k with
    |none=>rfl
    |some c=>obtain⟨c',h3,_⟩:=h2.le _ _ hm0;rw[hm]at h3;cases h3
   |some c=>
    rcases h2.new k c hm (hT0 k hk) with h6|h6
    ·exact h6.symm
    ·exact absurd h6 (hT k hk).1
  ·unfold Bj5;rw[I6.2 ho'];exact hq
  ·rcases(N1 h2 hta).1 with h6|h6
   ·exact(hT b hb).1 h6
   ·have:=hT0 b hb;omega
 refine Bl1 hw (fun e a1 w1 hq=> ?_);cases e with
 |normal=>
  obtain⟨w2,hbr,hbo⟩:=hq;refine⟨w2,hbr,Bl1 hbo (fun e2 a2 w3 hfin=> ?_)⟩;obtain⟨hdf,hfin⟩:=hfin;rcases hfin with⟨ρ2,M2,ob2,h2,hn2,hcase⟩|⟨⟨t,u,rfl⟩,r1,ρ2,M2,ob2,h2,hr1,hn2,hgp⟩
  ·rcases hcase with⟨rfl,hgd⟩|⟨rfl,hgx⟩|⟨id,rfl,hgx⟩|⟨id,rfl,hgx⟩
   ·obtain⟨b1,b2,b3,b4,b5,b6,b7⟩:=fin .ready none ρ2 M2 ob2 w3 h2 hn2;exact⟨_,_,run_endRound (P:=P) none b1,M2,b2,b3,b6.szw,b4,b5,.inl ⟨rfl,Mem.le_trans hle b2,ρ2,ob2,hgd,b6,b7⟩⟩
   ·obtain⟨b1,b2,b3,b4,b5,b6,b7⟩:=fin .done (some .ret) ρ2 M2 ob2 w3 h2 hn2;exact⟨_,_,run_endRound (P:=P) (some .ret) b1,M2,b2,b3,b6.szw,b4,b5,.inr (.inl ⟨rfl,Mem.le_trans hle b2,ρ2,ob2,.ret,hgx,b6,b7⟩)⟩
   ·obtain⟨b1,b2,b3,b4,b5,b6,b7⟩:=fin .done (some (.exit id)) ρ2 M2 ob2 w3 h2 hn2;exact⟨_,_,run_endRound (P:=P) (some (.exit id)) b1,M2,b2,b3,b6.szw,b4,b5,.inr (.inl ⟨rfl,Mem.le_trans hle b2,ρ2,ob2,.exit id,hgx,b6,b7⟩)⟩
   ·obtain⟨b1,b2,b3,b4,b5,b6,b7⟩:=fin .done (some (.goto id)) ρ2 M2 ob2 w3 h2 hn2;exact⟨_,_,run_endRound (P:=P) (some (.goto id)) b1,M2,b2,b3,b6.szw,b4,b5,.inr (.inl ⟨rfl,Mem.le_trans hle b2,ρ2,ob2,.goto id,hgx,b6,b7⟩)⟩
  ·obtain⟨b2,b3,b4,b5,r2,b8,b6,b7⟩:=pan r1 ρ2 M2 ob2 w3 h2 hr1 hn2;exact⟨hdf,M2,b2,b3,b6.szw,b4,b5,.inr (.inr ⟨⟨t,u,rfl⟩,Mem.le_trans hle b2,r2,ρ2,ob2,hgp,b8,b6,b7⟩)⟩
 |_=>exact hq
end
end
section
def Af5(K:List Nat):Tri->Bool
 | .e=>true
 | .lf v=>R6 K v
 | .nd l r=>match Af5 K l with|true=>Af5 K r|false=>false
theorem W3{K:List Nat}:∀(d:Nat) (t:Tri) (n:Nat),Af5 K t=true->R6 K (t.get d n)=true
 |_,.e,_,_=>by rw[Tri.get_e];rfl
 |0,.lf v,_,h=>h
 |d+1,.lf v,_,h=>h
 |0,.nd _ _,_,_=>rfl
 |d+1,.nd l r,n,h=>by
  simp only[Af5]at h;split at h
  ·rename_i hl;simp only[Tri.get];split
   ·exact W3 d l _ hl
   ·exact W3 d r _ h
  ·cases h
def Ak8:List Nat->Bool
 |[]=>true
 |k::l=>match Nat.ble 2000 k with|true=>Ak8 l|false=>false
theorem Av9:∀{l:List Nat} {r:Nat},Ak8 l=true->D7 r l=true->Nat.ble 2000 r=true
 |[],_,_,h=>by cases h
 |k::l,r,hb,h=>by
  unfold Ak8 at hb;split at hb
  ·rename_i h1;unfold D7 at h;split at h
   ·rename_i he;rw[nB_ he];exact h1
   ·exact Av9 hb h
  ·cases hb
def Au3(N:Nat)(c:Cfg):Option (FuncId×List V×List V):=match c.td with
 | .code (.rangeFunc g _ _ _)::_=>match G2 N c.sl g with
   | .fn gf first cap=>some (gf,first,cap)
   | .d (.fnc gf)=>some (gf,[],[])
   |_=>none
 |_=>none
theorem Cd6{N:Nat}{c:Cfg}{gf:FuncId}{first cap:List V}(h:Au3 N c=some (gf,first,cap)):∃g ps as bo k,c.td= .code (.rangeFunc g ps as bo)::k/\∀{S:N0} {wl w:World} {M0 M:Mem} {ρ:Rho} {f:Nat->Value} {ds:List Deferred},Abs S wl M0 M ρ N c f w->∃fs cs,(fr N f ds).eval g= .func (.func gf) fs.toArray cs.toArray/\B5 M ρ first fs/\B5 M ρ cap cs:=by
 unfold Au3 at h;split at h
 ·rename_i g ps as bo k ht;refine⟨g,ps,as,bo,k,ht,?_⟩;intro S wl w M0 M ρ f ds ha;have hr:=F6 (ds:=ds) ha g;split at h
  ·rename_i gf' first' cap' hv;cases h;rw[hv]at hr;simp only[C0]at hr;exact hr
  ·rename_i gf' hv;cases h;rw[hv]at hr;have hr:=H2 hr;generalize (fr N f ds).eval g=u at hr⊢;cases hr;exact⟨[],[],rfl,by simp only[B5],by simp only[B5]⟩
  ·cases h
 ·cases h
def Ay4(base:List Deferred):List Nat->List Deferred
 |[]=>base
 |D::Ds=>{target:= .collected D,args:= #[]}::Ay4 base Ds
abbrev dfs(Ds:List Nat):List Deferred:=Ay4 [] Ds
structure Bas where
 w:World
 s:Nat->Prop
abbrev Bas.of(w:World):Bas:=⟨w,fun _=>False⟩
structure Go7(s0:Nat->Prop)(M0 M:Mem)(w0 w:World):Prop where
 os:w.os=w0.os
 tape:w.tape=w0.tape
 output:w.output=w0.output
 size:w0.heap.size<=w.heap.size
 block:∀k,k<w0.heap.size->¬s0 k->w.heap[k]? =w0.heap[k]?
 le:Mem.le M0 M
 sits:Ai2 M w
 new:∀b c,M b=some c->b<w0.heap.size->M0 b=some c\/s0 b
theorem toS{s0:Nat->Prop}{M0 M:Mem}{w0 w:World}(h:Ext M0 M w0 w):Go7 s0 M0 M w0 w:=
 ⟨h.below.os,h.below.tape,h.below.output,h.below.size,fun k hk _=>h.below.block k hk,h.le,h.sits,fun b c hb hlt=> .inl (h.new b c hb hlt)⟩
def Hb7(wl:World)(M0:Mem):Option V->Ending->World->Prop
 |some v=>Fz5 wl M0 v
 |none=>Hb5 wl M0
def HM(w0:Bas)(M00:Mem)(Ds:List Nat)(S:N0)(wl:World)(M0:Mem):Prop:=
 Go7 w0.s M00 M0 w0.w wl/\(∀b,S.s b->w0.s b\/w0.w.heap.size<=b)/\(∀D,D∈Ds->w0.w.heap.size<=D/\D<wl.heap.size/\¬S.s D/\M0 D=none/\wl.heap[D]? =some (.deferred (some [])))/\Ds.Nodup
def Bi3(P:Program)(fn:Func)(R:Ending->World->Prop)(w0:Bas)(M00:Mem)(hr:Rho)(Ds:List Nat):Fin where
 H:=fun S wl M0=>S.r0=hr/\HM w0 M00 Ds S wl M0
 post:=fun _ _ _ e a w=>bodyPostM (WF none) 0 P fn R e a w
abbrev Gn3(P:Program)(fn:Func)(v:Option V)(w0:World)(M00:Mem)(hr:Rho)(Ds:List Nat):Fin:=Bi3 P fn (Hb7 w0 M00 v) (.of w0) M00 hr Ds
abbrev Gn5(P:Program)(fn:Func)(v:V)(w0:World)(M00:Mem)(Ds:List Nat):Fin:=Gn3 P fn (some v) w0 M00 noR Ds
section
variable {P:Program} {N:Nat} {fn:Func} {v:V} {w0:World} {M00:Mem} {b0:Bas} {Ds:List Nat} {c:Cfg} {S:N0} {wl w:World} {M0 M:Mem} {ρ:Rho} {ob:Nat->Option B9} {f:Nat->Value}
theorem Ci4(hH:HM b0 M00 Ds S wl M0)(h:Ow S wl M0 M ρ ob w)(hn:∀q z,ob q≠some (.frn z)):
 HM b0 M00 Ds ⟨TA ρ ob,noR⟩ w M/\Ow ⟨TA ρ ob,noR⟩ w M M ρ ob w:=by
 obtain⟨h1,h2,h3,h4⟩:=hH;refine⟨⟨⟨h.os.trans h1.os,h.tape.trans h1.tape,h.output.trans h1.output,Nat.le_trans h1.size h.size,fun k hk hs0=> ?_,Mem.le_trans h1.le h.le,h.sits,fun b c hb hlt=> ?_⟩,fun b hb=> ?_,fun D hD=> ?_,h4⟩,h.base M.le_refl h.sits (Nat.le_refl _) (fun k hk=>⟨rfl,rfl⟩) (fun q i hq _=>absurd hq (hn q q)) (fun q z hq=>absurd hq (hn q z)) (fun _ _ _ h=>(by cases h)) h.szw⟩
 ·rw[h.old k (Nat.lt_of_lt_of_le hk h1.size) (fun hs=>by rcases h2 k hs with h5|h5;exact hs0 h5;omega)];exact h1.block k hk hs0
 ·rcases h.new b c hb (Nat.lt_of_lt_of_le hlt h1.size) with h5|h5
  ·exact h1.new b c h5 hlt
  ·rcases h2 b h5 with h6|h6
   ·exact .inr h6
   ·omega
 ·rcases(N1 h hb).1 with h5|h5
  ·exact h2 b h5
  ·exact .inr (Nat.le_trans h1.size h5)
 ·obtain⟨a1,a2,a3,a4,a5⟩:=h3 D hD;refine⟨a1,Nat.lt_of_lt_of_le a2 h.size,fun ht=> ?_,?_,by rw[h.old D a2 a3];exact a5⟩
  ·rcases(N1 h ht).1 with h5|h5
   ·exact a3 h5
   ·omega
  ·cases hm:M D with
   |none=>rfl
   |some c=>
    rcases h.new D c hm a2 with h5|h5
    ·rw[a4]at h5;cases h5
    ·exact absurd h5 a3
theorem Bg0{tmps:Array Value}{R:Ending->World->Prop}{base:List Deferred}{u:FrameMode}(hu:u≠ .run)(hn:∀q z,ob q≠some (.frn z))(hbase:∀S w,HM b0 M00 [] S w M->Ow S w M M ρ ob w->LeavesInM (WF none) 0 P fn tmps R base u w):
 ∀(Ds:List Nat) (S:N0) (wl w:World) (M0:Mem),HM b0 M00 Ds S wl M0->Ow S wl M0 M ρ ob w->LeavesInM (WF none) 0 P fn tmps R (Ay4 base Ds) u w
 |[],S,wl,w,M0,hH,h=>by
  obtain⟨h1,h2⟩:=Ci4 hH h hn;exact hbase _ _ h1 h2
 |D::Ds,S,wl,w,M0,hH,h=>by
  obtain⟨⟨h1,h2,h3,h4⟩,h5⟩:=Ci4 hH h hn;obtain⟨a1,a2,a3,a4,a5⟩:=h3 D List.mem_cons_self;refine⟨hu,.inl ⟨D,w.putObj D (.deferred none),rfl,run_takeDeferred a5,?_⟩⟩;have hoth:∀k,k≠D->(w.putObj D (.deferred none)).heap[k]? =w.heap[k]? :=fun k hk=>World.putObj_heap_other hk
  have hsits:Ai2 M (w.putObj D (.deferred none)):=fun b c hb=>by
   have:b≠D:=fun e=>by rw[e,a4]at hb;cases hb
   rw[hoth b this];exact h5.sits b c hb
  refine Bg0 hu hn hbase Ds ⟨TA ρ ob,noR⟩ (w.putObj D (.deferred none)) (w.putObj D (.deferred none)) M ⟨⟨h1.os,h1.tape,h1.output,by simpa using h1.size,fun k hk hs0=> ?_,h1.le,hsits,h1.new⟩,h2,fun D' hD'=> ?_,(List.nodup_cons.1 h4).2⟩ ?_
  ·rw[hoth k (by omega)];exact h1.block k hk hs0
  ·obtain⟨b1,b2,b3,b4,b5⟩:=h3 D' (List.mem_cons_of_mem _ hD');refine⟨b1,by simpa using b2,b3,b4,?_⟩;rw[hoth D' (fun e=>(List.nodup_cons.1 h4).1 (e▸hD'))];exact b5
  ·exact h.base M.le_refl hsits (by simp) (fun k hk=>⟨hoth k (fun e=>a3 (e▸hk)),rfl⟩) (fun q i hq _=>absurd hq (hn q q)) (fun q z hq=>absurd hq (hn q z)) (fun _ _ _ h=>(by cases h)) (h.szw.frame fun k _ ⟨cs,e⟩=>hoth k fun e'=>by
   obtain⟨us,⟨c,hc,_⟩,_⟩:=h.gl.ok.d k cs e;rw[e',a4]at hc;cases hc)
theorem F3{l:List (Nat×B9)}(h:V2 l=true):∀q z,B4 l q≠some (.frn z):=Ew3 h
theorem En5{rs:List ResultVar}{vs xs ys:List V}{wr:Wr}(hfn:fn.results=rs.toArray)(hv:Dz1 P N c rs=some vs)(hx:N2 (B4 c.ob) vs=some (xs,wr))(hre:M8 xs ys)(he:Di3 ys=v)
 (hH:HM (.of w0) M00 [] S wl M0) (h:Abs S wl M0 M ρ N c f w):LeavesInM (WF none) 0 P fn (fr N f []).tmps (Fz5 w0 M00 v) [] .returning w:=by
 obtain⟨us,h3,h4⟩:=Am1 h hv;obtain⟨M',r1,o1,d1⟩:=F5 h.ow h4 hx;obtain⟨h1,h2,_⟩:=hH;refine⟨Da6 us,P1 (ds:=[]) hfn h3,Da6 us,M',rfl,⟨⟨o1.os.trans h1.os,o1.tape.trans h1.tape,o1.output.trans h1.output,Nat.le_trans h1.size o1.size,fun k hk=> ?_⟩,Mem.le_trans h1.le o1.le,o1.sits,fun b c hb hlt=> ?_⟩,?_⟩
 ·rw[o1.old k (Nat.lt_of_lt_of_le hk h1.size) (fun hs=>by rcases h2 k hs with h5|h5;exact h5;exact absurd hk (Nat.not_lt.2 h5))];exact h1.block k hk id
 ·rcases o1.new b c hb (Nat.lt_of_lt_of_le hlt h1.size) with h5|h5
  ·exact(h1.new b c h5 hlt).resolve_right id
  ·rcases h2 b h5 with h6|h6
   ·exact h6.elim
   ·exact absurd hlt (Nat.not_lt.2 h6)
 ·rw[<-he];exact Aq9 (hre.rel (d1 noR))
theorem Ai1{rs:List ResultVar}{xs:List V}(ys:List V)(hfn:fn.results=rs.toArray)(hN:Nat.ble N 1024=true)(hv:Dy9 P N c rs=some xs)(hre:M8 xs ys)(he:Di3 ys=v)(hn:V2 c.ob=true):J none P N (dfs Ds) (Gn5 P fn v w0 M00 Ds) c:=by
 refine⟨H3 hN,fun S wl M0 hH M ρ f w h=> ?_⟩;unfold Dy9 at hv;split at hv
 ·rename_i hat;split at hv
  ·rename_i vs hvs;split at hv
   ·rename_i xs' wr hx;cases hv;have key:bodyPostM (WF none) 0 P fn (Fz5 w0 M00 v) .ret (fr N f (dfs Ds)) w:=Bg0 (tmps:=(fr N f []).tmps) (by intro e;cases e) (F3 hn) (fun S w h1 h2=>En5 hfn hvs hx hre he h1 ⟨h2,h.ok,h.sl⟩) Ds S wl w M0 hH.2 h.ow;unfold Bi5 at hat;split at hat
    ·rename_i ht;rw[ht];exact Cj0 (Ab7 _ hat key)
    ·rename_i ht;rw[ht];exact key
    ·cases hat
   ·cases hv
  ·cases hv
 ·cases hv
theorem Et6{g:FuncId}{c:Code}{vs:List Value}{R:Ending->World->Prop}(hf:P.funcs[g]? =some fn)(hb:fn.body=some c)(hN:fn.ntmps=N)(hv:vs.length<=N)
 (h:W none P c (bodyPostM (WF none) 0 P fn R) (fr N (Bv6 vs) []) w):Calls P g vs.toArray w R:=by
 refine CallsIn.calls (F:=WF none) (n:=0) ⟨trivial,fun cs hr=> ?_⟩ (Aa2 none)
 let b:Frame:={(default:Frame) with fn:=g,kind:= .normal,roundOf:=none}
 have henter:Frame.enter P g vs.toArray .normal=b.atR (fr N (Bv6 vs) []) [.code c]:=by
  rw[<-Cv7 N vs hv,<-hN];simp[Frame.enter,Frame.atR,hf,hb,b]
 obtain⟨e,a',w',hq,harr⟩:=Dc7 h b [] cs rfl ⟨fn,hf⟩;rw[<-henter]at harr;cases e with
 |normal=>
  obtain⟨e',w'',fr',hR,hs,hfn,hl⟩:=leaves_stepsInM (F:=WF none) a'.defers .returning w' {b.atR a' [] with mode:= .returning} cs rfl rfl rfl hf rfl trivial hr hq;exact⟨e',w'',fr',hR,ComesIn.of_steps (StepsIn.trans harr (.one (L0 (fr:=b.atR a' []) rfl) (stepR_end rfl))) hs,hfn,hl⟩
 |ret=>
  obtain⟨todo,hs₀⟩:=harr.1 rfl;obtain⟨e',w'',fr',hR,hs,hfn,hl⟩:=leaves_stepsInM (F:=WF none) a'.defers .returning w' {b.atR a' todo with mode:= .returning} cs rfl rfl rfl hf rfl trivial hr hq;exact⟨e',w'',fr',hR,ComesIn.of_steps hs₀ hs,hfn,hl⟩
 |panic chain=>
  obtain⟨todo,hs₀⟩:=harr;obtain⟨e',w'',fr',hR,hs,hfn,hl⟩:=leaves_stepsInM (F:=WF none) a'.defers (.panicking chain) w' {b.atR a' todo with mode:= .panicking chain} cs rfl rfl rfl hf rfl trivial hr hq;exact⟨e',w'',fr',hR,ComesIn.of_steps hs₀ hs,hfn,hl⟩
 |exit id=>exact hq.elim
 |goto l=>exact hq.elim
 |outgrown=>exact⟨.outgrown,w',b,hq,harr.resolve_left (by simp[b]),rfl,trivial⟩
theorem Fh1{g:FuncId}{b:Code}{args:List V}{o:Option V}(hf:P.funcs[g]? =some fn)(hb:fn.body=some b)(hN:fn.ntmps=N)(hv:Nat.ble args.length N=true)(h:∀w0 M00,J none P N (dfs []) (Gn3 P fn o w0 M00 noR []) ⟨mkT (Dh8 0 args),[],[.code b]⟩):Go5 P g args o:=by
 have key:∀M w vals,Ai2 M w->GlA M w->B5 M noR args vals->Calls P g vals.toArray w (Hb7 w M o):=by
  intro M w vals hs hgl hr;have hl:=H3 hv;refine Et6 hf hb hN (by rw[hr.len];exact hl) ?_;have h:=h w M;have:=h.2 ⟨fun _=>False,noR⟩ w M ⟨rfl,toS (Ext.refl hs),fun _ h=>h.elim,fun _ h=>(by cases h),List.nodup_nil⟩ M noR (Bv6 vals) w ⟨⟨Nat.le_refl _,rfl,rfl,rfl,fun _ _ _=>rfl,hs,M.le_refl,hgl.entry (fun _ _ _ h=>h),fun _ _ h _=> .inl h,fun r o h=>(by simp[B4]at h),fun r i h=>(by cases h),fun r r' o o' i i' b h=>(by simp[B4]at h),fun r i _ h=>(by cases h)⟩,Ai6 _,Ab1 h.1 _ (fun t v hm=>by
   obtain⟨_,h2⟩:=Aa4 hm;rw[Nat.sub_zero]at h2;obtain⟨u,h3,h4⟩:=hr.get h2;exact⟨Nat.lt_of_lt_of_le (List.getElem?_eq_some_iff.1 h2).1 hl,by unfold Bv6;rw[h3];exact h4⟩)⟩
  simp only[Wk,Exit.then]at this;exact this
 cases o with
 |some v=>exact key
 |none=>exact key
theorem Ay2{g:FuncId}{b:Code}{args:List V}(hf:P.funcs[g]? =some fn)(hb:fn.body=some b)(hN:fn.ntmps=N)(hv:Nat.ble args.length N=true)(h:∀w0 M00,J none P N (dfs []) (Gn5 P fn v w0 M00 []) ⟨mkT (Dh8 0 args),[],[.code b]⟩):C3 P g args v:=
 Fh1 (o:=some v) hf hb hN hv h
end
def okB(K:List Nat)(ob:List (Nat×B9)):Bool:=match V2 ob,K2 (B4 ob) (G1 ob) (G1 ob),Ee5 K (G1 ob),D7 3000 (G1 ob),D7 3001 (G1 ob) with
 |true,true,true,false,false=>true
 |_,_,_,_,_=>false
theorem Az1{K:List Nat}{ob:List (Nat×B9)}(h:okB K ob=true):V2 ob=true/\K2 (B4 ob) (G1 ob) (G1 ob)=true/\Ee5 K (G1 ob)=true/\D7 3000 (G1 ob)=false/\D7 3001 (G1 ob)=false:=by
 unfold okB at h;split at h
 ·rename_i h1 h2 h3 h4 h5;exact⟨h1,h2,h3,h4,h5⟩
 ·cases h
def Bd5(id:Nat):List It->Bool
 |[]=>true
 | .inBlock i::k=>match Nat.beq i id with|true=>false|false=>Bd5 id k
 | .begR _::_=>false
 |_::k=>Bd5 id k
theorem S5{r:Option Nat}{P:Program}{fin':Exit->Act->World->Prop}{id:Nat}{a:Act}{w:World}:∀{k:List It},Bd5 id k=true->fin' (.exit id) a w->Wk r P fin' k (.exit id) a w
 |[],_,hw=>hw
 | .inBlock i::k,h,hw=>by
   unfold Bd5 at h;split at h
   ·cases h
   ·rename_i hb;have hne:¬id=i:=fun e=>by subst e;simp at hb
    simp only[Wk,Exit.inBlock,if_neg hne];exact S5 h hw
 | .code c::k,h,hw=>by simp only[Wk,Exit.then];exact S5 (k:=k) h hw
 | .inLoop b::k,h,hw=>by simp only[Wk,Exit.then];exact S5 (k:=k) h hw
 | .inScope _::k,h,hw=>by simp only[Wk,Bj2];exact S5 (k:=k) h hw
 | .ops a b::k,h,hw=>by simp only[Wk,Exit.then];exact S5 (k:=k) h hw
 | .begR _::_,h,_=>by cases h
section
variable {P:Program} {N:Nat} {x:Lp} {Good:List (List V)->List (Nat×B9)->Prop} {GoodX:Code->List (Nat×B9)->Prop} {GoodP:List (Nat×B9)->Prop} {ys:List (List V)} {c:Cfg}
theorem Bb7(hN:Nat.ble N 1024=true)(ob:List (Nat×B9))(ht:c.td=[])(hob:c.ob=rob x .busy none ob)(hn:V2 ob=true)(hg:Good ys ob):J (some x.L) P N [] (Ed9 x Good GoodX GoodP ys) c:=by
 refine⟨H3 hN,fun S wl M0 hH M ρ f w h=> ?_⟩;rw[ht];exact⟨rfl,.inl ⟨ρ,M,ob,hob▸h.ow,F3 hn,.inl ⟨rfl,hg⟩⟩⟩
theorem Dn3(hN:Nat.ble N 1024=true)(ob:List (Nat×B9)){id:Nat}{k:List It}(ht:c.td= .code (.exit id)::k)(hk:Bd5 id k=true)(hob:c.ob=rob x .busy none ob)(hn:V2 ob=true)(hg:GoodX (.exit id) ob):J (some x.L) P N [] (Ed9 x Good GoodX GoodP ys) c:=by
 refine⟨H3 hN,fun S wl M0 hH M ρ f w h=> ?_⟩;rw[ht];exact Er4 (S5 hk ⟨rfl,.inl ⟨ρ,M,ob,hob▸h.ow,F3 hn,.inr (.inr (.inl ⟨id,rfl,hg⟩))⟩⟩)
theorem Cr9(hN:Nat.ble N 1024=true)(ob:List (Nat×B9)){k:List It}(ht:c.td= .code .ret::k)(hk:Bf7 k=true)(hob:c.ob=rob x .busy none ob)(hn:V2 ob=true)(hg:GoodX .ret ob):J (some x.L) P N [] (Ed9 x Good GoodX GoodP ys) c:=by
 refine⟨H3 hN,fun S wl M0 hH M ρ f w h=> ?_⟩;rw[ht];exact Cj0 (Ab7 _ hk ⟨rfl,.inl ⟨ρ,M,ob,hob▸h.ow,F3 hn,.inr (.inl ⟨rfl,hg⟩)⟩⟩)
end
def Q4(g:V->V):Tri->Tri
 | .e=> .e
 | .lf v=> .lf (g v)
 | .nd l r=> .nd (Q4 g l) (Q4 g r)
theorem Y6{g:V->V}(hg:g .undef= .undef):∀(d:Nat) (t:Tri) (n:Nat),(Q4 g t).get d n=g (t.get d n)
 |d,.e,n=>by simp only[Q4];rw[Tri.get_e,hg]
 |0,.lf v,n=>rfl
 |d+1,.lf v,n=>by simp only[Q4,Tri.get];try exact hg.symm
 |0,.nd l r,n=>by simp only[Q4,Tri.get];try exact hg.symm
 |d+1,.nd l r,n=>by
  simp only[Q4,Tri.get];split
  ·exact Y6 hg d l _
  ·exact Y6 hg d r _
theorem Ap3{g:V->V}:∀(d:Nat) (t:Tri),t.ok d->(Q4 g t).ok d
 |0,.e,_=>trivial
 |_+1,.e,_=>trivial
 |0,.lf _,_=>rfl
 |_+1,.lf _,h=>h
 |0,.nd _ _,h=>h
 |d+1,.nd l r,h=>⟨Ap3 d l h.1,Ap3 d r h.2⟩
def Ee4(p:List (Nat×Nat))(ob:Nat->Option B9):List (Nat×Nat)->List (Nat×B9)
 |[]=>[]
 |(a,b)::l=>match ob a with|some o=>(b,Cy9 p o)::Ee4 p ob l|none=>Ee4 p ob l
theorem Bt9{p:List (Nat×Nat)}{ob:Nat->Option B9}(q:Nat):∀l:List (Nat×Nat),(∀a b,(a,b)∈l->∃o,ob a=some o)->B4 (Ee4 p ob l) q=match lk (inv l) q with|some a=>(match ob a with|some o=>some (Cy9 p o)|none=>none)|none=>none
 |[],_=>rfl
 |(a,b)::l,h=>by
  obtain⟨o,ha⟩:=h a b List.mem_cons_self;have ih:=Bt9 (p:=p) q l (fun a b hm=>h a b (List.mem_cons_of_mem _ hm));simp only[Ee4,inv,lk,ha,B4];cases hq:Nat.beq q b with
  |true=>simp only[ha]
  |false=>exact ih
def Cj2(p:List (Nat×Nat))(ob:Nat->Option B9):List (Nat×Nat)->Bool
 |[]=>true
 |(a,_)::l=>match ob a with|some _=>Cj2 p ob l|none=>false
def Bc5(p:List (Nat×Nat)):List (Nat×B9)->Bool
 |[]=>true
 |(r,_)::l=>match Nat.ble 2000 r with
  |true=>match lk p r with|some s=>(match Nat.beq s r with|true=>Bc5 p l|false=>false)|none=>false
  |false=>Bc5 p l
theorem Aw0{p:List (Nat×Nat)}:∀{l:List (Nat×B9)} {r:Nat} {o:B9},Bc5 p l=true->B4 l r=some o->Nat.ble 2000 r=true->lk p r=some r
 |[],_,_,_,h,_=>by cases h
 |(q,x)::l,r,o,h,ho,hb=>by
  unfold Bc5 at h;simp only[B4]at ho;cases hq:Nat.beq r q with
  |true=>
   obtain rfl:=nB_ hq;rw[hb]at h;simp only at h;split at h
   ·rename_i s hs;split at h
    ·rename_i he;rw[hs,nB_ he]
    ·cases h
   ·cases h
  |false=>
   rw[hq]at ho;refine Aw0 (l:=l) ?_ ho hb;split at h
   ·split at h
    ·split at h
     ·exact h
     ·cases h
    ·cases h
   ·exact h
section
variable {r:Option Nat} {P:Program} {N:Nat} {ds:List Deferred} {fin:Fin} {c:Cfg}
theorem At1{p:List (Nat×Nat)}{ob:Nat->Option B9}:∀{l:List (Nat×Nat)},Cj2 p ob l=true->∀a b,(a,b)∈l->∃o,ob a=some o
 |[],_,a,b,h=>by cases h
 |(x,y)::l,h,a,b,hm=>by
  unfold Cj2 at h;split at h
  ·rename_i o ho;rcases List.mem_cons.1 hm with e|hm
   ·cases e;exact⟨o,ho⟩
   ·exact At1 h a b hm
  ·cases h
theorem Ax2(p:List (Nat×Nat))(hb:bij p=true)(ha:Cj2 p (B4 c.ob) p=true)(hs:Bc5 p c.ob=true)(hn:V2 c.ob=true)(hk:J r P N ds fin ⟨Q4 (Aw8 p) c.sl,Ee4 p (B4 c.ob) p,c.td⟩):J r P N ds fin c:=by
 refine⟨hk.1,fun S wl M0 hH M ρ f w h=> ?_⟩;have e:X4 p (B4 c.ob)=B4 (Ee4 p (B4 c.ob) p):=by
  funext q;rw[Bt9 q p (fun a b hm=>At1 ha a b hm)];unfold X4;cases lk (inv p) q with
  |none=>rfl
  |some a=>rfl
 have ho:=h.ow.ren (r1:=S.r0) hb (fun a o t h1 h2=>by
  cases hf:Cb1 o with
  |false=>rfl
  |true=>
   cases o with
   |frn z=>exact absurd h2 (F3 hn a z)
   |_=>cases hf) (fun t i hbt hi=>by
  obtain⟨j,h1,h2⟩:=h.ow.held t i hbt hi;obtain⟨o,h3⟩:=h.ow.dom t j h1;exact⟨j,by rw[Af2 hb (Aw0 hs h3 hbt)];exact h1,h2⟩)
 rw[e]at ho;refine hk.2 S wl M0 hH M (Au5 p ρ) f w ⟨ho,Ap3 10 _ h.ok,fun t ht=> ?_⟩;dsimp only;rw[Y6 rfl];exact Bu1 hb _ (h.sl t ht)
theorem Er1{fn:Func}{R:Ending->World->Prop}{w0:Bas}{M00:Mem}{Ds:List Nat}{hr:Rho}(p:List (Nat×Nat))(hhr:∀t i,hr t=some i->lk (inv p) t=some t)(hb:bij p=true)(ha:Cj2 p (B4 c.ob) p=true)(hn:V2 c.ob=true)(hk:J r P N ds (Bi3 P fn R w0 M00 hr Ds) ⟨Q4 (Aw8 p) c.sl,Ee4 p (B4 c.ob) p,c.td⟩):J r P N ds (Bi3 P fn R w0 M00 hr Ds) c:=by
 refine⟨hk.1,fun S wl M0 hH M ρ f w h=> ?_⟩;have e:X4 p (B4 c.ob)=B4 (Ee4 p (B4 c.ob) p):=by
  funext q;rw[Bt9 q p (fun a b hm=>At1 ha a b hm)];unfold X4;cases lk (inv p) q with
  |none=>rfl
  |some a=>rfl
 have ho:=h.ow.ren (r1:=S.r0) hb (fun a o t h1 h2=>by
  cases hf:Cb1 o with
  |false=>rfl
  |true=>
   cases o with
   |frn z=>exact absurd h2 (F3 hn a z)
   |_=>cases hf) (fun t i hbt hi=>by
  obtain⟨j,h1,h2⟩:=h.ow.held t i hbt hi;rw[show S.r0=hr from hH.1]at hi;exact⟨j,by unfold Au5;rw[hhr t i hi];exact h1,h2⟩)
 rw[e]at ho;refine hk.2 S wl M0 hH M (Au5 p ρ) f w ⟨ho,Ap3 10 _ h.ok,fun t ht=> ?_⟩;dsimp only;rw[Y6 rfl];exact Bu1 hb _ (h.sl t ht)
theorem Bw7{fn:Func}{v:Option V}{w0:World}{M00:Mem}{Ds:List Nat}(p:List (Nat×Nat))(hb:bij p=true)(ha:Cj2 p (B4 c.ob) p=true)(hn:V2 c.ob=true)(hk:J r P N ds (Gn3 P fn v w0 M00 noR Ds) ⟨Q4 (Aw8 p) c.sl,Ee4 p (B4 c.ob) p,c.td⟩):J r P N ds (Gn3 P fn v w0 M00 noR Ds) c:=
 Er1 p (fun _ _ h=>by cases h) hb ha hn hk
theorem Cm9{fin:Fin}{sl:Tri}{ps:List Tmp}{y:List V}{ob:List (Nat×B9)}{td:List It}(h1:(Au9 N sl ps y).isSome=true)(h2:J r P N ds fin ⟨(Au9 N sl ps y).getD .e,ob,td⟩):∃sl',Au9 N sl ps y=some sl'/\J r P N ds fin ⟨sl',ob,td⟩:=by
 cases h:Au9 N sl ps y with
 |none=>rw[h]at h1;cases h1
 |some sl'=>rw[h]at h2;exact⟨sl',rfl,h2⟩
end
theorem smh{α β:Type}{l k:List α}{f:α->β}{lo:Int}(h:slc l lo (l.length:Int)=some k):slc (l.map f) lo ((l.map f).length:Int)=some (k.map f):=by
 rw[List.length_map];exact sm h
theorem gmd{α β:Type}{l:List α}{f:α->β}{n:Nat}{i:Int}{y:α}(h:C6 (l.drop n) i=some y):C6 ((l.map f).drop n) i=some (f y):=by
 rw[<-List.map_drop];exact gm h
theorem gjd{α:Type}{l:List α}{n:Nat}{i:Int}{y:α}(h:C6 (l.drop n) i=some y):l[(n+i.toNat)]? =some y:=by
 have:=(N5 h).2
 rwa [List.getElem?_drop]at this
end
section
theorem B5.split{M:Mem}{ρ:Rho}:∀{us vs:List Value} {xs:List V},B5 M ρ xs (us++vs)->B5 M ρ (xs.take us.length) us/\B5 M ρ (xs.drop us.length) vs
 |us,vs,xs,h=>by
  have h1:=B5.take us.length h;have h2:=B5.drop us.length h;simp at h1 h2;exact⟨h1,h2⟩
def Go4(c:Cfg)(vs:List V):Option (List V):=match N2 (B4 c.ob) vs with|some (xs,_)=>some xs|none=>none
def obR(c:Cfg)(vs:List V):List (Nat×B9):=match N2 (B4 c.ob) vs with|some (_,wr)=>R2 c.ob wr|none=>c.ob
theorem Gp7{r:Option Nat}{P:Program}{N:Nat}{ds:List Deferred}{fin:Fin}{c:Cfg}(q:Nat){te:TypeId}(cs:List V)(hq:B4 c.ob q=some (.box te cs))(hx:(Go4 c [.ptr q 0]).isSome=true)(hk:J r P N ds fin ⟨c.sl,obR c [.ptr q 0],c.td⟩):J r P N ds fin c:=by
 refine⟨hk.1,fun S wl M0 hH M ρ f w ha=> ?_⟩;obtain⟨i,hi,hf,_⟩:=ha.ow.own q _ hq;have hu:B5 M ρ [.ptr q 0] [.pointer (some ⟨i.b,0,none⟩)]:=by
  simp only[B5,C0];exact⟨_,_,rfl,⟨i,hi,hf,rfl⟩,rfl⟩
 cases hx':N2 (B4 c.ob) [.ptr q 0] with
 |none=>simp[Go4,hx']at hx
 |some p=>
  obtain⟨xs,wr⟩:=p;obtain⟨M',r0,o0,_⟩:=F5 ha.ow hu hx';rw[Db5]at o0;have e:obR c [.ptr q 0]=R2 c.ob wr:=by unfold obR;rw[hx']
  rw[e]at hk;exact hk.2 S wl M0 hH M' ρ f w ⟨o0,ha.ok,fun t ht=>C0.mono r0 _ (ha.sl t ht)⟩
theorem Ci9{r:Option Nat}{P:Program}{g:Operand}{ps:Array Tmp}{assign body:Code}{Q:Exit->Act->World->Prop}{a:Act}{w:World}
 (h:∀fn,(∃x,P.funcs[fn]? =some x)->∃(l:Nat) (mark:List Deferred) (w₁:World) (d:Deferred) (w₁':World) (f:FuncId) (args:Array Value) (w₂:World),
  (Instr.enterLoop fn a.tmps ps assign body r).run P w= .ok (l,mark) w₁/\
  (resolve a.eval (rangeCall g l) 0).run P w₁= .ok d w₁'/\
  (invoke d.target d.args).run P w₁'= .ok (.enter f args) w₂/\
  CallsIn (WF r) 0 P f args w₂ (fun e w₃=>match e with
   | .returned _=>∃jump w₄,(Instr.endLoop l).run P w₃= .ok jump w₄/\(match jump with|none=>Q .normal {a with defers:=mark++a.defers} w₄|some c=>W r P c Q {a with defers:=mark++a.defers} w₄)
   | .panicked chain=>Q (.panic chain) {a with defers:=mark++a.defers} w₃
   | .outgrown=>False)):
 W r P (.rangeFunc g ps assign body) Q a w:=by
 unfold W;intro b k cs hro hb;obtain⟨l,mark,w₁,d,w₁',f,args,w₂,he,hres,hinv,hF,hcall⟩:=h b.fn hb;rw[<-hro]at he;have h0:(lone (b.atR a (.code (.rangeFunc g ps assign body)::k)) cs w).fenced P (WF r):=
  fenced_lone (.inl trivial) (fun f' _=>trivial) (Aa2 _ _)
 have henter:=stepR_rangeFunc (P:=P) (b:=b) (a:=a) (k:=k) (cs:=cs) (w:=w) he hres hinv;obtain⟨e,w₃,fr,hR,hsteps,hfn,hleave⟩:=hcall (b.atR {a with defers:=mark++a.defers} (.inRangeFunc l::k)::cs) (Aa2 _ _);cases e with
 |outgrown=>exact hR.elim
 |returned v=>
  have hl:(lone fr (b.atR {a with defers:=mark++a.defers} (.inRangeFunc l::k)::cs) w₃).fenced P (WF r):=fenced_leaving (n:=0) trivial (Aa2 _ _) hleave;obtain⟨jump,w₄,hend,hj⟩:=hR;have sback:StepsIn (Machine.fenced P (WF r)) P (lone (b.atR a (.code (.rangeFunc g ps assign body)::k)) cs w) (lone (b.atR {a with defers:=mark++a.defers} ((jump.map Item.code).toList++k)) cs w₄):=by
   refine .head h0 henter (StepsIn.trans hsteps (.head hl ?_ (.one (L0 (fr:=b.atR {a with defers:=mark++a.defers} (.endRangeFunc l::k)) rfl) (stepR_endRangeFunc hend))));rw[<-finish_atR_inRangeFunc l v];exact step_leave_returned hleave
  cases jump with
  |none=>exact⟨.normal,_,w₄,hj,sback⟩
  |some c=>
   obtain⟨e',a'',w₅,hq,harr⟩:=Dc7 hj b k cs hro hb;exact⟨e',a'',w₅,hq,.of_steps sback harr⟩
 |panicked chain=>
  have hl:(lone fr (b.atR {a with defers:=mark++a.defers} (.inRangeFunc l::k)::cs) w₃).fenced P (WF r):=fenced_leaving (n:=0) trivial (Aa2 _ _) hleave;refine⟨.panic chain,_,w₃,hR,.inRangeFunc l::k,.head h0 henter (StepsIn.trans hsteps (.one hl ?_))⟩;rw[<-Frame.raise_atR];exact step_leave_panicked hleave
def Dz3(N:Nat)(c:Cfg)(p:List (Nat×Nat))(vs:List V)(keep ids:List Nat):Option (List (Nat×B9)×List V×List (Nat×V)×List (Nat×B9)):=match Ai4 (B4 c.ob) p vs with
 |some (os,xs,wr)=>match pos ids (B4 (R2 c.ob wr)) ids,Bs0 ids (R2 c.ob wr),V2 (R2 c.ob wr),Bi2 ids (H7 p),V2 os,B4 os 2000 with
  |some obs,true,true,true,true,none=>some (os,xs,Cb3 N ids (B4 (R2 c.ob wr)) c.sl keep,obs)
  |_,_,_,_,_,_=>none
 |none=>none
def Cc9(K:List Nat)(v:V):V:=match R6 K v with|true=>v|false=> .undef
theorem Cn5(K:List Nat):Cc9 K .undef= .undef:=by unfold Cc9;split<;>rfl
theorem Ck3{ob3:List (Nat×B9)}{ob':Nat->Option B9}(hids:∀r,D7 r (G1 ob3)=true->ob' r=B4 ob3 r):T9 (G1 ob3) (G1 ob3) ob'=B4 ob3:=funext fun r=>by
 cases hm:D7 r (G1 ob3) with
 |true=>rw[P6 hm hm,hids r hm]
 |false=>
  have:B4 ob3 r=none:=by
   cases ho:B4 ob3 r with
   |none=>rfl
   |some o=>rw[I6.2 ⟨o,ho⟩]at hm;cases hm
  simp only[T9,hm,this]
theorem Cr7{P:Program}{N:Nat}{fn0:Func}{R0:Ending->World->Prop}{w00:Bas}{M00:Mem}{hr:Rho}{base:List Deferred}{Ds:List Nat}{c:Cfg}{g:Operand}{ps:Array Tmp}{asg bo:Code}{k:List It}{gf:FuncId}{first cap xs:List V}{os:List (Nat×B9)}{S1:List (Nat×V)}{ob0:List (Nat×B9)}(p:List (Nat×Nat))(keep ids:List Nat)(yl:List V){ysAll:List (List V)}{fl:Bool}(K KP:List Nat)(Good:List (List V)->List (Nat×B9)->Prop)(GoodX:Code->List (Nat×B9)->Prop)(GoodP:List (Nat×B9)->Prop)
 (hN:Nat.ble N 1024=true) (ht:c.td= .code (.rangeFunc g ps asg bo)::k) (hk:Bf7 k=true) (hv:Au3 N c=some (gf,first,cap)) (hl:Bi4 N keep=true) (hx:Dz3 N c p (first++cap) keep ids=some (os,xs,S1,ob0)) (hre:M8 xs yl) (he:A8 P gf)
 (hit:Dc4 P gf ((2000,.frn 2000)::os) (yl.take first.length++ .yl 2000::yl.drop first.length) ysAll fl\/(Eg6 P gf ((2000,.frn 2000)::os) (yl.take first.length++ .yl 2000::yl.drop first.length) ysAll fl/\∀ob,¬Good [] ob)) (hK:Ak8 K=true) (hkept:Bs0 K ob0=true) (hslots:Af5 K (mkT S1)=true) (hKP:Ee5 KP K=true) (hg0:Good ysAll ob0) (hnf:∀ys ob,Good ys ob->okB K ob=true) (hnfX:∀j ob,GoodX j ob->okB K ob=true) (hnfP:∀ob,GoodP ob->okB KP ob=true) (hnfP0:fl=true->∀ob,Good [] ob->okB KP ob=true)
 (hfree:B4 ob0 3000=none/\B4 ob0 3001=none)
 (hJ:∀x:Lp,x.as=asg->x.bo=bo->x.ps=ps->∀y ys ob,Good (y::ys) ob->∃sl',Au9 N (mkT S1) ps.toList y=some sl'/\J (some x.L) P N [] (Ed9 x Good GoodX GoodP ys) ⟨sl',rob x .ready none ob,[.code asg,.begR x.L,.code bo]⟩)
 (hdone:fl=false->∀D ob,Good [] ob->J none P N (Ay4 base (D::Ds)) (Bi3 P fn0 R0 w00 M00 hr (D::Ds)) ⟨mkT S1,ob,k⟩)
 (hstop:∀D ob j,GoodX j ob->J none P N (Ay4 base (D::Ds)) (Bi3 P fn0 R0 w00 M00 hr (D::Ds)) ⟨mkT S1,ob,.code j::k⟩)
 (hdie:fl=true->∀D ob,Good [] ob->JP N (Ay4 base (D::Ds)) (Bi3 P fn0 R0 w00 M00 hr (D::Ds)) (Q4 (Cc9 KP) (mkT S1)) ob)
 (hpan:∀D ob,GoodP ob->JP N (Ay4 base (D::Ds)) (Bi3 P fn0 R0 w00 M00 hr (D::Ds)) (Q4 (Cc9 KP) (mkT S1)) ob):J none P N (Ay4 base Ds) (Bi3 P fn0 R0 w00 M00 hr Ds) c:=by
 have hN:=H3 hN;unfold Dz3 at hx;split at hx
 case h_2=>cases hx
 rename_i os' xs' wr hh;split at hx
 case h_2=>cases hx
 rename_i obs hpos hkeptI hnfw hdj hnfos h2000;cases hx;refine⟨hN,fun S wl M0 hH Mo ρo f w hao=> ?_⟩;obtain⟨g',ps',as',bo',k',ht',hf⟩:=Cd6 hv;rw[ht]at ht';cases ht';obtain⟨fs,cs,hge,hfs,hcs⟩:=hf (ds:=Ay4 base Ds) hao;rw[ht];simp only[Wk,Exit.then];refine Ci9 (fun fn hfn=> ?_)
 --what is handed out
 unfold Ai4 at hh;split at hh
 case h_2=>cases hh
 rename_i xs0 wr0 hargs0 hbij hbig;split at hh
 case h_2=>cases hh
 rename_i hcl;cases hh;obtain⟨M,r0,o1,d1⟩:=Aa5 hao.ow (hfs.append hcs) hargs0;have hp:=o1.part (H7 p) (H7 p) (fun x o hm hx=>E8 hcl x o hm hx);have eR:Au5 p (O2 (H7 p) ρo)=Au5 p ρo:=by
  funext t;unfold Au5;split
  ·rename_i q hq;exact G0 (F2.2 ⟨t,Ai3 hbij hq⟩)
  ·rfl
 have eO:X4 p (T9 (H7 p) (H7 p) (wrO (B4 c.ob) wr))=X4 p (wrO (B4 c.ob) wr):=by
  funext t;unfold X4;split
  ·rename_i q hq;rw[P6 (F2.2 ⟨t,Ai3 hbij hq⟩) (F2.2 ⟨t,Ai3 hbij hq⟩)]
  ·rfl
 have hq:=hp.ren (r1:=Au5 p ρo) hbij (fun q o t hq ho=>by
  have hm:=F2.2 ⟨t,hq⟩;rw[P6 hm hm]at ho;have:=E8 hcl q o hm ho;cases o<;>first|rfl|cases this) (fun t i _ hi=>⟨i,by rw[eR];exact hi,Ile.refl i⟩)
 rw[eR,eO,<-Cn7 hbij]at hq;have hargs:=hre.rel (Q0 hbij _ d1);have hlen:fs.length=first.length:=hfs.len
 rw[Db5]at o1 hq h2000 hnfos hit;have hosE:B4 (Cd1 p (B4 (R2 c.ob wr)) p)=X4 p (B4 (R2 c.ob wr)):=Cn7 hbij _
 --what is kept
 have o0:=o1.prune (ids:=ids) (fun q o hb hq=>Ag9 hkeptI hq hb) hpos;have hsl:∀t,t<N->C0 M (Cz0 ids ρo) ((mkT (Cb3 N ids (B4 (R2 c.ob wr)) c.sl keep)).get 10 t) (f t):=fun t ht=>Ab1 hN _ (fun t v hm=>by
  obtain⟨rfl,h7⟩:=Be6 hm;have hlt:=Ag1 hl t h7;refine⟨hlt,Dx9 o1 _ ?_⟩;have:=C0.mono r0 _ (hao.sl t hlt);simp only[G2,show Nat.blt t N=true by simpa[Nat.blt_eq] using hlt];exact this) t ht
 have hTA0:∀b,TA (Au5 p ρo) (X4 p (B4 (R2 c.ob wr))) b->¬TA (Cz0 ids ρo) (B4 ob0) b/\(S b\/wl.heap.size<=b)/\b<w.heap.size:=fun b hb=>by
  obtain⟨q,i,o,hi,ho,hlv⟩:=hb;obtain⟨r',o',h1,h2,rfl⟩:=Ah0 ho;unfold Au5 at hi;rw[h1]at hi;dsimp only at hi;have hlv:=Bu0 hlv;have hta:TA ρo (B4 (R2 c.ob wr)) b:=⟨r',i,o',hi,h2,hlv⟩
  refine⟨fun hta'=> ?_,N1 o1 hta⟩;obtain⟨q',i',o2,hi',ho',hl'⟩:=hta';obtain⟨hm',x,hx,hlx⟩:=Dg6 hpos ho';unfold Cz0 at hi';rw[hm']at hi';dsimp only at hi';cases hρ:ρo q' with
  |none=>rw[hρ]at hi';cases hi'
  |some j=>
   rw[hρ]at hi';cases hi';have:=o1.inj q' r' x o' j i _ hx h2 hρ hi (hlx j _ hl') hlv;subst this;have:=Y2 hdj _ (Y7 hm');rw[F2.2 ⟨q,Ai3 hbij h1⟩]at this;cases this
 have ha:Abs S wl M0 M (Cz0 ids ρo) N ⟨mkT (Cb3 N ids (B4 (R2 c.ob wr)) c.sl keep),ob0,[]⟩ f w:=⟨o0,Ai6 _,hsl⟩
 generalize Cb3 N ids (B4 (R2 c.ob wr)) c.sl keep=S1 at*;generalize Cz0 ids ρo=ρ at*;have hargs':=hargs.split;rw[hlen]at hargs'
 --the record and the deferred block
 let x:Lp:=⟨w.heap.size,w.heap.size+1,fn,(fr N f []).tmps,ps,asg,bo⟩
 have hdisj:∀r,B4 (rob x .ready none ob0) r=K0 (K0 (B4 ob0) 3000 (.raw x.D (.deferred (some [])))) 3001 (.raw x.L (.loop (F4 x .ready none))) r:=fun r=>by
  simp only[rob,B4,K0];by_cases e:r=3001
  ·subst e;rfl
  ·rw[I5 e]<;>dsimp only<;>cases Nat.beq r 3000<;>rfl
 have hM:∀b,w.heap.size<=b->M b=none:=fun b hb=>by
  cases hm:M b with
  |none=>rfl
  |some c=>exact absurd (ha.ow.sits.lt hm) (by omega)
 let w1:=(w.alloc (.deferred (some []))).alloc (.loop {state:= .ready,pending:=none,fn,tmps:=(fr N f (Ay4 base Ds)).tmps,params:=ps,assign:=asg,body:=bo,defers:=w.heap.size})
 have hs1:(w.alloc (.deferred (some []))).heap.size=w.heap.size+1:=by simp
 obtain⟨r1,o1'⟩:=ha.ow.alloc (d:=3000) hfree.1 (.deferred (some [])) ⟨w.heap.size,0,0,0,0,0,true,[]⟩ (.raw x.D (.deferred (some []))) rfl (fun ρ' _ hm=>⟨rfl,rfl,⟨.inr ha.ow.size,hm⟩,World.alloc_heap_new _ _⟩);obtain⟨r2,o2⟩:=o1'.alloc (d:=3001) (by rw[C8 _ _ (by omega)];exact hfree.2) (.loop (F4 x .ready none)) ⟨w.heap.size+1,0,0,0,0,0,true,[]⟩ (.raw x.L (.loop (F4 x .ready none))) hs1.symm (fun ρ' _ hm=>⟨rfl,rfl,⟨.inr (Nat.le_succ_of_le ha.ow.size),by rw[hs1]at hm;exact hm⟩,by show((w.alloc (.deferred (some []))).alloc (.loop (F4 x .ready none))).heap[w.heap.size+1]? =some (.loop (F4 x .ready none));rw[<-hs1];exact World.alloc_heap_new _ _⟩);have hob:K0 (K0 (B4 ob0) 3000 (.raw x.D (.deferred (some [])))) 3001 (.raw x.L (.loop (F4 x .ready none)))=B4 (rob x .ready none ob0):=funext fun r=>(hdisj r).symm
 rw[hob]at o2;have r12:=r1.trans r2;generalize hρ2:K0 (K0 ρ 3000 (⟨w.heap.size,0,0,0,0,0,true,[]⟩:Inf)) 3001 (⟨w.heap.size+1,0,0,0,0,0,true,[]⟩:Inf)=ρ2 at o2 r12 r2;have o2:Ow S wl M0 M ρ2 (B4 (rob x .ready none ob0)) w1:=o2;have hw1:∀b,b<w.heap.size->w1.heap[b]? =w.heap[b]? :=fun b hb=>by
  show((w.alloc (.deferred (some []))).alloc (.loop (F4 x .ready none))).heap[b]? =w.heap[b]?;rw[Below.heap_alloc _ _ _ (by rw[hs1];omega),Below.heap_alloc _ _ _ hb]
 --what is kept of the numbers
 have hbig':∀r i,O2 K ρ r=some i->Nat.ble 2000 r=true:=fun r i h=>Av9 hK (F1 h).1
 have hhr:∀r i,hr r=some i->Nat.ble 2000 r=true->∃j,O2 K ρ r=some j/\Ile i j:=fun r i hi hb=>by
  obtain⟨j,h1,h2⟩:=ha.ow.held r i hb (by rw[show S.r0=hr from hH.1];exact hi);obtain⟨o,ho⟩:=ha.ow.dom r j h1;exact⟨j,by rw[G0 (Ag9 hkept ho hb)];exact h1,h2⟩
 have hnfr:∀(st:LoopState) (pe:Option Code) (ob:List (Nat×B9)),(∀q z,B4 ob q≠some (.frn z))->∀q z,B4 (rob x st pe ob) q≠some (.frn z):=fun st pe ob h q z=>by
  simp only[rob,B4];split
  ·intro e;cases e
  ·split
   ·intro e;cases e
   ·exact h q z
 --another table of what was handed in
 have hS:∀{r0 r0':Rho} {M:Mem} {ρ:Rho} {ob:Nat->Option B9} {w:World},Ow ⟨S.s,r0⟩ wl M0 M ρ ob w->(∀q z,ob q≠some (.frn z))->(∀r i,Nat.ble 2000 r=true->r0' r=some i->∃j,ρ r=some j/\Ile i j)->Ow ⟨S.s,r0'⟩ wl M0 M ρ ob w:=fun{r0 r0' M ρ ob w} h hn hh=>by
  refine⟨h.size,h.os,h.tape,h.output,h.old,h.sits,h.le,h.gl,h.new,fun q o hq=> ?_,h.dom,h.inj,hh⟩;obtain⟨i,hi,hok⟩:=h.own q o hq;refine⟨i,hi,?_⟩;cases o with
  |frn z=>exact absurd hq (hn q z)
  |tree g e sz shs es hh=>exact hok
  |box te cs=>exact hok
  |buf g e sz es=>exact hok
  |fzs g sz es=>exact hok
  |fzb cs=>exact hok
  |mapo kk ag sz es=>exact hok
  |raw b x=>exact hok
 have o3:Ow ⟨S.s,O2 K ρ⟩ wl M0 M ρ2 (B4 (rob x .ready none ob0)) w1:=hS (r0:=S.r0) o2 (hnfr _ _ _ (F3 (Az1 (hnf _ _ hg0)).1)) (fun r i hb hi=>r12.ext r i (F1 hi).2);have hR:Aa1 P (w.heap.size+1) (Ey8 x S wl M0 (O2 K ρ) M Good) (Db9 x S wl M0 (O2 K ρ) M GoodX) (Ha5 x S wl M0 (O2 K ρ) M GoodP):=
  ⟨Ey8.it,Db9.it,fun y ys T M w vals h1 h2 h3 h4=>En7 (f:=f) (sl:=mkT S1) hfn hN rfl ha.ok (fun t ht=>Aq0 _ (W3 10 (mkT S1) t hslots) (ha.sl t ht)) hbig' (fun ys ob h=>F3 (Az1 (hnf ys ob h)).1) (hJ x rfl rfl rfl) y ys T M w vals h1 h2 h3 h4⟩
 --the iterator's own
 let ρq:=Au5 p ρo
 let ρI:Rho:=fun r=>match Nat.beq r 2000 with|true=>some ⟨w.heap.size+1,0,0,0,0,0,true,[]⟩|false=>ρq r
 have hρI:∀r,r≠2000->ρI r=ρq r:=fun r e=>by simp only[ρI,I5 e]
 have hq2000:ρq 2000=none:=by
  cases h:ρq 2000 with
  |none=>rfl
  |some i=>
   obtain⟨o,ho⟩:=hq.dom 2000 i h;rw[h2000]at ho;cases ho
 have hnfos':=Ew3 hnfos;have rI:Rle M M ρq ρI:=⟨M.le_refl,fun r i hi=>⟨i,by rw[hρI r (fun e=>by rw[e,hq2000]at hi;cases hi)];exact hi,Ile.refl i⟩⟩
 have hqb:=hq.base (w':=w1) (r0:=noR) M.le_refl o2.sits (by show w.heap.size<=((w.alloc (.deferred (some []))).alloc (.loop (F4 x .ready none))).heap.size;rw[World.size_alloc,World.size_alloc];omega) (fun b hb=>⟨hw1 b (N1 hq hb).2,rfl⟩) (fun q i hq' _=>absurd hq' (hnfos' q q)) (fun q z hq'=>absurd hq' (hnfos' q z)) (fun _ _ _ h=>by cases h) (hq.szw.frame fun k hk _=>hw1 k hk);have hI:Ow ⟨TA ρq (B4 (Cd1 p (B4 (R2 c.ob wr)) p)),ρI⟩ w1 M M ρI (B4 ((2000,.frn 2000)::Cd1 p (B4 (R2 c.ob wr)) p)) w1:=by
  refine⟨Nat.le_refl _,rfl,rfl,rfl,fun _ _ _=>rfl,o2.sits,M.le_refl,hqb.gl,fun _ _ hb _=> .inl hb,fun r o h=> ?_,fun r i h=> ?_,fun r r' o o' i i' b h1 h2 h3 h4 l1 l2=> ?_,fun r i _ hi=>⟨i,hi,Ile.refl i⟩⟩
  ·simp only[B4]at h;split at h
   ·rename_i e;cases h;obtain rfl:=nB_ e;exact⟨_,rfl,rfl⟩
   ·rename_i e;have hne:r≠2000:=fun e'=>by subst e';simp at e
    obtain⟨i,hi,hok⟩:=hqb.own r o h;refine⟨i,by rw[hρI r hne];exact hi,?_⟩;have hok:=hok.mono rI (fun _ _=>rfl) (fun _ _=>rfl);cases o with
    |frn z=>exact absurd h (hnfos' r z)
    |tree g e sz shs es hh=>exact hok
    |box te cs=>exact hok
    |buf g e sz es=>exact hok
    |fzs g sz es=>exact hok
    |fzb cs=>exact hok
    |mapo kk ag sz es=>exact hok
    |raw b x=>exact hok
  ·by_cases e:r=2000
   ·subst e;exact⟨_,rfl⟩
   ·rw[hρI r e]at h;obtain⟨o,ho⟩:=hqb.dom r i h;exact⟨o,by simp only[B4,I5 e];exact ho⟩
  ·have hne:∀{r o i b},B4 ((2000,B9.frn 2000)::Cd1 p (B4 (R2 c.ob wr)) p) r=some o->blk i o b->r≠2000:=fun{r o i b} h hl e=>by
    subst e;simp only[B4]at h;cases h;exact An8 rfl rfl hl
   have e1:=hne h1 l1;have e2:=hne h2 l2;simp only[B4,I5 e1]at h1;simp only[B4,I5 e2]at h2;rw[hρI r e1]at h3;rw[hρI r' e2]at h4;exact hqb.inj r r' o o' i i' b h1 h2 h3 h4 l1 l2
 have hT0:∀b,TA ρq (B4 (Cd1 p (B4 (R2 c.ob wr)) p)) b->¬TA ρ2 (B4 (rob x .ready none ob0)) b/\(S b\/wl.heap.size<=b):=fun b hb=>by
  rw[hosE]at hb;obtain⟨h1,h2,h3⟩:=hTA0 b hb;refine⟨fun hta=> ?_,h2⟩;obtain⟨q,i,o,hi,ho,hlv⟩:=hta;rw[<-hρ2]at hi;simp only[rob,B4]at ho;by_cases e1:q=3001
  ·subst e1;rw[B7]at hi;cases hi;have hbb:=(P5 hlv (by rw[<-Option.some.inj ho];rfl)).2;dsimp only at hbb;omega
  ·rw[C8 _ _ e1]at hi;by_cases e0:q=3000
   ·subst e0;rw[B7]at hi;cases hi;have hbb:=(P5 hlv (by rw[<-Option.some.inj ho];rfl)).2;dsimp only at hbb;omega
   ·rw[C8 _ _ e0]at hi;simp only[I5 e0,I5 e1]at ho;exact h1 ⟨q,i,o,hi,ho,hlv⟩
 have hcall:=(hit.elim (fun h=>h (w.heap.size+1) _ _ _ hR) (fun h=>h.1 (w.heap.size+1) _ _ _ hR (fun T M w ⟨_,_,ob,hg,_⟩=>h.2 ob hg))) _ M ρI w1 (fs++ .func (.yield (w.heap.size+1)) #[] #[]::cs) ⟨w.heap.size+1,0,0,0,0,0,true,[]⟩ hI
  ⟨M.le_refl,ρ2,ob0,hg0,o3,hT0⟩ rfl rfl
  ((B5.mono rI _ hargs'.1).append (by
   simp only[B5];exact⟨_,_,rfl,⟨⟨w.heap.size+1,0,0,0,0,0,true,[]⟩,rfl,rfl,rfl⟩,B5.mono rI _ hargs'.2⟩))
 refine⟨w.heap.size+1,[{target:= .collected w.heap.size,args:= #[]}],w1,{target:= .fn (.func gf) cs.toArray,args:=fs.toArray++ #[.func (.yield (w.heap.size+1)) #[] #[]]},w1,gf,(fs++ .func (.yield (w.heap.size+1)) #[] #[]::cs).toArray,w1,run_enterLoop_outer _ _ _ _ _,?_,?_,CallsIn.mono (Ct2 (r:=none) hcall) ?_⟩
 ·have:(fr N f (Ay4 base Ds)).eval g= .func (.func gf) fs.toArray cs.toArray:=hge;have h2:(fr N f (Ay4 base Ds)).eval (.const (.func (.yield (w.heap.size+1)) #[] #[]))= .func (.yield (w.heap.size+1)) #[] #[]:=rfl;simp[resolve,Deferred.ofValue,this,h2]
 ·have:=he (fs++ .func (.yield (w.heap.size+1)) #[] #[]::cs).toArray w1;simpa[invoke] using this
 ·rintro e w3 ⟨T',M',hend⟩
  have hup:∀(st st':LoopState) (pe:Option Code) (ob:List (Nat×B9)),K0 (B4 (rob x st pe ob)) 3001 (.raw x.L (.loop (F4 x st' pe)))=B4 (rob x st' pe ob):=fun st st' pe ob=>by
   funext q;by_cases e:q=3001
   ·subst e;rw[B7];rfl
   ·rw[C8 _ _ e];simp only[rob,B4];split
    ·rfl
    ·have:Nat.beq q 3001=false:=I5 e;simp only[this]
  --the record and the block are let go;the base is laid anew
  have key:∀(st:LoopState) (pe:Option Code) (M':Mem) (rr ρ3:Rho) (ob3:List (Nat×B9)) (w4:World) (KK:List Nat),M.le M'->okB KK ob3=true->(∀r,D7 r KK=true->D7 r K=true)->(∀q i,O2 K ρ q=some i->(∃o,B4 ob3 q=some o)->rr q=some i)->Ow ⟨S.s,rr⟩ wl M0 M' ρ3 (B4 (rob x st pe ob3)) w4->
   ∃S' ρ4,HM w00 M00 (w.heap.size::Ds) ⟨S',hr⟩ w4 M'/\Ow ⟨S',Bj5 (G1 ob3) hr⟩ w4 M' M' ρ4 (B4 ob3) w4/\∀q i,D7 q KK=true->ρ q=some i->∃j,ρ4 q=some j/\Ile i j:=fun st pe M' rr ρ3 ob3 w4 KK hle hok hKK hrr h3=>by
   obtain⟨k1,k2,k3,k4,k5⟩:=Az1 hok;have hids:∀r,D7 r (G1 ob3)=true->B4 (rob x st pe ob3) r=B4 ob3 r:=fun r hr=>by
    have e1:Nat.beq r 3000=false:=I5 (fun e=>by subst e;rw[hr]at k4;cases k4);have e2:Nat.beq r 3001=false:=I5 (fun e=>by subst e;rw[hr]at k5;cases k5);simp only[rob,B4,e1,e2]
   have hpart:=h3.part (G1 ob3) (G1 ob3) (fun r o hr ho=>E8 k2 r o hr (by rw[<-hids r hr];exact ho));rw[Ck3 hids]at hpart;have hheld:∀q i,Nat.ble 2000 q=true->D7 q (G1 ob3)=true->O2 K ρ q=some i->∃j,ρ3 q=some j/\Ile i j:=fun q i hb hm hi=>h3.held q i hb (hrr q i hi (I6.1 hm))
   have hpart':Ow ⟨SK (G1 ob3) ρ3 (B4 (rob x st pe ob3)),Bj5 (G1 ob3) hr⟩ w4 M' M' (O2 (G1 ob3) ρ3) (B4 ob3) w4:=⟨hpart.size,hpart.os,hpart.tape,hpart.output,hpart.old,hpart.sits,hpart.le,hpart.gl,hpart.new,fun q o hq=>by
    obtain⟨i,hi,hok⟩:=hpart.own q o hq;refine⟨i,hi,?_⟩;cases o with
    |frn z=>exact absurd hq (F3 k1 q z)
    |tree g e sz shs es hh=>exact hok
    |box te cs=>exact hok
    |buf g e sz es=>exact hok
    |fzs g sz es=>exact hok
    |fzb cs=>exact hok
    |mapo kk ag sz es=>exact hok
    |raw b x=>exact hok,hpart.dom,hpart.inj,fun r i hb hi=>by
    obtain⟨hm,hi⟩:=Bn3 hi;obtain⟨j,h1,h2⟩:=hhr r i hi hb;obtain⟨l,h4,h5⟩:=hheld r j hb hm h1;exact⟨l,by rw[G0 hm];exact h4,h2.trans h5⟩⟩
   have h3':=hS (r0':=noR) h3 (hnfr _ _ _ (F3 k1)) (fun r i hb hi=>by cases hi);obtain⟨⟨h1,h2,h5,h6⟩,_⟩:=Ci4 (S:=⟨S.s,noR⟩) (b0:=w00) (M00:=M00) (Ds:=Ds) hH.2 h3' (hnfr _ _ _ (F3 k1));have hSK:∀b,SK (G1 ob3) ρ3 (B4 (rob x st pe ob3)) b->TA ρ3 (B4 (rob x st pe ob3)) b:=fun b ⟨r,i,o,_,a1,a2,a3⟩=>⟨r,i,o,a1,a2,a3⟩
   obtain⟨iD,hiD,_,hDb,hDm,hDw⟩:=h3.own 3000 (.raw x.D (.deferred (some []))) rfl;refine⟨SK (G1 ob3) ρ3 (B4 (rob x st pe ob3)),O2 (G1 ob3) ρ3,⟨h1,fun b hb=>h2 b (hSK b hb),fun D hD=> ?_,?_⟩,hpart',fun q i hm hi=> ?_⟩
   ·rcases List.mem_cons.1 hD with rfl|hD
    ·refine⟨Nat.le_trans hH.2.1.size ha.ow.size,?_,?_,?_,hDw⟩
     ·exact(Array.getElem?_eq_some_iff.1 hDw).1
     ·rintro ⟨r,i,o,b1,b2,b3,b4⟩
      have:r=3000:=h3.inj r 3000 o _ i iD _ b3 rfl b2 hiD b4 (.inl ⟨trivial,hDb⟩);subst this;rw[b1]at k4;cases k4
     ·have:=hDm.2;rw[hDb]at this;exact this
    ·obtain⟨a1,a2,a3,a4,a5⟩:=h5 D hD;exact⟨a1,a2,fun h=>a3 (hSK D h),a4,a5⟩
   ·refine List.nodup_cons.2 ⟨fun hm=> ?_,h6⟩;have:=(hH.2.2.2.1 _ hm).2.1;have:=ha.ow.size;omega
   ·have hmi:=Af4 k3 _ hm;obtain⟨j,b1,b2⟩:=hheld q i (hbig' q i (by rw[G0 (hKK q hm)];exact hi)) hmi (by rw[G0 (hKK q hm)];exact hi);exact⟨j,by rw[G0 hmi];exact b1,b2⟩
  --a panic:slots that hang on KP
  have pan:∀(st:LoopState) (pe:Option Code) (M':Mem) (rr ρ3:Rho) (ob3:List (Nat×B9)) (w4:World) (t:TypeId) (u:Value),M.le M'->okB KP ob3=true->(∀q i,O2 K ρ q=some i->(∃o,B4 ob3 q=some o)->rr q=some i)->Ow ⟨S.s,rr⟩ wl M0 M' ρ3 (B4 (rob x st pe ob3)) w4->
   JP N (Ay4 base (w.heap.size::Ds)) (Bi3 P fn0 R0 w00 M00 hr (w.heap.size::Ds)) (Q4 (Cc9 KP) (mkT S1)) ob3->(Bi3 P fn0 R0 w00 M00 hr Ds).post S wl M0 (.panic [{v:= .iface t u,recovered:=false}]) (fr N f (Ay4 base (w.heap.size::Ds))) w4:=fun st pe M' rr ρ3 ob3 w4 t u hle hok hrr h3 hjp=>by
   obtain⟨S',ρ4,h5,h6,h7⟩:=key st pe M' rr ρ3 ob3 w4 KP hle hok (fun r h=>Af4 hKP r h) hrr h3;refine hjp ⟨S',hr⟩ w4 M' ⟨rfl,h5⟩ (Bj5 (G1 ob3) hr) M' ρ4 w4 f t u (fun q i hi ho=> ?_) h6 (fun t ht=> ?_)
   ·unfold Bj5;rw[I6.2 ho];exact hi
   ·rw[Y6 (Cn5 KP)];unfold Cc9;split
    ·rename_i hrf;exact C0.mono ⟨hle,fun r i hi=>h7 r i (F1 hi).1 (F1 hi).2⟩ _ (Aq0 _ hrf (ha.sl t ht))
    ·exact C5 _
  have norm:∀(st:LoopState) (pe:Option Code) (M':Mem) (ρ3:Rho) (ob3:List (Nat×B9)) (w4:World),M.le M'->okB K ob3=true->Ow ⟨S.s,O2 K ρ⟩ wl M0 M' ρ3 (B4 (rob x st pe ob3)) w4->
   ∃S' wl' M0' ρ4,(Bi3 P fn0 R0 w00 M00 hr (w.heap.size::Ds)).H S' wl' M0'/\Abs S' wl' M0' M' ρ4 N ⟨mkT S1,ob3,[]⟩ f w4:=fun st pe M' ρ3 ob3 w4 hle hok h3=>by
   obtain⟨S',ρ4,h5,h6,h7⟩:=key st pe M' (O2 K ρ) ρ3 ob3 w4 K hle hok (fun _ h=>h) (fun _ _ h _=>h) h3;obtain⟨k1,k2,k3,k4,k5⟩:=Az1 hok;refine⟨⟨S',hr⟩,w4,M',ρ4,⟨rfl,h5⟩,⟨h6.size,h6.os,h6.tape,h6.output,h6.old,h6.sits,h6.le,h6.gl,h6.new,fun q o hq=> ?_,h6.dom,h6.inj,fun r i hb hi=> ?_⟩,ha.ok,fun t ht=> ?_⟩
   ·obtain⟨i,hi,hok⟩:=h6.own q o hq;refine⟨i,hi,?_⟩;cases o with
    |frn z=>exact absurd hq (F3 k1 q z)
    |tree g e sz shs es hh=>exact hok
    |box te cs=>exact hok
    |buf g e sz es=>exact hok
    |fzs g sz es=>exact hok
    |fzb cs=>exact hok
    |mapo kk ag sz es=>exact hok
    |raw b x=>exact hok
   ·obtain⟨j,h1,_⟩:=hhr r i hi hb;exact h6.held r i hb (by show Bj5 (G1 ob3) hr r=some i;unfold Bj5;rw[Af4 k3 _ (F1 h1).1];exact hi)
   ·exact C0.mono ⟨hle,fun r i hi=>h7 r i (F1 hi).1 (F1 hi).2⟩ _ (Aq0 _ (W3 10 (mkT S1) t hslots) (ha.sl t ht))
  rcases hend with⟨v,rfl,⟨hfl,hle,ρ3,ob3,hg3,ho3,_⟩|⟨hle,ρ3,ob3,j,hg3,ho3,_⟩⟩|⟨⟨t,u,rfl⟩,⟨hfl,hle,ρ3,ob3,hg3,ho3,_⟩|⟨hle,rr,ρ3,ob3,hg3,hrr,ho3,_⟩⟩
  ·obtain⟨hh,o4⟩:=ho3.raw (q:=3001) rfl (.loop (F4 x .exhausted none));rw[hup]at o4;refine⟨none,_,run_endLoop hh (by simp[F4]),?_⟩;obtain⟨S',wl',M0',ρ4,h5,h6⟩:=norm _ _ _ _ _ _ hle (hnf _ _ hg3) o4;exact(hdone hfl w.heap.size ob3 hg3).2 S' wl' M0' h5 M' ρ4 f _ ⟨h6.ow,h6.ok,h6.sl⟩
  ·obtain⟨hh,o4⟩:=ho3.raw (q:=3001) rfl (.loop (F4 x .exhausted (some j)));rw[hup]at o4;refine⟨some j,_,run_endLoop hh (by simp[F4]),?_⟩;obtain⟨S',wl',M0',ρ4,h5,h6⟩:=norm _ _ _ _ _ _ hle (hnfX _ _ hg3) o4;have:=(hstop w.heap.size ob3 j hg3).2 S' wl' M0' h5 M' ρ4 f _ ⟨h6.ow,h6.ok,h6.sl⟩;simp only[Wk,Exit.then]at this;exact this
  ·exact Av8 k hk (pan _ _ _ _ _ _ _ t u hle (hnfP0 hfl ob3 hg3) (fun _ _ h _=>h) ho3 (hdie hfl w.heap.size ob3 hg3))
  ·exact Av8 k hk (pan _ _ _ _ _ _ _ t u hle (hnfP _ hg3) hrr ho3 (hpan w.heap.size ob3 hg3))
theorem Eh0{P:Program}{N:Nat}{fn0:Func}{R0:Ending->World->Prop}{w00:Bas}{M00:Mem}{hr:Rho}{base:List Deferred}{Ds:List Nat}{c:Cfg}{g:Operand}{ps:Array Tmp}{asg bo:Code}{k:List It}{gf:FuncId}{first cap xs:List V}{os:List (Nat×B9)}{S1:List (Nat×V)}{ob0:List (Nat×B9)}(p:List (Nat×Nat))(keep ids:List Nat)(yl:List V){ysAll:List (List V)}{fl:Bool}(K KP:List Nat)(Good:List (List V)->List (Nat×B9)->Prop)(GoodX:Code->List (Nat×B9)->Prop)(GoodP:List (Nat×B9)->Prop)
 (hN:Nat.ble N 1024=true) (ht:c.td= .code (.rangeFunc g ps asg bo)::k) (hk:Bf7 k=true) (hv:Au3 N c=some (gf,first,cap)) (hl:Bi4 N keep=true) (hx:Dz3 N c p (first++cap) keep ids=some (os,xs,S1,ob0)) (hre:M8 xs yl) (he:A8 P gf)
 (hit:Dc4 P gf ((2000,.frn 2000)::os) (yl.take first.length++ .yl 2000::yl.drop first.length) ysAll fl) (hK:Ak8 K=true) (hkept:Bs0 K ob0=true) (hslots:Af5 K (mkT S1)=true) (hKP:Ee5 KP K=true) (hg0:Good ysAll ob0) (hnf:∀ys ob,Good ys ob->okB K ob=true) (hnfX:∀j ob,GoodX j ob->okB K ob=true) (hnfP:∀ob,GoodP ob->okB KP ob=true) (hnfP0:fl=true->∀ob,Good [] ob->okB KP ob=true)
 (hfree:B4 ob0 3000=none/\B4 ob0 3001=none)
 (hJ:∀x:Lp,x.as=asg->x.bo=bo->x.ps=ps->∀y ys ob,Good (y::ys) ob->∃sl',Au9 N (mkT S1) ps.toList y=some sl'/\J (some x.L) P N [] (Ed9 x Good GoodX GoodP ys) ⟨sl',rob x .ready none ob,[.code asg,.begR x.L,.code bo]⟩)
 (hdone:fl=false->∀D ob,Good [] ob->J none P N (Ay4 base (D::Ds)) (Bi3 P fn0 R0 w00 M00 hr (D::Ds)) ⟨mkT S1,ob,k⟩)
 (hstop:∀D ob j,GoodX j ob->J none P N (Ay4 base (D::Ds)) (Bi3 P fn0 R0 w00 M00 hr (D::Ds)) ⟨mkT S1,ob,.code j::k⟩)
 (hdie:fl=true->∀D ob,Good [] ob->JP N (Ay4 base (D::Ds)) (Bi3 P fn0 R0 w00 M00 hr (D::Ds)) (Q4 (Cc9 KP) (mkT S1)) ob)
 (hpan:∀D ob,GoodP ob->JP N (Ay4 base (D::Ds)) (Bi3 P fn0 R0 w00 M00 hr (D::Ds)) (Q4 (Cc9 KP) (mkT S1)) ob):J none P N (Ay4 base Ds) (Bi3 P fn0 R0 w00 M00 hr Ds) c:=
 Cr7 p keep ids yl K KP Good GoodX GoodP hN ht hk hv hl hx hre he (.inl hit) hK hkept hslots hKP hg0 hnf hnfX hnfP hnfP0 hfree hJ hdone hstop hdie hpan
theorem Bb8{P:Program}{N:Nat}{fn0:Func}{R0:Ending->World->Prop}{w00:Bas}{M00:Mem}{hr:Rho}{base:List Deferred}{Ds:List Nat}{c:Cfg}{g:Operand}{ps:Array Tmp}{asg bo:Code}{k:List It}{gf:FuncId}{first cap xs:List V}{os:List (Nat×B9)}{S1:List (Nat×V)}{ob0:List (Nat×B9)}(p:List (Nat×Nat))(keep ids:List Nat)(yl:List V){ysAll:List (List V)}(K:List Nat)(Good:List (List V)->List (Nat×B9)->Prop)(GoodX:Code->List (Nat×B9)->Prop)
 (hN:Nat.ble N 1024=true) (ht:c.td= .code (.rangeFunc g ps asg bo)::k) (hk:Bf7 k=true) (hv:Au3 N c=some (gf,first,cap)) (hl:Bi4 N keep=true) (hx:Dz3 N c p (first++cap) keep ids=some (os,xs,S1,ob0)) (hre:M8 xs yl) (he:A8 P gf)
 (hit:Dc4 P gf ((2000,.frn 2000)::os) (yl.take first.length++ .yl 2000::yl.drop first.length) ysAll false) (hK:Ak8 K=true) (hkept:Bs0 K ob0=true) (hslots:Af5 K (mkT S1)=true) (hg0:Good ysAll ob0) (hnf:∀ys ob,Good ys ob->okB K ob=true) (hnfX:∀j ob,GoodX j ob->okB K ob=true)
 (hfree:B4 ob0 3000=none/\B4 ob0 3001=none)
 (hJ:∀x:Lp,x.as=asg->x.bo=bo->x.ps=ps->∀y ys ob,Good (y::ys) ob->∃sl',Au9 N (mkT S1) ps.toList y=some sl'/\J (some x.L) P N [] (Ed9 x Good GoodX (fun _=>False) ys) ⟨sl',rob x .ready none ob,[.code asg,.begR x.L,.code bo]⟩)
 (hdone:∀D ob,Good [] ob->J none P N (Ay4 base (D::Ds)) (Bi3 P fn0 R0 w00 M00 hr (D::Ds)) ⟨mkT S1,ob,k⟩)
 (hstop:∀D ob j,GoodX j ob->J none P N (Ay4 base (D::Ds)) (Bi3 P fn0 R0 w00 M00 hr (D::Ds)) ⟨mkT S1,ob,.code j::k⟩):J none P N (Ay4 base Ds) (Bi3 P fn0 R0 w00 M00 hr Ds) c:=
 Eh0 p keep ids yl K [] Good GoodX (fun _=>False) hN ht hk hv hl hx hre he hit hK hkept hslots rfl hg0 hnf hnfX (fun _ h=>h.elim) (fun h=>by cases h) hfree hJ (fun _=>hdone) hstop (fun h=>by cases h) (fun _ _ h=>h.elim)
theorem Cr8{P:Program}{N:Nat}{fn0:Func}{R0:Ending->World->Prop}{w00:Bas}{M00:Mem}{hr:Rho}{base:List Deferred}{Ds:List Nat}{c:Cfg}{g:Operand}{ps:Array Tmp}{asg bo:Code}{k:List It}{gf:FuncId}{first cap xs:List V}{os:List (Nat×B9)}{S1:List (Nat×V)}{ob0:List (Nat×B9)}(p:List (Nat×Nat))(keep ids:List Nat)(yl:List V){ysAll:List (List V)}(K:List Nat)(Good:List (List V)->List (Nat×B9)->Prop)(GoodX:Code->List (Nat×B9)->Prop)
 (hN:Nat.ble N 1024=true) (ht:c.td= .code (.rangeFunc g ps asg bo)::k) (hk:Bf7 k=true) (hv:Au3 N c=some (gf,first,cap)) (hl:Bi4 N keep=true) (hx:Dz3 N c p (first++cap) keep ids=some (os,xs,S1,ob0)) (hre:M8 xs yl) (he:A8 P gf)
 (hit:Eg6 P gf ((2000,.frn 2000)::os) (yl.take first.length++ .yl 2000::yl.drop first.length) ysAll false) (hK:Ak8 K=true) (hkept:Bs0 K ob0=true) (hslots:Af5 K (mkT S1)=true) (hg0:Good ysAll ob0) (hnf:∀ys ob,Good ys ob->okB K ob=true) (hnfX:∀j ob,GoodX j ob->okB K ob=true)
 (hfree:B4 ob0 3000=none/\B4 ob0 3001=none)
 (hJ:∀x:Lp,x.as=asg->x.bo=bo->x.ps=ps->∀y ys ob,Good (y::ys) ob->∃sl',Au9 N (mkT S1) ps.toList y=some sl'/\J (some x.L) P N [] (Ed9 x Good GoodX (fun _=>False) ys) ⟨sl',rob x .ready none ob,[.code asg,.begR x.L,.code bo]⟩)
 (hdone:∀ob,¬Good [] ob)
 (hstop:∀D ob j,GoodX j ob->J none P N (Ay4 base (D::Ds)) (Bi3 P fn0 R0 w00 M00 hr (D::Ds)) ⟨mkT S1,ob,.code j::k⟩):J none P N (Ay4 base Ds) (Bi3 P fn0 R0 w00 M00 hr Ds) c:=
 Cr7 p keep ids yl K [] Good GoodX (fun _=>False) hN ht hk hv hl hx hre he (.inr ⟨hit,hdone⟩) hK hkept hslots rfl hg0 hnf hnfX (fun _ h=>h.elim) (fun h=>by cases h) hfree hJ (fun _ _ ob h=>absurd h (hdone ob)) hstop (fun h=>by cases h) (fun _ _ h=>h.elim)
end
section
section
variable {P:Program} {N:Nat}
end
section
variable {P:Program} {N:Nat} {fn:Func} {g:FuncId} {id:Nat} {o0:Oper} {rest:List Oper} {y:Code} {cap:List V}
def Gx9:List Nat->List (Nat×B9)
 |[]=>[]
 |q::l=>(q,.frn q)::Gx9 l
theorem El2:∀(K:List Nat) (q:Nat),B4 (Gx9 K) q=match D7 q K with|true=>some (.frn q)|false=>none
 |[],q=>rfl
 |k::K,q=>by
  have ih:=El2 K q;simp only[Gx9,B4,D7];cases h:Nat.beq q k with
  |true=>obtain rfl:=nB_ h;rfl
  |false=>exact ih
end
section
variable {P:Program} {N:Nat} {fn:Func} {v:Option V} {w0:World} {M00:Mem} {Ds:List Nat} {c:Cfg} {hr:Rho} {base:List Deferred} {g:FuncId} {cap:List V}
def Cw9(p:List (Nat×Nat)):List Nat->Bool
 |[]=>true
 |q::l=>match lk (inv p) q with|some t=>(match Nat.beq t q with|true=>Cw9 p l|false=>false)|none=>false
theorem Be7{p:List (Nat×Nat)}:∀{l:List Nat} {q:Nat},Cw9 p l=true->D7 q l=true->lk (inv p) q=some q
 |[],_,_,h=>by cases h
 |k::l,q,hb,h=>by
  unfold Cw9 at hb;split at hb
  ·rename_i t ht;split at hb
   ·rename_i he;unfold D7 at h;split at h
    ·rename_i h1;obtain rfl:=nB_ h1;rw[ht,nB_ he]
    ·exact Be7 hb h
   ·cases hb
  ·cases hb
end
end
section
section
variable (q g:Nat)
end
section
variable {M:Mem} {ρ:Rho} {q g:Nat} {i:Inf}
end
section
variable {S:N0} {wl w:World} {M0 M:Mem} {ρ:Rho} {ob:Nat->Option B9} {q g sz:Nat} {e:TypeId} {es:List (List Dat)}
end
section
variable {r:Option Nat} {P:Program} {N:Nat} {ds:List Deferred} {fin:Fin} {c:Cfg}
theorem Cr4(t:Nat)(ht:Nat.blt t N=true)(hx:(Go4 c [c.sl.get 10 t]).isSome=true)(hk:J r P N ds fin ⟨c.sl,obR c [c.sl.get 10 t],c.td⟩):J r P N ds fin c:=by
 refine⟨hk.1,fun S wl M0 hH M ρ f w ha=> ?_⟩;have hu:B5 M ρ [c.sl.get 10 t] [f t]:=by
  simp only[B5];exact⟨_,_,rfl,ha.sl t (Ae6 ht),rfl⟩
 cases hx':N2 (B4 c.ob) [c.sl.get 10 t] with
 |none=>simp[Go4,hx']at hx
 |some p=>
  obtain⟨xs,wr⟩:=p;obtain⟨M',r0,o0,_⟩:=F5 ha.ow hu hx';rw[Db5]at o0;have e:obR c [c.sl.get 10 t]=R2 c.ob wr:=by unfold obR;rw[hx']
  rw[e]at hk;exact hk.2 S wl M0 hH M' ρ f w ⟨o0,ha.ok,fun t ht=>C0.mono r0 _ (ha.sl t ht)⟩
end
def toI(b:UInt8):Int:=(b.toNat:Int)
theorem Cc2{f:Int->List Dat}(hf:∀x,f x=[.int .u8 x])(s:List UInt8):(s.map toI).map f=s.map Ao0:=by
 rw[List.map_map];refine List.map_congr_left fun b _=> ?_
 simp only[Function.comp,hf];rfl
theorem ams{f:Int->List Dat}(hf:∀x,f x=[.int .u8 x]){l k:List Int}{s:List UInt8}(h:app l (s.map toI)=some k):app (l.map f) (s.map Ao0)=some (k.map f):=by
 rw[<-Cc2 hf];exact am h
theorem bym{s:List UInt8}{f:Int->List Dat}(hf:∀x,f x=[.int .u8 x]):some (s.map Ao0)=some ((s.map toI).map f):=by
 rw[<-Cc2 hf]
def Gj1(l:List Int)(j:Nat)(m:Int):Option (List UInt8):=bif decide (0<m)&&decide (j+m.toNat<=l.length)&&decide (m<=2147483648) then some (((l.drop j).take m.toNat).map fun x=>x.toNat.toUInt8) else none
theorem Bv0{f:Int->List Dat}(hf:∀x,f x=[.int .u8 x]):∀(l:List Int),Ex9 (l.map f)=some (l.map fun x=>x.toNat.toUInt8)
 |[]=>rfl
 |x::l=>by rw[List.map_cons,hf,Ex9,Bv0 hf l];rfl
def toB(x:Int):UInt8:=x.toNat.toUInt8
theorem Hh1{f:Int->List Dat}(hf:∀x,f x=[.int .u8 x])(l:List Int):Ft9 (l.map f)=some [.str (l.map toB)]:=by
 unfold Ft9;rw[Bv0 hf];rfl
theorem usm{f:Int->List Dat}(hf:∀x,f x=[.int .u8 x]){l:List Int}{j:Nat}{m:Int}{s:List UInt8}(h:Gj1 l j m=some s):usd (l.map f) j m=some [.str s]:=by
 unfold Gj1 at h;unfold usd;rw[List.length_map];cases hb:(decide (0<m)&&decide (j+m.toNat<=l.length)&&decide (m<=2147483648)) with
 |false=>rw[hb]at h;cases h
 |true=>
  rw[hb,cond_true]at h;cases h;rw[cond_true,<-List.map_drop,<-List.map_take,Bv0 hf]
theorem Bi7{P:Program}{g:FuncId}{fn:Func}(hf:P.funcs[g]? =some fn)(hn:(fn.name== "runtime.NumGoroutine")=false)(hb:fn.body.isNone=true)(hx:(Extern.findNext fn).isNone=true)(he:Extern.find fn=some Extern.AbiNoEscape.same)(v:V):Fu0 P g [v] v:=by
 intro M ρ vals hr;simp only[B5]at hr;obtain⟨u,us,rfl,h1,rfl⟩:=hr;have hx':Extern.findNext fn=none:=by simpa using hx
 refine⟨u,h1,fun w=> ?_⟩;rw[run_callFunc_extern hf hn hb hx' he];rfl
end
section
section
variable {s0 s1:Nat->Prop} {r0 r1:Rho} {w0 w1 w:World} {M00 M1 M:Mem} {ρ:Rho} {ob:Nat->Option B9}
theorem Ow.under(h:Ow ⟨s1,r1⟩ w1 M1 M ρ ob w)(hx:Go7 s0 M00 M1 w0 w1)(h2:∀b,s1 b->s0 b\/w0.heap.size<=b)(hq:Sz w0/\∀n cs,Kx.gl n=some cs->¬s0 n)(hn:∀q z,ob q≠some (.frn z))(hh:∀t i,Nat.ble 2000 t=true->r0 t=some i->∃i',ρ t=some i'/\Ile i i'):Ow ⟨s0,r0⟩ w0 M00 M ρ ob w:=by
 have mine:∀b,(s1 b\/w1.heap.size<=b)->(s0 b\/w0.heap.size<=b):=fun b hb=>hb.elim (h2 b) (fun h=> .inr (Nat.le_trans hx.size h))
 refine⟨Nat.le_trans hx.size h.size,h.os.trans hx.os,h.tape.trans hx.tape,h.output.trans hx.output,fun k hk hs=> ?_,h.sits,Mem.le_trans hx.le h.le,⟨h.gl.ok,hq.2,hq.1⟩,fun b c hb hlt=> ?_,fun r o ho=> ?_,h.dom,h.inj,hh⟩
 ·rw[h.old k (Nat.lt_of_lt_of_le hk hx.size) (fun hs'=>by rcases h2 k hs' with h5|h5;exact hs h5;exact absurd hk (Nat.not_lt.2 h5))];exact hx.block k hk hs
 ·rcases h.new b c hb (Nat.lt_of_lt_of_le hlt hx.size) with h5|h5
  ·exact hx.new b c h5 hlt
  ·rcases h2 b h5 with h6|h6
   ·exact .inr h6
   ·exact absurd hlt (Nat.not_lt.2 h6)
 ·obtain⟨i,hi,hok⟩:=h.own r o ho;refine⟨i,hi,?_⟩;cases o with
  |tree g e sz shs es hh=>exact M6.tree hok (fun b hb=>mine _ (E2 hok hb).1) (fun _ _ _ _ h=>h)
  |box te cs=>
   obtain⟨h0,h1,rest⟩:=hok;exact⟨h0,⟨mine _ h1.1,h1.2⟩,rest⟩
  |buf g e sz es=>
   obtain⟨h0,hg,hss,hn,ht,hx,h1⟩:=hok;refine⟨h0,hg,hss,hn,ht,hx,fun hp=> ?_⟩;obtain⟨h1,rest⟩:=h1 hp;exact⟨⟨mine _ h1.1,h1.2⟩,rest⟩
  |fzs g sz es=>exact hok
  |fzb cs=>exact hok
  |mapo kk ag sz es=>
   obtain⟨h0,h1,rest⟩:=hok;exact⟨h0,⟨mine _ h1.1,h1.2⟩,rest⟩
  |raw b x=>
   obtain⟨h0,e,h1,rest⟩:=hok;exact⟨h0,e,⟨mine _ h1.1,h1.2⟩,rest⟩
  |frn q=>exact absurd ho (hn r q)
end
def Gp9(s:Nat->Prop)(r0:Rho)(w0:World)(M00:Mem)(H:List (Nat×B9))(v:V):Ending->World->Prop:=fun e w'=>
 ∃u M' ρ',e= .returned u/\Ow ⟨s,r0⟩ w0 M00 M' ρ' (B4 H) w'/\C0 M' ρ' v u
def Eg5(K:List Nat)(s:Nat->Prop)(r0:Rho)(w0:World):Prop:=(Sz w0/\∀n cs,Kx.gl n=some cs->¬s n)/\∀r i,r0 r=some i->D7 r K=true
abbrev Gn4(P:Program)(fn:Func)(H:List (Nat×B9))(v:V)(s:Nat->Prop)(r0:Rho)(w0:World)(M00:Mem)(Ds:List Nat):Fin:=Bi3 P fn (Gp9 s r0 w0 M00 H v) ⟨w0,s⟩ M00 r0 Ds
section
variable {P:Program} {N:Nat} {fn:Func} {v:V} {s:Nat->Prop} {r0:Rho} {w0:World} {M00:Mem} {Ds:List Nat} {c:Cfg} {K:List Nat}
theorem By4{l:List (Nat×B9)}(hc:K2 (B4 l) (G1 (L7 l)) (G1 (L7 l))=true):∀q z,B4 (L7 l) q≠some (.frn z):=fun q z hq=>by
 have hm:D7 q (G1 (L7 l))=true:=I6.2 ⟨_,hq⟩;rw[Ae3]at hq;split at hq
 ·have:=E8 hc q _ hm hq;cases this
 ·cases hq
theorem Bl0{rs:List ResultVar}{xs:List V}{H:List (Nat×B9)}(hst:Eg5 K s r0 w0)(ys:List V)(hfn:fn.results=rs.toArray)(hN:Nat.ble N 1024=true)(hv:Cd8 P N c rs=some (xs,H))(hre:M8 xs ys)(he:Di3 ys=v)(hn:V2 c.ob=true):J none P N (dfs Ds) (Gn4 P fn H v s r0 w0 M00 Ds) c:=by
 refine⟨H3 hN,fun S wl M0 hH M ρ f w h=> ?_⟩;unfold Cd8 at hv;split at hv
 case h_2=>cases hv
 rename_i hat;split at hv
 case h_2=>cases hv
 rename_i vs hvs;split at hv
 case h_2=>cases hv
 rename_i xs' wr hx;split at hv
 case h_2=>cases hv
 rename_i hcl;cases hv;have hheld:∀t i,Nat.ble 2000 t=true->r0 t=some i->∃i',ρ t=some i'/\Ile i i':=fun t i hb hi=>h.ow.held t i hb (by rw[show S.r0=r0 from hH.1];exact hi)
 have hbase:∀S2 w2,HM ⟨w0,s⟩ M00 [] S2 w2 M->Ow S2 w2 M M ρ (B4 c.ob) w2->LeavesInM (WF none) 0 P fn (fr N f []).tmps (Gp9 s r0 w0 M00 (L7 (R2 c.ob wr)) v) [] .returning w2:=fun S2 w2 h1 h2=>by
  have ha:Abs S2 w2 M M ρ N c f w2:=⟨h2,h.ok,h.sl⟩
  obtain⟨us,h3,h4⟩:=Am1 ha hvs;obtain⟨M',r1,o1,d1⟩:=F5 h2 h4 hx;rw[<-W0]at o1;have o2:=o1.onlyH hcl;refine⟨Da6 us,P1 (ds:=[]) hfn h3,Da6 us,M',_,rfl,o2.under h1.1 h1.2.1 hst.1 (By4 hcl) (fun t i hb hi=> ?_),by rw[<-he];exact Aq9 (hre.rel (d1 _))⟩;obtain⟨i',h5,h6⟩:=hheld t i hb hi;obtain⟨o,ho⟩:=o1.dom t i' h5;have hm:D7 t (G1 (L7 (R2 c.ob wr)))=true:=I6.2 ⟨o,by rw[Ae3,hb];exact ho⟩;exact⟨i',by rw[G0 hm];exact h5,h6⟩
 have key:bodyPostM (WF none) 0 P fn (Gp9 s r0 w0 M00 (L7 (R2 c.ob wr)) v) .ret (fr N f (dfs Ds)) w:=Bg0 (tmps:=(fr N f []).tmps) (by intro e;cases e) (F3 hn) hbase Ds S wl w M0 hH.2 h.ow;unfold Bi5 at hat;split at hat
 ·rename_i ht;rw[ht];exact Cj0 (Ab7 _ hat key)
 ·rename_i ht;rw[ht];exact key
 ·cases hat
theorem Bk9{r:Option Nat}{ds:List Deferred}{H:List (Nat×B9)}(hst:Eg5 K s r0 w0)(p:List (Nat×Nat))(hkk:Cw9 p K=true)(hb:bij p=true)(ha:Cj2 p (B4 c.ob) p=true)(hn:V2 c.ob=true)(hk:J r P N ds (Gn4 P fn H v s r0 w0 M00 Ds) ⟨Q4 (Aw8 p) c.sl,Ee4 p (B4 c.ob) p,c.td⟩):J r P N ds (Gn4 P fn H v s r0 w0 M00 Ds) c:=
 Er1 p (fun t i hi=>Be7 hkk (hst.2 t i hi)) hb ha hn hk
theorem Bp2{g:FuncId}{b:Code}{os H:List (Nat×B9)}{args:List V}(hf:P.funcs[g]? =some fn)(hb:fn.body=some b)(hN:fn.ntmps=N)(hv:Nat.ble args.length N=true)(hno:V2 os=true)(h:∀s r0 w0 M00,Eg5 (G1 os) s r0 w0->J none P N (dfs []) (Gn4 P fn H v s r0 w0 M00 []) ⟨mkT (Dh8 0 args),os,[.code b]⟩):I0 P g os args H v:=by
 intro s wl M0 M ρ w vals ho hr;have hl:=H3 hv;refine Et6 hf hb hN (by rw[hr.len];exact hl) ?_;have hst:Eg5 (G1 os) s ρ wl:=⟨⟨ho.gl.sz,ho.gl.off⟩,fun r i hi=>I6.2 (ho.dom r i hi)⟩
 have h:=h s ρ wl M0 hst;have hbs:=ho.base (r0:=ρ) M.le_refl ho.sits (Nat.le_refl _) (fun k hk=>⟨rfl,rfl⟩) (fun q i hq _=>absurd hq (F3 hno q q)) (fun q z hq=>absurd hq (F3 hno q z)) (fun _ _ _ h=>h) ho.szw;have:=h.2 ⟨TA ρ (B4 os),ρ⟩ w M ⟨rfl,⟨ho.os,ho.tape,ho.output,ho.size,ho.old,ho.le,ho.sits,ho.new⟩,fun b hb=>(N1 ho hb).1,fun _ h=>(by cases h),List.nodup_nil⟩ M ρ (Bv6 vals) w ⟨hbs,Ai6 _,Ab1 h.1 _ (fun t v hm=>by
  obtain⟨_,h2⟩:=Aa4 hm;rw[Nat.sub_zero]at h2;obtain⟨u,h3,h4⟩:=hr.get h2;exact⟨Nat.lt_of_lt_of_le (List.getElem?_eq_some_iff.1 h2).1 hl,by unfold Bv6;rw[h3];exact h4⟩)⟩
 simp only[Wk,Exit.then]at this;exact this
end
end
end Go.Proofs.YtdlnalepibeibaaGreatDoor.Kx
end
