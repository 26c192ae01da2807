/- One part of the texts that lead to the theorem; it claims nothing by itself. -/
import Derived.Scope
import Derived.RangeFuncRecord
import Derived.RangeFuncIn
import Derived.RangeFuncLeaves
import Derived.RecoverIn
import Derived.Laws.Externs
import Derived.Test.YtfgbhfphjmmiaaaGreatDoorGaa
open List
section
namespace Go.Proofs.YtfgbhfphjmmiaaaGreatDoor.Kx
open Go Go.RowKit Go.IntKind
section
section
variable {r:Option Nat} {P:Program} {a:Act} {w wl:World} {S:L8} {M0 M:Mem} {ρ:Rho} {ob:Nat->Option B9} {ev:Operand->V} {d:Nat} {ty:TypeId} {op:Op}
theorem Ei6{cs xs:List Dat}{us vs:List Value}{k:Nat}(h:C9 M cs us)(h':C9 M xs vs):C9 M (Z1 cs k xs) (D2 us k vs):=by
 unfold Z1 D2;rw[h'.len];exact((h.take k).append h').append (h.drop _)
theorem Dw3{t:TypeId}{x y:Operand}(h:Ow S wl M0 M ρ ob w){n:Nat}(hs:F9 P t=some n){rr g j k sz:Nat}{e:TypeId}{es:List (List Dat)}{old xs:List Dat}{ws:List Value}{u:Value}(hx:B8 M ρ (.ept rr g j k) (a.eval x))(hy:a.eval y=u)(hc:u.cells=ws.toArray)(hw1:∀v∈ws,v.oneCell'=true)(hrel:C9 M xs ws)
 (hr:ob rr=some (.buf g e sz es)) (hn:xs.length=n) (hl:k+n<=sz) (hpn:Nat.blt g 1000000=true) (ho:es[j]? =some old):
 D5 r P a (.store t x y) S wl M0 M ρ ob w .undef [(rr,.buf g e sz (es.set j (Z1 old k xs)))]:=by
 obtain⟨i,hi,hg,hp⟩:=Am1 hx;obtain⟨hfix,hg',hsz,hnn,ht,hmax,hh⟩:=h.buf_heap hr hi;obtain⟨hjn,hp⟩:=hp hg'.symm;obtain⟨hm,pre,us,sp,hw,hpre,hlen,hrl⟩:=hh (by omega);obtain⟨q1,q2,q3⟩:=Av5 hrl ho;obtain⟨e1,e2⟩:=Bp5 hrl (off:=j+1) (by omega);rw[Nat.add_mul,bj_]at e2;have hwl:ws.length=n:=by rw[hrel.len,hn]
 have hoff:(i.base+j)*i.sz+k=pre.length+(j*sz+k):=by rw[hpre,hsz,Nat.add_mul];omega
 have hst:=S9 (P:=P) (k:=(i.base+j)*i.sz+k) hw hc (by rw[hwl];exact hs) hw1 (by rw[hoff];simp;omega);have hnew:D2 (pre++(us++sp)).toArray.toList ((i.base+j)*i.sz+k) ws=pre++(D2 us (j*sz) (D2 ((us.drop (j*sz)).take sz) k ws)++sp):=by
  rw[hoff];simp only;rw[N2,X1 (by omega),Bd0 (n:=sz) rfl (by omega) (by omega)]
 rw[hnew]at hst;have hrl2:rL (rDs sz) M (D2 us (j*sz) (D2 ((us.drop (j*sz)).take sz) k ws)) (es.set j (Z1 old k xs)):=Fw7 hrl (by omega) (u:=D2 ((us.drop (j*sz)).take sz) k ws) ⟨by unfold Z1;simp;omega,Ei6 q3 hrel⟩;obtain⟨h5,h6⟩:=h.turn (w':=w.setRow i.b (pre++(D2 us (j*sz) (D2 ((us.drop (j*sz)).take sz) k ws)++sp)).toArray) hr hi i (.buf g e sz (es.set j (Z1 old k xs))) (fun q _ hq=>setRow_other w i.b q _ (hq (by simp only[Aj1];omega))) (by simp) rfl rfl rfl (fun _ c hc=>by rw[hm.2.1 hpn]at hc;cases hc) ⟨ad_ _,fun _=>rfl,fun _=>rfl⟩ (fun hl=> .inl ⟨hl,rfl⟩)
  (fun ρ' _ _=>⟨hfix,hg',hsz,by simpa using hnn,ht,hmax,fun _=>⟨hm,pre,_,sp,setRow_heap w i.b _ _ e _ hw,hpre,by
   rw[length_append,L9 _ _ _ (by rw[L9 _ _ _ (by omega)];omega)];rw[length_append]at hlen;exact hlen,hrl2⟩⟩)
 refine Eff.of_runU (w':=w.setRow i.b (pre++(D2 us (j*sz) (D2 ((us.drop (j*sz)).take sz) k ws)++sp)).toArray) ?_ rfl ⟨M,_,h5,h6,C4 _⟩;intro d ty pos aft g;simp[execOp,Instr.storeAt,Instr.sureAddr,hp,hy,hst]
theorem Dn4{t:TypeId}{x y:Operand}(h:Ow S wl M0 M ρ ob w)(hev:∀x,B8 M ρ (ev x) (a.eval x)):(Bo0 P ob t (ev x) (Af4 P t (ev y))).Good (D5 r P a (.store t x y) S wl M0 M ρ ob w):=by
 have hx:=hev x;have hy:=T2 (P:=P) (t:=t) (hev y);generalize ev x=vx at*;generalize Af4 P t (ev y)=vy at*;unfold Bo0;split
 .rename_i n rr k hs;split
  .rename_i cs us hr hus;split
   .rename_i h1 h2;exact Dw2 h hs hx hy hus hr (nB_ h1) (I1 h2)
   .trivial
  .trivial
 .rename_i n rr g j k hs;split
  .rename_i us hus;split
   .rename_i xs wr hds;split
    .rename_i g' e sz es hr;split
     .rename_i h1 h2 h3 h4;obtain rfl:=nB_ h1;intro es' hes;split at hes
      .rename_i old hold;cases hes;obtain⟨ws,hc,hrw,hw1⟩:=O2 hus hy;obtain⟨M1,r1,o1,d1⟩:=J9 h hrw hds;refine D5.after r1 ?_;exact Dw3 o1 hs (B8.mono r1 _ hx) rfl hc hw1 d1 hr (nB_ h2) (I1 h3) h4 hold
      .cases hes
     .trivial
    .trivial
   .trivial
  .trivial
 .trivial
theorem Dm9{t:TypeId}{x i:Operand}(h:Ow S wl M0 M ρ ob w)(hev:∀x,B8 M ρ (ev x) (a.eval x)):(L3 P ob d ty ev (.index t x i)).Good (D5 r P a (.index t x i) S wl M0 M ρ ob w):=by
 simp only[L3];have hx:=hev x;have hi:=hev i;generalize ev x=vx at*;generalize ev i=vi at*;unfold Ch5;split
 .trivial
 .rename_i j hj;obtain⟨k,hk⟩:=N1 hj hi;split
  .rename_i s;split
   .rename_i ht;intro cs hcs;split at hcs
    .rename_i c hc;cases hcs;obtain⟨hj0,hj1⟩:=N0 hc;exact D5.val h (Bq2 (i:=j.toNat) (P0 hx) (by rw[hk,<-hj0]) ht hj1) rfl K9
    .cases hcs
   .trivial
  .rename_i cs;obtain⟨us,hu,hr⟩:=Ae8 hx;split
   .rename_i n e ht;have ht':=Bt8 ht;split
    .rename_i s ag hz;obtain⟨hs,ha,h1⟩:=U4 hz;have part:∀(q:Nat),q<n->(q+1)*s<=us.length->j=(q:Int)->∀v,B8 M ρ v (mkv ag ((us.drop (q*s)).take s))->D5 r P a (.index t x i) S wl M0 M ρ ob w v []:=fun q hq hql hjq v hv=>by
      have hl':((us.drop (q*s)).take s).length=s:=P2 (by rw[Nat.add_mul]at hql;omega);refine D5.val h (Dv3 (i:=q) (vs:=(us.drop (q*s)).take s) hu (by rw[hk,hjq]) ht' hq ha hs hl' (fun e=>by rw[hl'];exact h1 e) (fun p hp=> ?_)) rfl hv;rw[getElem?_take_of_lt (by omega),getElem?_drop]
     split
     .split
      .rename_i g1 g2 g3;have g1:=of_decide_eq_true g1;have g2:=Ac8 g2;have g3:=I1 g3;have hl:=hr.len;have h5:(j.toNat+1)*s<=n*s:=be_ _ (by omega);refine part j.toNat g2 (by omega) (by omega) _ (Y7 (_n:=s) ((hr.drop _).take s) (fun e=> ?_));rw[Nat.add_mul]at h5;rw[P2 (by omega)];exact h1 e
      .trivial
     .split
      .rename_i ds g1 g2;have g2:=nB_ g2;have hd:=Bc6 g1 hr;intro c hc;obtain⟨hj0,hj1⟩:=N0 hc;obtain⟨h3,h4⟩:=W2 _ _ _ _ _ hj1;have hl:=hr.len;have h5:(j.toNat+1)*s<=n*s:=be_ _ (by omega);refine part j.toNat h3 (by omega) hj0 _ ?_;dsimp only;split
       .rename_i hb;rw[h4];rw[Nat.add_mul]at h5;exact Y7 (_n:=s) (B2.dV ((hd.drop _).take s)) (fun e=>by rw[P2 (by omega)];exact h1 e)
       .exact C4 _
      .trivial
    .trivial
   .trivial
  .trivial
theorem R2(h:Ow S wl M0 M ρ ob w)(hev:∀x,B8 M ρ (ev x) (a.eval x)):(L3 P ob d ty ev op).Good (D5 r P a op S wl M0 M ρ ob w):=by
 cases op with
 |move x=>exact D5.val h (Ei5 rfl) rfl (T2 (hev x))
 |assign x=>exact D5.val h (Da8 rfl) rfl (T2 (hev x))
 |pick c x y=>exact Ee0 h hev
 |alloc t=>exact Cg8 h
 |box t x=>exact Dm3 h hev
 |build t ps=>exact Dm4 h hev
 |buildSlice t n ps=>exact G5 (Be9 h hev) (Cy8 h hev)
 |load t x=>exact G5 (Ed7 h hev) (Dn0 h hev)
 |store t x y=>exact G5 (Cz1 h hev) (Dn4 h hev)
 |nilCheck x=>exact Bv5 h hev
 |binOp o t x y u=>exact Cy7 h hev
 |unOp o t x=>exact Ee1 h hev
 |convert s t x=>exact Bv2 h hev
 |makeInterface t x=>exact Bn6 h
 |makeFunc f x y=>exact Bv3 h hev
 |makeSlice t l c=>exact G5 (Dn1 h hev) (Ed8 h hev)
 |makeMap t hint=>trivial
 |lookup t m k ok=>trivial
 |mapUpdate t m k v=>trivial
 |insert t m k v=>trivial
 |slice t x lo hi mx=>exact Dn3 h hev
 |fieldAddr t x i=>exact Bn4 h hev
 |field t x i=>exact Dm8 h hev
 |indexAddr t x i=>exact G5 (Bn5 h hev) (Cy9 h hev)
 |index t x i=>exact Dm9 h hev
 |extract x i=>exact Ch2 h hev
 |call c=>
  obtain⟨callee,args,tys⟩:=c;cases callee with
  |builtin b=>
   cases b<;>first|trivial|skip
   .simp only[L3];split
    .rename_i s x t t2 h1 h2;have he:(⟨.builtin .append,args,tys⟩:Call)={callee:= .builtin .append,args:= #[s,x],argTypes:= #[t,t2]}:=by rw[show args= #[s,x] from bh_ h1,show tys= #[t,t2] from bh_ h2]
     exact G5 (Cy6 h hev he) (Cg9 h hev he)
    .trivial
   .simp only[L3];split
    .rename_i x t h1 h2;exact G5 (Fc4 h hev (by rw[show args= #[x] from bh_ h1,show tys= #[t] from bh_ h2])) (Ed6 h hev (by rw[show args= #[x] from bh_ h1,show tys= #[t] from bh_ h2]))
    .trivial
   .simp only[L3];split
    .rename_i k m k' n he;split
     .rename_i hk;obtain rfl:=Bx3 hk;exact Bv4 (mx:=true) h rfl hev he
     .trivial
    .trivial
   .simp only[L3];split
    .rename_i k m k' n he;split
     .rename_i hk;obtain rfl:=Bx3 hk;exact Bv4 (mx:=false) h rfl hev he
     .trivial
    .trivial
   .simp only[L3];split
    .rename_i x h1;obtain rfl:args= #[x]:=bh_ h1;exact Dn2 h hev
    .trivial
   .simp only[L3];split
    .rename_i x n pt it h1 h2;obtain rfl:args= #[x,n]:=bh_ h1;obtain rfl:tys= #[pt,it]:=bh_ h2;exact Ee2 h hev
    .trivial
  |value f=>
   simp only[L3];split<;>trivial
  |invoke x m=>trivial
 |_=>trivial
end
end
section
inductive It where
 |code (c:Code)
 |inBlock (id:Nat)
 |inLoop (b:Code)
 |inScope (b:Code)
 |ops (all rest:List Oper)
 |begR (l:Nat)
 deriving Inhabited
structure Cfg where
 sl:Tri
 ob:List (Nat×B9)
 td:List It
 deriving Inhabited
section
variable {r:Option Nat} {P:Program} {Q:Exit->Act->World->Prop} {a:Act} {w:World}
@[irreducible] def Wl (r:Option Nat) (P:Program) (b:Code) (Q:Exit->Act->World->Prop) (a:Act) (w:World):Prop:=
 (∀(f:Frame) (k:List Item) (cs:List Frame),f.roundOf=r->(∃fn,P.funcs[f.fn]? =some fn)->
  ∃e a' w',Q e a' w'/\ArrivesIn (Machine.fenced P (WF r)) P (lone (f.atR a (.inLoop b::k)) cs w) f k cs e a' w')/\W r P (.loop b) Q a w
theorem Ez6{b:Code}(h:W r P b (Exit.then (fun a w=>Wl r P b Q a w) Q) a w):Wl r P b Q a w:=by
 have key:∀(f:Frame) (k:List Item) (cs:List Frame),f.roundOf=r->(∃fn,P.funcs[f.fn]? =some fn)->
  ∃e a' w',Q e a' w'/\ArrivesIn (Machine.fenced P (WF r)) P (lone (f.atR a (.code b:: .inLoop b::k)) cs w) f k cs e a' w':=by
  intro f k cs hro hb;obtain⟨e,a₁,w₁,hq,harr⟩:=Cx4 h f (.inLoop b::k) cs hro hb;cases e with
  |normal=>
   simp only[Exit.then]at hq;unfold Wl at hq;obtain⟨e₂,a₂,w₂,hq₂,harr₂⟩:=hq.1 f k cs hro hb;exact⟨e₂,a₂,w₂,hq₂,.of_steps harr harr₂⟩
  |exit id=>exact⟨_,a₁,w₁,hq,.pass (x:= .inLoop b) rfl (fun _ _=> .inl (by simp)) harr⟩
  |goto l=>exact⟨_,a₁,w₁,hq,.pass (x:= .inLoop b) rfl (fun _ _=> .inl (by simp)) harr⟩
  |ret=>exact⟨_,a₁,w₁,hq,.pass (x:= .inLoop b) rfl (fun _ _=> .inl (by simp)) harr⟩
  |panic ch=>exact⟨_,a₁,w₁,hq,.pass (x:= .inLoop b) rfl (fun _ _=> .inl (by simp)) harr⟩
  |outgrown=>exact⟨_,a₁,w₁,hq,.pass (x:= .inLoop b) rfl (fun _ _=> .inl (by simp)) harr⟩
 unfold Wl;refine⟨fun f k cs hro hb=> ?_,?_⟩
 .obtain⟨e,a',w',hq,harr⟩:=key f k cs hro hb;exact⟨e,a',w',hq,.of_steps (.one (L1 rfl) stepR_inLoop) harr⟩
 .unfold W;intro f k cs hro hb;obtain⟨e,a',w',hq,harr⟩:=key f k cs hro hb;exact⟨e,a',w',hq,.of_steps (.one (L1 rfl) stepR_loop) harr⟩
theorem Ez7{b:Code}(h:Wl r P b Q a w):W r P (.loop b) Q a w:=by unfold Wl at h;exact h.2
@[irreducible] def Wg (r:Option Nat) (P:Program) (b rest:Code) (Q:Exit->Act->World->Prop) (a:Act) (w:World):Prop:=
 ∀(f:Frame) (k:List Item) (cs:List Frame),f.roundOf=r->(∃fn,P.funcs[f.fn]? =some fn)->
  ∃e a' w',Q e a' w'/\ArrivesIn (Machine.fenced P (WF r)) P (lone (f.atR a (.code rest:: .inScope b::k)) cs w) f k cs e a' w'
def Bo4(r:Option Nat)(P:Program)(b:Code)(Q:Exit->Act->World->Prop):Exit->Act->World->Prop
 | .goto l,a,w=>match findLabel b l with|some rest=>Wg r P b rest Q a w|none=>Q (.goto l) a w
 |e,a,w=>Q e a w
theorem Dv6{b:Code}{m:Machine}{f:Frame}{k:List Item}{cs:List Frame}{e:Exit}(hro:f.roundOf=r)(hb:∃fn,P.funcs[f.fn]? =some fn)(harr:ArrivesIn (Machine.fenced P (WF r)) P m f (.inScope b::k) cs e a w)(hq:Bo4 r P b Q e a w):
 ∃e a' w',Q e a' w'/\ArrivesIn (Machine.fenced P (WF r)) P m f k cs e a' w':=by
 have st:∀{a:Act} {w:World},step P (lone (f.atR a (.inScope b::k)) cs w)= .next (lone (f.atR a k) cs w):=step_lone_go (by simp[stepG,stepG.exec,Frame.atR]);cases e with
 |normal=>exact⟨.normal,a,w,hq,StepsIn.trans harr (.one (L1 rfl) st)⟩
 |exit id=>
  have hx:exitTo id (.inScope b::k)=exitTo id k:=by simp[exitTo]
  exact⟨.exit id,a,w,hq,fun k' hk=>harr.1 k' (by rw[hx];exact hk),fun hr' hk=>harr.2 hr' (by rw[hx];exact hk)⟩
 |goto l=>
  simp only[Bo4]at hq;split at hq
  .rename_i rest hl;unfold Wg at hq;obtain⟨e',a',w',q,arr⟩:=hq f k cs hro hb;exact⟨e',a',w',q,.of_steps (harr.1 _ (by simp[gotoIn,hl])) arr⟩
  .rename_i hl;have hx:gotoIn l (.inScope b::k)=gotoIn l k:=by simp[gotoIn,hl]
   exact⟨.goto l,a,w,hq,fun k' hk=>harr.1 k' (by rw[hx];exact hk),fun hr' hk=>harr.2 hr' (by rw[hx];exact hk)⟩
 |ret=>exact⟨_,a,w,hq,harr⟩
 |panic ch=>exact⟨_,a,w,hq,harr⟩
 |outgrown=>exact⟨_,a,w,hq,harr⟩
theorem Gh1{b rest:Code}(h:W r P rest (Bo4 r P b Q) a w):Wg r P b rest Q a w:=by
 unfold Wg;intro f k cs hro hb;obtain⟨e,a₁,w₁,hq,harr⟩:=Cx4 h f (.inScope b::k) cs hro hb;exact Dv6 hro hb harr hq
def Wk(r:Option Nat)(P:Program)(fin:Exit->Act->World->Prop):List It->Exit->Act->World->Prop
 |[]=>fin
 | .code c::k=>Exit.then (fun a w=>W r P c (Wk r P fin k) a w) (Wk r P fin k)
 | .inBlock id::k=>Exit.inBlock id (Wk r P fin k)
 | .inLoop b::k=>Exit.then (fun a w=>Wl r P b (Wk r P fin k) a w) (Wk r P fin k)
 | .inScope b::k=>Bo4 r P b (Wk r P fin k)
 | .ops all rest::k=>Exit.then (fun a w=>L r P all.toArray (Wk r P fin k) rest a w) (Wk r P fin k)
 | .begR l::k=>Exit.then (fun a w=>∃w2,(Instr.beginRound l).run P w= .ok () w2/\Wk r P fin k .normal a w2) (fun _ _ _=>False)
end
def G3(N:Nat)(sl:Tri):Operand->V
 | .tmp t=>match Nat.blt t N with|true=>sl.get 10 t|false=> .undef
 | .const v=>Gd8 v
 | .func f=> .d (.fnc f)
 | .global n=>match gl n with|some cs=> .rp cs 0|none=> .undef
def Cc4(N:Nat)(sl:Tri)(d:Option Nat)(v:V):Tri:=match d with
 |none=>sl
 |some d=>match Nat.blt d N with|true=>sl.set 10 d v|false=> .e
def Dn7(id:Nat):List It->Option (List It)
 |[]=>none
 | .inBlock i::k=>match Nat.beq i id with|true=>some k|false=>Dn7 id k
 | .begR _::_=>none
 |_::k=>Dn7 id k
def Dp0(l:Nat):List It->Option (List It)
 |[]=>none
 | .inScope b::k=>match findLabel b l with|some rest=>some (.code rest:: .inScope b::k)|none=>Dp0 l k
 | .begR _::_=>none
 |_::k=>Dp0 l k
def gd(N:Nat)(sl:Tri)(all:List Oper)(o:Oper):Option Bool:=match o.guard with
 |none=>some true
 |some (j,want)=>match Be8 all j with
  |some t=>match G3 N sl (.tmp t) with
   | .d (.bool b)=>match b,want with|true,true=>some true|false,false=>some true|_,_=>some false
   | .un=>some false
   |_=>none
  |none=>none
section
variable (P:Program) (N:Nat)
def Af3(c:Cfg):Res:=match c.td with
 | .ops all (o::_)::_=>match gd N c.sl all o with
   |some true=>L3 P (B0 c.ob) (o.dst.getD 0) o.type (G3 N c.sl) o.op
   |_=> .bad
 |_=> .bad
def after(c:Cfg)(v:V)(wr:Wr):Cfg:=match c.td with
 | .ops all (o::rest)::k=>⟨Cc4 N c.sl o.dst v,Q3 c.ob wr,.ops all rest::k⟩
 |_=>c
def adv(c:Cfg):Option Cfg:=match c.td with
 | .code .skip::k=>some ⟨c.sl,c.ob,k⟩
 | .code (.label _)::k=>some ⟨c.sl,c.ob,k⟩
 | .code (.seq x y)::k=>some ⟨c.sl,c.ob,.code x:: .code y::k⟩
 | .code (.block id b)::k=>some ⟨c.sl,c.ob,.code b:: .inBlock id::k⟩
 | .code (.scope b)::k=>some ⟨c.sl,c.ob,.code b:: .inScope b::k⟩
 | .code (.loop b)::k=>some ⟨c.sl,c.ob,.inLoop b::k⟩
 | .code (.exit id)::k=>match Dn7 id k with|some k'=>some ⟨c.sl,c.ob,k'⟩|none=>none
 | .code (.goto l)::k=>match Dp0 l k with|some k'=>some ⟨c.sl,c.ob,k'⟩|none=>none
 | .code (.region _ ops false)::k=>some ⟨c.sl,c.ob,.ops ops.toList ops.toList::k⟩
 | .code (.cond x t f)::k=>match G3 N c.sl x with
   | .d (.bool b)=>match b with|true=>some ⟨c.sl,c.ob,.code t::k⟩|false=>some ⟨c.sl,c.ob,.code f::k⟩
   |_=>none
 | .inBlock _::k=>some ⟨c.sl,c.ob,k⟩
 | .inScope _::k=>some ⟨c.sl,c.ob,k⟩
 | .inLoop b::k=>some ⟨c.sl,c.ob,.code b:: .inLoop b::k⟩
 | .ops _ []::k=>some ⟨c.sl,c.ob,k⟩
 | .ops all (o::rest)::k=>match gd N c.sl all o with
   |some true=>match Af3 P N c with
    | .ok v wr=>some ⟨Cc4 N c.sl o.dst v,Q3 c.ob wr,.ops all rest::k⟩
    |_=>none
   |some false=>some ⟨Cc4 N c.sl o.dst .un,c.ob,.ops all rest::k⟩
   |none=>none
 |_=>none
def At8:Nat->Cfg->Cfg
 |0,c=>c
 |n+1,c=>match adv P N c with
  |some c'=>At8 n c'
  |none=>c
end
structure Abs(S:L8)(wl:World)(M0 M:Mem)(ρ:Rho)(N:Nat)(c:Cfg)(f:Nat->Value)(w:World):Prop where
 ow:Ow S wl M0 M ρ (B0 c.ob) w
 ok:c.sl.ok 10
 sl:∀t,t<N->B8 M ρ (c.sl.get 10 t) (f t)
structure Fin where
 H:L8->World->Mem->Prop
 post:L8->World->Mem->Exit->Act->World->Prop
instance:CoeFun Fin (fun _=>L8->World->Mem->Exit->Act->World->Prop):=⟨Fin.post⟩
def J(r:Option Nat)(P:Program)(N:Nat)(ds:List Deferred)(fin:Fin)(c:Cfg):Prop:=
 N<=1024/\∀S wl M0,fin.H S wl M0->∀M ρ f w,Abs S wl M0 M ρ N c f w->Wk r P (fin S wl M0) c.td .normal (fr N f ds) w
section
variable {r:Option Nat} {P:Program} {N:Nat} {ds:List Deferred} {fin:Fin} {c:Cfg}
variable {S:L8} {wl w:World} {M0 M:Mem} {ρ:Rho} {f:Nat->Value}
theorem G1(h:Abs S wl M0 M ρ N c f w)(x:Operand):B8 M ρ (G3 N c.sl x) ((fr N f ds).eval x):=by
 cases x with
 |tmp t=>
  simp only[G3];split
  .rename_i ht;rw[ev ht rfl];exact h.sl t (Ac8 ht)
  .exact C4 _
 |const v=>exact Bq9 v
 |func g=>simp only[G3,B8];exact .fnc g
 |global g=>
  simp only[G3];split
  .rename_i cs hg;obtain⟨us,h1,h2⟩:=h.ow.gl.ok.d g cs hg;simp only[B8];exact⟨g,0,us,rfl,h1,h2⟩
  .exact C4 _
theorem Bp7(h:Abs S wl M0 M ρ N c f w)(hN:N<=1024){M':Mem}{ρ':Rho}{w':World}{ob':List (Nat×B9)}(hr:Rle M M' ρ ρ')(ho:Ow S wl M0 M' ρ' (B0 ob') w'){v:V}{u:Value}(hv:B8 M' ρ' v u)(d:Option Nat)(td:List It):
 Abs S wl M0 M' ρ' N ⟨Cc4 N c.sl d v,ob',td⟩ (match d with|some d=>upd f d u|none=>f) w':=by
 cases d with
 |none=>exact⟨ho,h.ok,fun t ht=>B8.mono hr _ (h.sl t ht)⟩
 |some d=>
  simp only[Cc4];split
  .rename_i hd;have hd:=Ac8 hd;refine⟨ho,Tri.set_ok _ _ _ _ h.ok,fun t ht=> ?_⟩;by_cases e:t=d
   .subst e;dsimp only;rw[Tri.get_set_same,An2];exact hv
   .dsimp only;rw[Tri.get_set_ne _ _ _ _ _ h.ok (by omega) (by omega) (fun e'=>e e'.symm),Cb6 _ _ e];exact B8.mono hr _ (h.sl t ht)
  .exact⟨ho,trivial,fun t _=>by dsimp only;rw[Tri.get_e];exact C4 _⟩
theorem Aq7{d:Option Nat}{u:Value}:(fr N f ds).put d u=fr N (match d with|some d=>upd f d u|none=>f) ds:=by
 cases d with
 |none=>rfl
 |some d=>exact Eo7
theorem Ci3(h:Abs S wl M0 M ρ N c f w){all:List Oper}{o:Oper}{b:Bool}(hg:gd N c.sl all o=some b):Region.wanted o (yielded all.toArray (fr N f ds).tmps)=b:=by
 obtain⟨d,op,ty,pos,aft,g⟩:=o;cases g with
 |none=>simp only[gd,Option.some.injEq]at hg;subst hg;rfl
 |some p=>
  obtain⟨j,want⟩:=p;unfold gd at hg;dsimp only at hg;split at hg
  .rename_i t ht;have hr:=G1 (ds:=ds) h (.tmp t);have hlt:∀v,G3 N c.sl (.tmp t)=v->v≠ .undef->Nat.blt t N=true:=fun v hv hne=>by
    simp only[G3]at hv;split at hv
    .assumption
    .exact absurd hv.symm hne
   split at hg
   .rename_i b' hb;have hN:=hlt _ hb (by intro e;cases e);rw[hb]at hr;have he:=P7 hr;have hft:f t= .bool b':=by rw[<-he,ev hN rfl]
    rw[Cw0 (Et0 ht hN hft)];cases b'<;>cases want<;>simp at hg⊢<;>first|exact hg|exact hg.symm
   .rename_i hb;have hN:=hlt _ hb (by intro e;cases e);rw[hb]at hr;simp only[B8]at hr;have hft:f t=undef:=by rw[<-hr,ev hN rfl]
    cases hg;exact Cw1 (Cw4 ht hN hft) want
   .cases hg
  .cases hg
theorem Ae2{fin':Exit->Act->World->Prop}{id:Nat}{a:Act}{w:World}:∀{k k':List It},Dn7 id k=some k'->Wk r P fin' k' .normal a w->Wk r P fin' k (.exit id) a w
 |[],_,h,_=>by cases h
 | .inBlock i::k,k',h,hw=>by
   unfold Dn7 at h;split at h
   .rename_i hb;cases h;obtain rfl:=nB_ hb;simp only[Wk,Exit.inBlock,if_true];exact hw
   .rename_i hb;have hne:¬id=i:=fun e=>by subst e;simp at hb
    simp only[Wk,Exit.inBlock,if_neg hne];exact Ae2 h hw
 | .code c::k,k',h,hw=>by simp only[Wk,Exit.then];exact Ae2 h hw
 | .inLoop b::k,k',h,hw=>by simp only[Wk,Exit.then];exact Ae2 h hw
 | .inScope b::k,k',h,hw=>by simp only[Wk,Bo4];exact Ae2 (k:=k) h hw
 | .ops a b::k,k',h,hw=>by simp only[Wk,Exit.then];exact Ae2 h hw
 | .begR _::k,k',h,hw=>by cases h
theorem Ez5{c:Code}{Q:Exit->Act->World->Prop}{a:Act}{w:World}(h:W r P c (Bo4 r P c Q) a w):W r P (.scope c) Q a w:=by
 unfold W;intro b k cs hro hb;have st:step P (lone (b.atR a (.code (.scope c)::k)) cs w)= .next (lone (b.atR a (.code c:: .inScope c::k)) cs w):=step_lone_go (by simp[stepG,stepG.exec,Frame.atR]);obtain⟨e,a₁,w₁,hq,harr⟩:=Cx4 h b (.inScope c::k) cs hro hb;obtain⟨e',a',w',q,arr⟩:=Dv6 hro hb harr hq;exact⟨e',a',w',q,.of_steps (.one (L1 rfl) st) arr⟩
theorem Ae3{fin':Exit->Act->World->Prop}{l:Nat}{a:Act}{w:World}:∀{k k':List It},Dp0 l k=some k'->Wk r P fin' k' .normal a w->Wk r P fin' k (.goto l) a w
 |[],_,h,_=>by cases h
 | .inScope b::k,k',h,hw=>by
   simp only[Wk,Bo4];unfold Dp0 at h;split at h
   .rename_i rest hl;cases h;exact Gh1 hw
   .exact Ae3 h hw
 | .inBlock i::k,k',h,hw=>by simp only[Wk,Exit.inBlock];exact Ae3 (k:=k) h hw
 | .code c::k,k',h,hw=>by simp only[Wk,Exit.then];exact Ae3 (k:=k) h hw
 | .inLoop b::k,k',h,hw=>by simp only[Wk,Exit.then];exact Ae3 (k:=k) h hw
 | .ops a b::k,k',h,hw=>by simp only[Wk,Exit.then];exact Ae3 (k:=k) h hw
 | .begR _::k,k',h,hw=>by cases h
theorem Cw3(l:List (Nat×B9))(wr:Wr):wrO (B0 l) wr=B0 (Q3 l wr):=(U2 wr l).symm
theorem Cx2{v:V}{wr:Wr}{all rest:List Oper}{o:Oper}{k:List It}(ht:c.td= .ops all (o::rest)::k)(hg:gd N c.sl all o=some true)
 (he:∀S wl M0 M ρ f w,Abs S wl M0 M ρ N c f w->D5 r P (fr N f ds) o.op S wl M0 M ρ (B0 c.ob) w v wr) (hk:J r P N ds fin ⟨Cc4 N c.sl o.dst v,Q3 c.ob wr,.ops all rest::k⟩):J r P N ds fin c:=by
 refine⟨hk.1,fun S wl M0 hH M ρ f w h=> ?_⟩;rw[ht];simp only[Wk,Exit.then];obtain⟨d,op,ty,pos,aft,g⟩:=o;refine Gm8 (Ci3 h hg) (he S wl M0 M ρ f w h _ _ _ _ _ _ _ fun u w' ⟨M',ρ',h1,h2,h3⟩=> ?_);have:=hk.2 S wl M0 hH M' ρ' _ w' (Bp7 h hk.1 h1 (by rw[<-Cw3];exact h2) h3 d _);simp only[Wk,Exit.then]at this;rw[Aq7];exact this
theorem Fq7{all rest:List Oper}{o:Oper}{k:List It}(ht:c.td= .ops all (o::rest)::k)(hg:gd N c.sl all o=some false)(hk:J r P N ds fin ⟨Cc4 N c.sl o.dst .un,c.ob,.ops all rest::k⟩):J r P N ds fin c:=by
 refine⟨hk.1,fun S wl M0 hH M ρ f w h=> ?_⟩;rw[ht];simp only[Wk,Exit.then];have:=hk.2 S wl M0 hH M ρ _ w (Bp7 h hk.1 (Rle.refl _ _) h.ow (v:= .un) (u:=undef) (by simp only[B8]) o.dst _);simp only[Wk,Exit.then]at this;have hw:=Ci3 (ds:=ds) h hg;rw[Fq9]at this⊢;unfold wpListIn;rw[if_neg (by rw[hw];simp)];refine⟨fun _ _=>trivial,?_⟩;rw[Aq7];exact this
theorem Fq0{c':Cfg}(h:adv P N c=some c')(hk:J r P N ds fin c'):J r P N ds fin c:=by
 have ctl:∀{td:List It},c'=⟨c.sl,c.ob,td⟩->(∀{fin':Exit->Act->World->Prop} {a:Act} {w:World},Wk r P fin' td .normal a w->Wk r P fin' c.td .normal a w)->J r P N ds fin c:=fun{td} e hw=>by
  subst e;exact⟨hk.1,fun S wl M0 hH M ρ f w ha=>hw (hk.2 S wl M0 hH M ρ f w ⟨ha.ow,ha.ok,ha.sl⟩)⟩
 unfold adv at h;split at h
 .rename_i ht;cases h;exact ctl rfl fun hw=>by rw[ht];exact Fr3 hw
 .rename_i ht;cases h;exact ctl rfl fun hw=>by rw[ht];simp only[Wk,Exit.then];exact Ez4 (wpIn_label hw)
 .rename_i ht;cases h;exact ctl rfl fun hw=>by rw[ht];exact Gg9 hw
 .rename_i ht;cases h;exact ctl rfl fun hw=>by rw[ht];exact Ez3 hw
 .rename_i ht;cases h;exact ctl rfl fun hw=>by rw[ht];exact Ez5 hw
 .rename_i ht;cases h;exact ctl rfl fun hw=>by rw[ht];exact Ez7 hw
 .rename_i ht;split at h
  .rename_i k' hk';cases h;exact ctl rfl fun hw=>by rw[ht];exact Fr2 (Ae2 hk' hw)
  .cases h
 .rename_i ht;split at h
  .rename_i k' hk';cases h;exact ctl rfl fun hw=>by rw[ht];exact Ez4 (wpIn_goto (Ae3 hk' hw))
  .cases h
 .rename_i rid ops k ht;cases h;exact ctl rfl fun hw=>by
   rw[ht];simp only[Wk,Exit.then]at hw⊢;have:=Eb7 (id:=rid) (r:=r) (P:=P) hw;simpa using this
 .rename_i x t g k ht;split at h
  .rename_i b hb;refine⟨hk.1,fun S wl M0 hH M ρ f w ha=> ?_⟩;have hr:=G1 (ds:=ds) ha x;rw[hb]at hr;have he:=P7 hr;rw[ht];cases b with
   |true=>cases h;exact Gn2 he (fun _=>hk.2 S wl M0 hH M ρ f w ⟨ha.ow,ha.ok,ha.sl⟩) (fun e=>by cases e)
   |false=>cases h;exact Gn2 he (fun e=>by cases e) (fun _=>hk.2 S wl M0 hH M ρ f w ⟨ha.ow,ha.ok,ha.sl⟩)
  .cases h
 .rename_i ht;cases h;exact ctl rfl fun hw=>by rw[ht];exact hw
 .rename_i ht;cases h;exact ctl rfl fun hw=>by rw[ht];exact hw
 .rename_i ht;cases h;exact ctl rfl fun hw=>by rw[ht];exact Ez6 hw
 .rename_i ht;cases h;exact ctl rfl fun hw=>by rw[ht];exact Gg5 hw
 .rename_i all o rest k ht;split at h
  .rename_i hg;split at h
   .rename_i v wr he;cases h;refine Cx2 ht hg (fun S wl M0 M ρ f w ha=> ?_) hk;have:=R2 (r:=r) (P:=P) (a:=fr N f ds) (op:=o.op) (d:=o.dst.getD 0) (ty:=o.type) ha.ow (G1 (ds:=ds) ha);unfold Af3 at he;rw[ht]at he;simp only[hg]at he;rw[he]at this;exact this
   .cases h
  .rename_i hg;cases h;exact Fq7 ht hg hk
  .cases h
 .cases h
theorem B5:∀(n:Nat) {c:Cfg},J r P N ds fin (At8 P N n c)->J r P N ds fin c
 |0,_,h=>h
 |n+1,c,h=>by
  unfold At8 at h;split at h
  .rename_i c' hc;exact Fq0 hc (B5 n h)
  .exact h
end
end
section
def noR:Rho:=fun _=>none
def C1(P:Program)(g:FuncId)(args:List V)(v:V):Prop:=
 ∀M w vals,Af8 M w->GlA M w->B2 M noR args vals->Calls P g vals.toArray w (fun e w'=>∃u M',e= .returned u/\Ext M M' w w'/\B8 M' noR v u)
def Re(x y:V):Prop:=∀M ρ u,B8 M ρ x u->B8 M ρ y u
theorem Re.refl(x:V):Re x x:=fun _ _ _ h=>h
def R1:List V->List V->Prop
 |[],[]=>True
 |x::xs,y::ys=>Re x y/\R1 xs ys
 |_,_=>False
theorem R1.refl:∀(l:List V),R1 l l
 |[]=>trivial
 |x::xs=>⟨Re.refl x,R1.refl xs⟩
theorem R1.rel{M:Mem}{ρ:Rho}:∀{xs ys:List V} {us:List Value},R1 xs ys->B2 M ρ xs us->B2 M ρ ys us
 |[],[],_,_,h=>h
 |x::xs,y::ys,us,h,hr=>by
  simp only[B2]at hr⊢;obtain⟨u,us',e,h1,h2⟩:=hr;exact⟨u,us',e,h.1 _ _ _ h1,R1.rel h.2 h2⟩
 |[],_::_,_,h,_=>h.elim
 |_::_,[],_,h,_=>h.elim
section
variable {r:Option Nat} {P:Program} {N:Nat} {ds:List Deferred} {fin:Fin} {c:Cfg}
theorem Ab8{o:Oper}{all rest:List Oper}{k:List It}(ht:c.td= .ops all (o::rest)::k)(hg:gd N c.sl all o=some true):Af3 P N c=L3 P (B0 c.ob) (o.dst.getD 0) o.type (G3 N c.sl) o.op:=by
 unfold Af3;rw[ht];simp only[hg]
theorem Ak5(h:Af3 P N c≠ .bad):∃o all rest k,c.td= .ops all (o::rest)::k/\gd N c.sl all o=some true:=by
 unfold Af3 at h;split at h
 .rename_i all o rest k ht;split at h
  .rename_i hg;exact⟨o,all,rest,k,ht,hg⟩
  .exact absurd rfl h
 .exact absurd rfl h
theorem Ad7{o:Oper}{all rest:List Oper}{k:List It}(ht:c.td= .ops all (o::rest)::k)(v:V)(wr:Wr):after N c v wr=⟨Cc4 N c.sl o.dst v,Q3 c.ob wr,.ops all rest::k⟩:=by
 unfold after;rw[ht]
def Dt1(P:Program)(N:Nat)(c:Cfg):Option (Option (List Dat)):=match Af3 P N c with| .opt1 o _=>some o|_=>none
def Dt2(P:Program)(N:Nat)(c:Cfg):Option (Option (List (List Dat))):=match Af3 P N c with| .opt2 o _=>some o|_=>none
def Gk9(P:Program)(N:Nat)(c:Cfg)(x:List Dat):Cfg:=match Af3 P N c with| .opt1 _ k=>after N c (k x).1 (k x).2|_=>c
def Gl0(P:Program)(N:Nat)(c:Cfg)(x:List (List Dat)):Cfg:=match Af3 P N c with| .opt2 _ k=>after N c (k x).1 (k x).2|_=>c
theorem J3{o:Option (List Dat)}(x:List Dat)(ho:Dt1 P N c=some o)(hx:o=some x)(hk:J r P N ds fin (Gk9 P N c x)):J r P N ds fin c:=by
 unfold Dt1 at ho;split at ho
 .rename_i o' k he;cases ho;obtain⟨op,all,rest,k',ht,hg⟩:=Ak5 (P:=P) (N:=N) (c:=c) (by rw[he];intro e;cases e);unfold Gk9 at hk;rw[he]at hk;simp only[Ad7 ht]at hk;refine Cx2 ht hg (fun S wl M0 M ρ f w ha=> ?_) hk;have:=R2 (r:=r) (P:=P) (a:=fr N f ds) (op:=op.op) (d:=op.dst.getD 0) (ty:=op.type) ha.ow (G1 (ds:=ds) ha);rw[<-Ab8 ht hg,he]at this;exact this x hx
 .cases ho
theorem G0{o:Option (List (List Dat))}(x:List (List Dat))(ho:Dt2 P N c=some o)(hx:o=some x)(hk:J r P N ds fin (Gl0 P N c x)):J r P N ds fin c:=by
 unfold Dt2 at ho;split at ho
 .rename_i o' k he;cases ho;obtain⟨op,all,rest,k',ht,hg⟩:=Ak5 (P:=P) (N:=N) (c:=c) (by rw[he];intro e;cases e);unfold Gl0 at hk;rw[he]at hk;simp only[Ad7 ht]at hk;refine Cx2 ht hg (fun S wl M0 M ρ f w ha=> ?_) hk;have:=R2 (r:=r) (P:=P) (a:=fr N f ds) (op:=op.op) (d:=op.dst.getD 0) (ty:=op.type) ha.ow (G1 (ds:=ds) ha);rw[<-Ab8 ht hg,he]at this;exact this x hx
 .cases ho
theorem Ow.call{S:L8}{wl w w':World}{M0 M M':Mem}{ρ:Rho}{ob:Nat->Option B9}(h:Ow S wl M0 M ρ ob w)(k:Ext M M' w w'):Rle M M' ρ ρ/\Ow S wl M0 M' ρ ob w':=by
 have hr:Rle M M' ρ ρ:=⟨k.le,fun _ j hj=>⟨j,hj,ad_ _,fun _=>rfl,fun _=>rfl⟩⟩
 refine⟨hr,ah_ h.size k.below.size,k.below.os.trans h.os,k.below.tape.trans h.tape,k.below.output.trans h.output,fun b hb hS=> ?_,k.sits,Mem.le_trans h.le k.le,h.gl.mono k.le,fun b c hb hlt=> ?_,fun q o hq=> ?_,h.dom,h.inj,h.held⟩
 .rw[k.below.block b (by have:=h.size;omega)];exact h.old b hb hS
 .exact h.new b c (k.new b c hb (by have:=h.size;omega)) hlt
 .obtain⟨i,h1,h2⟩:=h.own q o hq;refine⟨i,h1,h2.mono hr (fun y hl=> ?_) (fun _ hl=>k.below.block _ (E0 h2 hl).2)⟩;cases hm:M' y with
  |none=>
   cases hm0:M y with
   |none=>rfl
   |some c=>obtain⟨c',h3,_⟩:=k.le _ _ hm0;rw[hm]at h3;cases h3
  |some c=>exact(k.new _ _ hm (E0 h2 hl).2).symm
theorem Ct3{M:Mem}{ρ:Rho}{v:V}{u:Value}(h:B8 M noR v u):B8 M ρ v u:=
 B8.mono ⟨M.le_refl,fun r i hi=>by cases hi⟩ v h
def Co4(P:Program)(N:Nat)(c:Cfg):Option (FuncId×List V):=match Af3 P N c with
 | .call g args=>match M7 (B0 c.ob) args with
   |some (xs,_)=>some (g,xs)
   |none=>none
 |_=>none
def Gd6(P:Program)(N:Nat)(c:Cfg)(v:V):Cfg:=match Af3 P N c with
 | .call _ args=>match M7 (B0 c.ob) args with
   |some (_,wr)=>after N c v wr
   |none=>c
 |_=>c
theorem G8{x y:Res}{g:FuncId}{args:List V}(h:Z6 x y= .call g args):x= .call g args\/y= .call g args:=by
 cases x<;>first|exact .inl h|exact .inr h
theorem Dn6{P:Program}{o:BinOp}{t:TypeId}{x y:V}{c:Bool}{g:FuncId}{args:List V}:Ft8 P o t x y c≠ .call g args:=fun h=>by
 have hb:∀b,R7 o b≠ .call g args:=fun b h=>by unfold R7 at h;split at h<;>cases h
 unfold Ft8 at h
 repeat' split at h
 all_goals first|(cases h;done)|exact hb _ h
theorem Ch6{P:Program}{ob:Nat->Option B9}{o:BinOp}{t:TypeId}{x:V}{c:Bool}{g:FuncId}{args:List V}:Bv8 P ob o t x c≠ .call g args:=fun h=>by
 have hn:∀n,Da4 o n≠ .call g args:=fun n h=>by unfold Da4 at h;split at h<;>cases h
 unfold Bv8 at h
 repeat' split at h
 all_goals first|(cases h;done)|exact hn _ h
theorem Ch4{P:Program}{ob:Nat->Option B9}{s t:TypeId}{v:V}{g:FuncId}{args:List V}:Bv7 P ob s t v≠ .call g args:=fun h=>by
 unfold Bv7 at h
 repeat' split at h
 all_goals cases h
theorem Bv9{ob:Nat->Option B9}{v:V}{g:FuncId}{args:List V}:Az8 ob v≠ .call g args:=fun h=>by
 unfold Az8 at h
 repeat' split at h
 all_goals cases h
theorem Ch7{P:Program}{ob:Nat->Option B9}{t:TypeId}{v u:V}{g:FuncId}{args:List V}:Bw0 P ob t v u≠ .call g args:=fun h=>by
 unfold Bw0 at h
 repeat' split at h
 all_goals cases h
theorem Dk3{a:Act}{op:Op}{ob:Nat->Option B9}{d:Nat}{ty:TypeId}{ev:Operand->V}{g:FuncId}{args:List V}{M:Mem}{ρ:Rho}(hc:L3 P ob d ty ev op= .call g args)(hev:∀x,B8 M ρ (ev x) (a.eval x)):
 ∃(f:Operand) (as:Array Operand) (tys:Array TypeId) (fs cs:List Value),op= .call {callee:= .value f,args:=as,argTypes:=tys}/\a.eval f= .func (.func g) fs.toArray cs.toArray/\B2 M ρ args (fs++as.toList.map a.eval++cs):=by
 cases op with
 |call c=>
  obtain⟨callee,as,tys⟩:=c;cases callee with
  |builtin b=>
   exfalso;simp only[L3]at hc;cases b<;>simp only at hc<;>first|(cases hc;done)|skip
   all_goals (
    repeat' split at hc
    all_goals first|(cases hc;done)|skip)
   .rcases G8 hc with hc|hc
    .unfold Au8 at hc
     repeat' split at hc
     all_goals cases hc
    .unfold Ak4 at hc
     repeat' split at hc
     all_goals cases hc
   .rcases G8 hc with hc|hc
    .unfold Ee5 at hc
     repeat' split at hc
     all_goals cases hc
    .unfold Cp9 at hc
     repeat' split at hc
     all_goals cases hc
   .exact Bv9 hc
   .exact Ch7 hc
  |value f=>
   simp only[L3]at hc;have hf:=hev f;split at hc
   .rename_i gg first cap hfv
    cases hc;rw[hfv]at hf;simp only[B8]at hf;obtain⟨fs,cs,hfe,h1,h2⟩:=hf;have hargs:=Ae1 (xs:=as.toList) hev;exact⟨f,as,tys,fs,cs,rfl,hfe,(h1.append hargs).append h2⟩
   .rename_i gg hfv;cases hc;rw[hfv]at hf;have hfe:a.eval f= .func (.func g) ([]:List Value).toArray ([]:List Value).toArray:=by
     have hf:=I6 hf;generalize a.eval f=u at hf⊢;cases hf;rfl
    have hargs:=Ae1 (xs:=as.toList) hev;exact⟨f,as,tys,[],[],rfl,hfe,by simpa using hargs⟩
   .cases hc
  |invoke x m=>simp[L3]at hc
 |binOp o t x y u=>
  exfalso;simp only[L3]at hc;rcases G8 hc with hc|hc
  rotate_left
  .rcases G8 hc with hc|hc
   .exact Dn6 hc
   .exact Ch6 hc
  unfold Ee3 at hc
  repeat' split at hc
  all_goals first|(cases hc;done)|skip
  .unfold Bn9 at hc;repeat' split at hc
   all_goals cases hc
  .unfold Ee4 at hc;repeat' split at hc
   all_goals cases hc
 |convert s t x=>
  exfalso;simp only[L3]at hc;rcases G8 hc with hc|hc
  .repeat' split at hc
   all_goals cases hc
  .exact Ch4 hc
 |load t x=>
  exfalso;simp only[L3]at hc;rcases G8 hc with hc|hc
  .unfold Cq0 at hc;repeat' split at hc
   all_goals cases hc
  .unfold Bn7 at hc;repeat' split at hc
   all_goals cases hc
 |store t x y=>
  exfalso;simp only[L3]at hc;rcases G8 hc with hc|hc
  .unfold Av2 at hc;repeat' split at hc
   all_goals cases hc
  .unfold Bo0 at hc;repeat' split at hc
   all_goals cases hc
 |indexAddr t x y=>
  exfalso;simp only[L3]at hc;rcases G8 hc with hc|hc
  .unfold Y4 at hc;repeat' split at hc
   all_goals cases hc
  .unfold Av1 at hc;repeat' split at hc
   all_goals cases hc
 |index t x y=>exfalso;simp only[L3]at hc;unfold Ch5 at hc;repeat' split at hc
               all_goals cases hc
 |buildSlice t n ps=>
  exfalso;simp only[L3]at hc;rcases G8 hc with hc|hc
  .unfold Au9 at hc;repeat' split at hc
   all_goals cases hc
  .unfold Av0 at hc;repeat' split at hc
   all_goals cases hc
 |makeSlice t x y=>
  exfalso;simp only[L3]at hc;rcases G8 hc with hc|hc
  .unfold Bn8 at hc;repeat' split at hc
   all_goals cases hc
  .unfold Cq1 at hc;repeat' split at hc
   all_goals cases hc
 |slice t x lo hi mx=>
  exfalso;have key:∀a b,Ab9 P ob t (ev x) a b≠ .call g args:=fun a b h=>by
   unfold Ab9 at h;repeat' split at h
   all_goals cases h
  have key3:∀a b,Ak6 P t (ev x) a b≠ .call g args:=fun a b h=>by
   unfold Ak6 at h;repeat' split at h
   all_goals cases h
  cases mx with
  |some _=>
   cases lo with
   |some _=>cases hi<;>cases hc
   |none=>
    cases hi with
    |none=>cases hc
    |some _=>
     simp only[L3]at hc
     repeat' split at hc
     all_goals first|(cases hc;done)|exact key3 _ _ hc
  |none=>
   simp only[L3]at hc
   repeat' split at hc
   all_goals first|(cases hc;done)|exact key _ _ hc
 |makeFunc f x y=>exfalso;cases f<;>simp[L3]at hc
 |makeMap t hint=>exfalso;simp[L3]at hc
 |lookup t m k ok=>exfalso;simp[L3]at hc
 |mapUpdate t m k v=>exfalso;simp[L3]at hc
 |insert t m k v=>exfalso;simp[L3]at hc
 |_=>exfalso;simp only[L3]at hc;repeat' split at hc
     all_goals cases hc
theorem Cq2(a:Act):∀l:List Operand,evs a l (l.map a.eval)
 |[]=>trivial
 |_::l=>⟨rfl,Cq2 a l⟩
theorem Bm3{a:Act}{w:World}{op:Op}{ob:Nat->Option B9}{d:Nat}{ty:TypeId}{ev:Operand->V}{g:FuncId}{args:List V}{M:Mem}{ρ:Rho}(hc:L3 P ob d ty ev op= .call g args)(hev:∀x,B8 M ρ (ev x) (a.eval x))(he:G7 P g):
 ∃vals:List Value,B2 M ρ args vals/\∀(R:Ending->World->Prop) (R':Value->World->Prop),Calls P g vals.toArray w R->(∀e w',R e w'->∃v,e= .returned v/\R' v w')->Eff r P a op w R':=by
 obtain⟨f,as,tys,fs,cs,rfl,hfe,hr⟩:=Dk3 hc hev;exact⟨_,hr,fun R R' hcall hk=>Dm6 (xs:=as.toList) he (by simp) hfe (Cq2 a _) hcall hk⟩
theorem Dk2{a:Act}{w:World}{op:Op}{ob:Nat->Option B9}{d:Nat}{ty:TypeId}{ev:Operand->V}{g:FuncId}{args:List V}{M:Mem}{ρ:Rho}(hc:L3 P ob d ty ev op= .call g args)(hev:∀x,B8 M ρ (ev x) (a.eval x)):
 ∃vals:List Value,B2 M ρ args vals/\∀(R':Value->World->Prop) (u:Value) (w':World),(callFunc g vals.toArray).run P w= .ok (.value u) w'->R' u w'->Eff r P a op w R':=by
 obtain⟨f,as,tys,fs,cs,rfl,hfe,hr⟩:=Dk3 hc hev;refine⟨_,hr,fun R' u w' h1 h2=>Eff.of_run ?_ rfl h2⟩;intro d ty pos aft g';simp only[List.append_assoc]at h1;have hm:as.map a.eval=(as.toList.map a.eval).toArray:=by rw[<-map_toArray]
 simp[execOp,resolve,Deferred.ofValue,hfe,invoke,hm,h1]
def Fl7(P:Program)(g:FuncId)(args:List V)(v:V):Prop:=∀M ρ vals,B2 M ρ args vals->∃u,B8 M ρ v u/\∀w,(callFunc g vals.toArray).run P w= .ok (.value u) w
def Dk1(P:Program)(N:Nat)(c:Cfg):Option (FuncId×List V):=match Af3 P N c with
 | .call g args=>some (g,args)
 |_=>none
theorem Ez0{g:FuncId}{xs:List V}(v:V)(hc:Dk1 P N c=some (g,xs))(hcall:Fl7 P g xs v)(hk:J r P N ds fin (after N c v [])):J r P N ds fin c:=by
 unfold Dk1 at hc;split at hc
 .rename_i g' args hev;cases hc;obtain⟨op,all,rest,k',ht,hg⟩:=Ak5 (P:=P) (N:=N) (c:=c) (by rw[hev];intro e;cases e);rw[Ad7 ht]at hk;refine Cx2 ht hg (fun S wl M0 M ρ f w ha=> ?_) hk;rw[Ab8 ht hg]at hev;obtain⟨vals,h1,h2⟩:=Dk2 (r:=r) (w:=w) hev (G1 (ds:=ds) ha);obtain⟨u,h3,h4⟩:=hcall M ρ vals h1;exact h2 _ u w (h4 w) ⟨M,ρ,Rle.refl _ _,ha.ow,h3⟩
 .cases hc
theorem Ey8{g:FuncId}{xs:List V}(ys:List V)(v:V)(hc:Co4 P N c=some (g,xs))(he:G7 P g)(hre:R1 xs ys)(hcall:C1 P g ys v)(hk:J r P N ds fin (Gd6 P N c v)):J r P N ds fin c:=by
 unfold Co4 at hc;split at hc
 .rename_i g' args hev;split at hc
  .rename_i xs' wr hargs;cases hc;obtain⟨op,all,rest,k',ht,hg⟩:=Ak5 (P:=P) (N:=N) (c:=c) (by rw[hev];intro e;cases e);unfold Gd6 at hk;rw[hev]at hk;simp only[hargs,Ad7 ht]at hk;refine Cx2 ht hg (fun S wl M0 M ρ f w ha=> ?_) hk;rw[Ab8 ht hg]at hev;obtain⟨vals,h1,h2⟩:=Bm3 (r:=r) (w:=w) hev (G1 (ds:=ds) ha) he;obtain⟨M1,r1,o1,d1⟩:=F1 ha.ow h1 hargs;refine h2 _ _ (hcall M1 w vals o1.sits o1.gla (hre.rel (d1 noR))) ?_
   rintro e w' ⟨u,M2,rfl,hext,hv⟩
   obtain⟨h3,h4⟩:=o1.call hext;exact⟨u,rfl,M2,ρ,r1.trans h3,h4,Ct3 hv⟩
  .cases hc
 .cases hc
end
end
section
def D7(n:Nat):List Nat->Bool
 |[]=>false
 |m::l=>match Nat.beq n m with|true=>true|false=>D7 n l
theorem W9{n:Nat}:∀{l:List Nat},D7 n l=true->n∈l
 |[],h=>by cases h
 |m::l,h=>by
  unfold D7 at h;split at h
  .rename_i hb;rw[nB_ hb];exact ab_
  .exact mem_cons_of_mem _ (W9 h)
def gK(r g:Nat):Nat:=match Nat.ble 2000 r with|true=>g|false=>(match Nat.blt g 1000000 with|true=>0|false=>1000000)
theorem Eo9{r g:Nat}(h:Nat.blt (gK r g) 1000000=true):Nat.blt g 1000000=true:=by
 unfold gK at h;split at h
 .exact h
 .split at h
  .assumption
  .cases h
theorem Fd0{r g:Nat}(h:Nat.blt g 1000000=true):Nat.blt (gK r g) 1000000=true:=by
 unfold gK;split
 .exact h
 .rw[h];rfl
section
variable (ids:List Nat) (ob:Nat->Option B9)
mutual
def pv:V->V
 | .ptr r k=>match D7 r ids with
   |true=> .ptr r k
   |false=> .undef
 | .suf r g off=>match ob r with
   |some (.buf g' _ _ _)=>match Nat.beq g g',D7 r ids with|true,true=> .suf r (gK r g) off|_,_=> .undef
   |some (.tree g' _ _ _ _ _)=>match Nat.beq g g',D7 r ids with|true,true=> .suf r (gK r g) off|_,_=> .undef
   |some (.fzs g' sz es)=>match Nat.beq g g' with|true=> .d (.sl sz (es.drop off))|false=> .undef
   |_=> .undef
 | .osl r g off len=>match ob r with
   |some (.buf g' _ _ _)=>match Nat.beq g g',D7 r ids with|true,true=> .osl r (gK r g) off len|_,_=> .undef
   |some (.fzs g' sz es)=>match Nat.beq g g' with|true=> .d (.sl sz ((es.drop off).take len))|false=> .undef
   |_=> .undef
 | .ept r g j k=>match ob r with
   |some (.buf g' _ _ _)=>match Nat.beq g g',D7 r ids with|true,true=> .ept r (gK r g) j k|_,_=> .undef
   |some (.tree g' _ _ _ _ _)=>match Nat.beq g g',D7 r ids with|true,true=> .ept r (gK r g) j k|_,_=> .undef
   |_=> .undef
 | .mp r=>match D7 r ids with|true=> .mp r|false=> .undef
 | .yl r=>match D7 r ids with|true=> .yl r|false=> .undef
 | .fn f a b=> .fn f (pvs a) (pvs b)
 | .agg cs=> .agg (pvs cs)
 | .tup vs=> .tup (pvs vs)
 | .d x=> .d x
 | .rp cs k=> .rp cs k
 | .esl n=> .esl n
 | .undef=> .undef
 | .un=> .un
def pvs:List V->List V
 |[]=>[]
 |v::l=>pv v::pvs l
end
end
def po(ids:List Nat)(ob:Nat->Option B9)(r:Nat):Option B9:=match ob r with
 |some (.box te cs)=>some (.box te (pvs ids ob cs))
 |some (.buf g e sz es)=>some (.buf (gK r g) e sz es)
 |some (.tree g e sz shs es h)=>some (.tree (gK r g) e sz shs es (match h with|none=>none|some (k,cs)=>some (k,pvs ids ob cs)))
 |some (.fzs g sz es)=>some (.fzs (gK r g) sz es)
 |some (.raw b o)=>some (.raw b o)
 |some (.mapo k a n es)=>some (.mapo k a n es)
 |some (.fzb cs)=>some (.fzb (pvs ids ob cs))
 |some (.frn x)=>match Nat.ble 2000 r with|true=>some (.frn x)|false=>none
 |_=>none
def pos(ids:List Nat)(ob:Nat->Option B9):List Nat->Option (List (Nat×B9))
 |[]=>some []
 |r::l=>match po ids ob r,pos ids ob l with|some o,some xs=>some ((r,o)::xs)|_,_=>none
def mkT:List (Nat×V)->Tri
 |[]=> .e
 |(t,v)::l=>(mkT l).set 10 t v
def Bx7(ids:List Nat):List (Nat×B9)->Bool
 |[]=>true
 |(r,_)::l=>match Nat.ble 2000 r,D7 r ids with|true,false=>false|_,_=>Bx7 ids l
theorem Ae6{ids:List Nat}:∀{l:List (Nat×B9)} {r:Nat} {o:B9},Bx7 ids l=true->B0 l r=some o->Nat.ble 2000 r=true->D7 r ids=true
 |[],_,_,_,h,_=>by cases h
 |(q,x)::l,r,o,h,ho,hb=>by
  unfold Bx7 at h;simp only[B0]at ho;split at h
  .cases h
  .rename_i hn;split at ho
   .rename_i he;obtain rfl:=nB_ he;cases hm:D7 r ids with
    |true=>rfl
    |false=>exact absurd hm (by intro hm;exact hn hb hm)
   .exact Ae6 h ho hb
def Bx6(N:Nat)(ids:List Nat)(ob:Nat->Option B9)(sl:Tri):List Nat->List (Nat×V)
 |[]=>[]
 |t::l=>(t,pv ids ob (G3 N sl (.tmp t)))::Bx6 N ids ob sl l
def prune(N:Nat)(keep ids:List Nat)(c:Cfg):Option (List (Nat×V)×List (Nat×B9)×List It):=match Bx7 ids c.ob,pos ids (B0 c.ob) ids with
 |true,some obs=>some (Bx6 N ids (B0 c.ob) c.sl keep,obs,c.td)
 |_,_=>none
section
variable {S:L8} {wl w:World} {M0 M:Mem} {ρ:Rho} {ob:Nat->Option B9} {ids:List Nat}
def Ct5(ids:List Nat)(ρ:Rho):Rho:=fun r=>match D7 r ids with
 |true=>match ρ r with|some i=>some {i with g:=gK r i.g}|none=>none
 |false=>none
theorem I7{r:Nat}{i:Inf}(hm:D7 r ids=true)(h:ρ r=some i):Ct5 ids ρ r=some {i with g:=gK r i.g}:=by simp[Ct5,hm,h]
mutual
theorem Dt9(h:Ow S wl M0 M ρ ob w):∀(v:V) {u:Value},B8 M ρ v u->B8 M (Ct5 ids ρ) (pv ids ob v) u
 | .ptr r k,u,hv=>by
   obtain⟨i,hi,hf,hu⟩:=J6 hv;simp only[pv];split
   .rename_i hm;simp only[B8];exact⟨_,I7 hm hi,hf,hu⟩
   .exact C4 _
 | .suf r g off,u,hv=>by
   simp only[pv];split
   .rename_i g' e sz es hr;split
    .rename_i hg hm;obtain rfl:=nB_ hg;simp only[B8]at hv⊢;obtain⟨i,hi,_,h1,hu⟩:=hv;have eg:=(h.buf_heap hr hi).2.1;exact⟨_,I7 hm hi,by show gK r _<=gK r i.g;rw[eg];exact ad_ _,h1,fun _=>hu eg.symm⟩
    .exact C4 _
   .rename_i g' e sz shs es hh hr;split
    .rename_i hg hm;obtain rfl:=nB_ hg;simp only[B8]at hv⊢;obtain⟨i,hi,_,h1,hu⟩:=hv;obtain⟨i',hi',hok⟩:=h.own r _ hr;rw[hi]at hi';cases hi';have eg:=hok.2.1;exact⟨_,I7 hm hi,by show gK r _<=gK r i.g;rw[eg];exact ad_ _,h1,fun _=>hu eg.symm⟩
    .exact C4 _
   .rename_i g' sz es hr;split
    .rename_i hg;obtain rfl:=nB_ hg;exact V5 (Bj0 h hr hv)
    .exact C4 _
   .exact C4 _
 | .osl r g off len,u,hv=>by
   simp only[pv];split
   .rename_i g' e sz es hr;split
    .rename_i hg hm;obtain rfl:=nB_ hg;simp only[B8]at hv⊢;obtain⟨i,hi,_,h1,hu⟩:=hv;have eg:=(h.buf_heap hr hi).2.1;exact⟨_,I7 hm hi,by show gK r _<=gK r i.g;rw[eg];exact ad_ _,h1,fun _=>hu eg.symm⟩
    .exact C4 _
   .rename_i g' sz es hr;split
    .rename_i hg;obtain rfl:=nB_ hg;exact V5 (Cq5 h hr hv)
    .exact C4 _
   .exact C4 _
 | .ept r g j k,u,hv=>by
   simp only[pv];split
   .rename_i g' e sz es hr;split
    .rename_i hg hm;obtain rfl:=nB_ hg;simp only[B8]at hv⊢;obtain⟨i,hi,_,h1,hu⟩:=hv;have eg:=(h.buf_heap hr hi).2.1;exact⟨_,I7 hm hi,by show gK r _<=gK r i.g;rw[eg];exact ad_ _,h1,fun _=>hu eg.symm⟩
    .exact C4 _
   .rename_i g' e sz shs es hh hr;split
    .rename_i hg hm;obtain rfl:=nB_ hg;simp only[B8]at hv⊢;obtain⟨i,hi,_,h1,hu⟩:=hv;obtain⟨i',hi',hok⟩:=h.own r _ hr;rw[hi]at hi';cases hi';have eg:=hok.2.1;exact⟨_,I7 hm hi,by show gK r _<=gK r i.g;rw[eg];exact ad_ _,h1,fun _=>hu eg.symm⟩
    .exact C4 _
   .exact C4 _
 | .mp r,u,hv=>by
   simp only[pv];split
   .rename_i hm;simp only[B8]at hv⊢;obtain⟨i,hi,hf,hu⟩:=hv;exact⟨_,I7 hm hi,hf,hu⟩
   .exact C4 _
 | .yl r,u,hv=>by
   simp only[pv];split
   .rename_i hm;simp only[B8]at hv⊢;obtain⟨i,hi,hf,hu⟩:=hv;exact⟨_,I7 hm hi,hf,hu⟩
   .exact C4 _
 | .fn f a b,u,hv=>by
   simp only[pv,B8]at hv⊢;obtain⟨fs,cs,e,h1,h2⟩:=hv;exact⟨fs,cs,e,Ad0 h a h1,Ad0 h b h2⟩
 | .agg cs,u,hv=>by simp only[pv,B8]at hv⊢;obtain⟨us,e,h1⟩:=hv;exact⟨us,e,Ad0 h cs h1⟩
 | .tup cs,u,hv=>by simp only[pv,B8]at hv⊢;obtain⟨us,e,h1⟩:=hv;exact⟨us,e,Ad0 h cs h1⟩
 | .d x,u,hv=>by simp only[pv,B8]at hv⊢;exact hv
 | .rp cs k,u,hv=>by simp only[pv,B8]at hv⊢;exact hv
 | .esl n,u,hv=>by simp only[pv,B8]at hv⊢;exact hv
 | .undef,u,hv=>by simp only[pv];exact C4 _
 | .un,u,hv=>by simp only[pv,B8]at hv⊢;exact hv
theorem Ad0(h:Ow S wl M0 M ρ ob w):∀(vs:List V) {us:List Value},B2 M ρ vs us->B2 M (Ct5 ids ρ) (pvs ids ob vs) us
 |[],us,hv=>by simp only[pvs,B2]at hv⊢;exact hv
 |v::vs,us,hv=>by
  simp only[pvs,B2]at hv⊢;obtain⟨u,us',e,h1,h2⟩:=hv;exact⟨u,us',e,Dt9 h v h1,Ad0 h vs h2⟩
end
theorem Cj9:∀{l:List Nat} {obs:List (Nat×B9)},pos ids ob l=some obs->(∀r o,B0 obs r=some o->D7 r l=true/\po ids ob r=some o)/\∀r,D7 r l=true->∃o,B0 obs r=some o
 |[],obs,h=>by
  simp only[pos,Option.some.injEq]at h;subst h;exact⟨fun r o h=>by simp[B0]at h,fun r h=>by simp[D7]at h⟩
 |q::l,obs,h=>by
  unfold pos at h;split at h
  .rename_i o xs h1 h2;cases h;obtain⟨i1,i2⟩:=Cj9 h2;refine⟨fun r o' ho=> ?_,fun r hm=> ?_⟩
   .unfold B0 at ho;split at ho
    .rename_i hb;cases ho;obtain rfl:=nB_ hb;exact⟨by unfold D7;rw[Nat.beq_refl],h1⟩
    .rename_i hb;obtain⟨a1,a2⟩:=i1 r o' ho;exact⟨by unfold D7;rw[hb];exact a1,a2⟩
   .unfold D7 at hm;unfold B0;split at hm
    .rename_i hb;rw[hb];exact⟨_,rfl⟩
    .rename_i hb;rw[hb];exact i2 r hm
  .cases h
theorem Ow.prune0(h:Ow S wl M0 M ρ ob w)(hkept:∀r i,Nat.ble 2000 r=true->S.r0 r=some i->D7 r ids=true){obs:List (Nat×B9)}(hp:pos ids ob ids=some obs):Ow S wl M0 M (Ct5 ids ρ) (B0 obs) w:=by
 obtain⟨p1,p2⟩:=Cj9 hp;have key:∀r o,B0 obs r=some o->∃x i,ob r=some x/\ρ r=some i/\D7 r ids=true/\J0 S wl M (Ct5 ids ρ) w {i with g:=gK r i.g} o/\(∀b,blk {i with g:=gK r i.g} o b->blk i x b):=fun r o ho=>by
  obtain⟨hm,hpo⟩:=p1 r o ho;unfold po at hpo;split at hpo
  .rename_i cs hr;cases hpo;obtain⟨i,hi,hf,hmine,us,e,hw,hrel,h1⟩:=h.own r _ hr;exact⟨_,i,hr,hi,hm,⟨hf,hmine,us,e,hw,Ad0 h cs hrel,h1⟩,fun _=>H9 rfl rfl rfl id⟩
  .rename_i g e sz es hr;cases hpo;obtain⟨i,hi,hok⟩:=h.own r _ hr;obtain⟨a1,a2,a3,a4,a5,a6,a7⟩:=hok;exact⟨_,i,hr,hi,hm,⟨a1,congrArg (gK r) a2,a3,a4,a5,a6,fun hp=>by obtain⟨b1,b2⟩:=a7 hp;exact⟨⟨b1.1,fun hg=>b1.2.1 (Eo9 hg),b1.2.2⟩,b2⟩⟩,fun _=>H9 rfl rfl rfl id⟩
  .rename_i g e sz shs es hh hr;cases hpo;obtain⟨i,hi,hok⟩:=h.own r _ hr;obtain⟨a1,a2,a3,a4,a5,a6,a7,a8,a9,a10⟩:=hok;refine⟨_,i,hr,hi,hm,⟨a1,congrArg (gK r) a2,a3,a4,a5,a6,a7,a8,a9,fun hp=> ?_⟩,fun _=>H9 rfl rfl rfl id⟩;obtain⟨b1,b2,pre,us,sp,b3,b4,b5,b6⟩:=a10 hp;refine⟨⟨b1.1,fun hg=>b1.2.1 (Eo9 hg),b1.2.2⟩,Fd0 b2,pre,us,sp,b3,b4,b5,b6.mono (fun j x u b _ k=> ?_)⟩;unfold R5 at k⊢;split at k
   .exact k
   .exact⟨fun e=>⟨(k.1 e).1,Ad0 h _ (k.1 e).2.1,(k.1 e).2.2⟩,k.2⟩
  .rename_i g sz es hr;cases hpo;obtain⟨i,hi,hok⟩:=h.own r _ hr;obtain⟨a1,a2,a3,a4,a5,a6⟩:=hok;exact⟨_,i,hr,hi,hm,⟨a1,congrArg (gK r) a2,a3,a4,a5,a6⟩,fun _=>H9 rfl rfl rfl id⟩
  .rename_i b x hr;cases hpo;obtain⟨i,hi,hok⟩:=h.own r _ hr;exact⟨_,i,hr,hi,hm,hok,fun _=>H9 rfl rfl rfl id⟩
  .rename_i k a n es hr;cases hpo;obtain⟨i,hi,hok⟩:=h.own r _ hr;exact⟨_,i,hr,hi,hm,hok,fun _=>H9 rfl rfl rfl id⟩
  .rename_i cs hr;cases hpo;obtain⟨i,hi,hf,c0,us,hM,hP,hrel,h1⟩:=h.own r _ hr;exact⟨_,i,hr,hi,hm,⟨hf,c0,us,hM,hP,Ad0 h cs hrel,h1⟩,fun _=>H9 rfl rfl rfl id⟩
  .rename_i x hr;split at hpo
   .rename_i hb;cases hpo;obtain⟨i,hi,hok⟩:=h.own r _ hr;have e:({i with g:=gK r i.g}:Inf)=i:=by simp[gK,hb]
    exact⟨_,i,hr,hi,hm,by rw[e];exact hok,fun _=>H9 rfl rfl rfl id⟩
   .cases hpo
  .cases hpo
 refine⟨h.size,h.os,h.tape,h.output,h.old,h.sits,h.le,h.gl,h.new,fun r o ho=> ?_,fun r i hi=> ?_,fun r r' o o' i i' b h1 h2 h3 h4 l1 l2=> ?_,fun r i hb hi=>by
  obtain⟨j,h1,h2⟩:=h.held r i hb hi;obtain⟨o,ho⟩:=h.dom r j h1;refine⟨_,I7 (hkept r i hb hi) h1,?_⟩;have:gK r j.g=j.g:=by simp[gK,hb]
  rw[this];exact h2⟩
 .obtain⟨x,i,h1,h2,h3,h4,_⟩:=key r o ho;exact⟨_,I7 h3 h2,h4⟩
 .unfold Ct5 at hi;split at hi
  .rename_i hm;exact p2 r hm
  .cases hi
 .obtain⟨x,j,a1,a2,a3,a4,a5⟩:=key r o h1;obtain⟨x',j',b1,b2,b3,b4,b5⟩:=key r' o' h2;rw[I7 a3 a2]at h3;cases h3;rw[I7 b3 b2]at h4;cases h4;exact h.inj r r' x x' j j' b a1 b1 a2 b2 (a5 b l1) (b5 b l2)
theorem Ow.prune(h:Ow S wl M0 M ρ ob w)(hkept:∀r o,Nat.ble 2000 r=true->ob r=some o->D7 r ids=true){obs:List (Nat×B9)}(hp:pos ids ob ids=some obs):Ow S wl M0 M (Ct5 ids ρ) (B0 obs) w:=
 h.prune0 (fun r i hb hi=>by obtain⟨j,h1,_⟩:=h.held r i hb hi;obtain⟨o,ho⟩:=h.dom r j h1;exact hkept r o hb ho) hp
theorem Da6{obs:List (Nat×B9)}(hp:pos ids ob ids=some obs){r:Nat}{o:B9}(ho:B0 obs r=some o):D7 r ids=true/\∃x,ob r=some x/\∀(i:Inf) (b:Nat),blk {i with g:=gK r i.g} o b->blk i x b:=by
 obtain⟨hm,hpo⟩:=(Cj9 hp).1 r o ho;refine⟨hm,?_⟩;unfold po at hpo;split at hpo
 .rename_i cs hr;cases hpo;exact⟨_,hr,fun _ _=>H9 rfl rfl rfl id⟩
 .rename_i g e sz es hr;cases hpo;exact⟨_,hr,fun _ _=>H9 rfl rfl rfl id⟩
 .rename_i g e sz shs es hh hr;cases hpo;exact⟨_,hr,fun _ _=>H9 rfl rfl rfl id⟩
 .rename_i g sz es hr;cases hpo;exact⟨_,hr,fun _ _=>H9 rfl rfl rfl id⟩
 .rename_i b x hr;cases hpo;exact⟨_,hr,fun _ _=>H9 rfl rfl rfl id⟩
 .rename_i k a n es hr;cases hpo;exact⟨_,hr,fun _ _=>H9 rfl rfl rfl id⟩
 .rename_i cs hr;cases hpo;exact⟨_,hr,fun _ _=>H9 rfl rfl rfl id⟩
 .rename_i x hr;split at hpo
  .cases hpo;exact⟨_,hr,fun _ _=>H9 rfl rfl rfl id⟩
  .cases hpo
 .cases hpo
end
section
variable {r:Option Nat} {P:Program} {N:Nat} {ds:List Deferred} {fin:Fin} {c:Cfg}
theorem Al6:∀(l:List (Nat×V)),(mkT l).ok 10
 |[]=>trivial
 |(_,_)::l=>Tri.set_ok _ _ _ _ (Al6 l)
theorem Ac7{M:Mem}{ρ:Rho}{f:Nat->Value}(hN:N<=1024):∀(l:List (Nat×V)),(∀t v,(t,v)∈l->t<N/\B8 M ρ v (f t))->∀t,t<N->B8 M ρ ((mkT l).get 10 t) (f t)
 |[],_,t,_=>by unfold mkT;rw[Tri.get_e];exact C4 _
 |(q,v)::l,h,t,ht=>by
  have h1:=h q v ab_;unfold mkT;by_cases e:t=q
  .subst e;rw[Tri.get_set_same];exact h1.2
  .rw[Tri.get_set_ne _ _ _ _ _ (Al6 l) (by omega) (by omega) (fun e'=>e e'.symm)];exact Ac7 hN l (fun t v hm=>h t v (mem_cons_of_mem _ hm)) t ht
theorem Bb0{ids:List Nat}{ob:Nat->Option B9}{sl:Tri}:∀{l:List Nat} {t:Nat} {v:V},(t,v)∈Bx6 N ids ob sl l->v=pv ids ob (G3 N sl (.tmp t))/\t∈l
 |[],_,_,h=>by cases h
 |q::l,t,v,h=>by
  unfold Bx6 at h;rcases mem_cons.1 h with e|h
  .cases e;exact⟨rfl,ab_⟩
  .obtain⟨h1,h2⟩:=Bb0 h;exact⟨h1,mem_cons_of_mem _ h2⟩
def Bl8(N:Nat):List Nat->Bool
 |[]=>true
 |t::l=>match Nat.blt t N with|true=>Bl8 N l|false=>false
theorem Ad8:∀{l:List Nat},Bl8 N l=true->∀t∈l,t<N
 |[],_,t,h=>by cases h
 |q::l,h,t,ht=>by
  unfold Bl8 at h;split at h
  .rename_i hb;rcases mem_cons.1 ht with rfl|ht
   .exact Ac8 hb
   .exact Ad8 h t ht
  .cases h
theorem Dh6{S0:List (Nat×V)}{O0:List (Nat×B9)}{T0:List It}(keep ids:List Nat)(hp:prune N keep ids c=some (S0,O0,T0))(hl:Bl8 N keep=true)(hk:J r P N ds fin ⟨mkT S0,O0,T0⟩):J r P N ds fin c:=by
 refine⟨hk.1,fun S wl M0 hH M ρ f w ha=> ?_⟩;unfold prune at hp;split at hp
 .rename_i obs hkp hobs;cases hp;refine hk.2 S wl M0 hH M (Ct5 ids ρ) f w ⟨ha.ow.prune (fun r o hb ho=>Ae6 hkp ho hb) hobs,Al6 _,Ac7 hk.1 _ (fun t v hm=> ?_)⟩;obtain⟨rfl,h2⟩:=Bb0 hm;have hlt:=Ad8 hl t h2;refine⟨hlt,?_⟩;have:=Dt9 (ids:=ids) ha.ow _ (G1 (ds:=ds) ha (.tmp t))
  rwa [ev (by simpa[Nat.blt_eq] using hlt) rfl]at this
 .cases hp
def Eh2(c:Cfg)(t:Nat)(v:V):Cfg:=⟨c.sl.set 10 t v,c.ob,c.td⟩
theorem Fq4{t:Nat}{v:V}(ht:Nat.blt t N=true)(hv:∀S wl M0 M ρ f w,Abs S wl M0 M ρ N c f w->B8 M ρ v (f t))(hk:J r P N ds fin (Eh2 c t v)):J r P N ds fin c:=by
 refine⟨hk.1,fun S wl M0 hH M ρ f w ha=>hk.2 S wl M0 hH M ρ f w ⟨ha.ow,Tri.set_ok _ _ _ _ ha.ok,fun q hq=> ?_⟩⟩;have h1:=hk.1;have h2:=Ac8 ht;by_cases e:q=t
 .subst e;simp only[Eh2];rw[Tri.get_set_same];exact hv S wl M0 M ρ f w ha
 .simp only[Eh2];rw[Tri.get_set_ne _ _ _ _ _ ha.ok (by omega) (by omega) (fun e'=>e e'.symm)];exact ha.sl q hq
theorem Fq1(t:Nat){b:Bool}(hb:G3 N c.sl (.tmp t)= .d (.bool b))(ht:b=true->J r P N ds fin (Eh2 c t (.d (.bool true))))(hf:b=false->J r P N ds fin (Eh2 c t (.d (.bool false)))):J r P N ds fin c:=by
 have hlt:Nat.blt t N=true:=by
  simp only[G3]at hb;split at hb
  .assumption
  .cases hb
 have key:∀S wl M0 M ρ f w,Abs S wl M0 M ρ N c f w->B8 M ρ (.d (.bool b)) (f t):=fun S wl M0 M ρ f w ha=>by
  have:=G1 (ds:=ds) ha (.tmp t)
  rwa [hb,ev hlt rfl]at this
 cases b with
 |true=>exact Fq4 hlt key (ht rfl)
 |false=>exact Fq4 hlt key (hf rfl)
theorem At7(t d:Nat)(e sz:Nat){n:Nat}(hb:G3 N c.sl (.tmp t)= .esl n)(hd:B0 c.ob d=none)(hk:J r P N ds fin ⟨c.sl.set 10 t (.suf d 0 0),O3 c.ob d (.buf 0 e sz []),c.td⟩):J r P N ds fin c:=by
 have hlt:Nat.blt t N=true:=by
  simp only[G3]at hb;split at hb
  .assumption
  .cases hb
 refine⟨hk.1,fun S wl M0 hH M ρ f w ha=> ?_⟩;have hv:=G1 (ds:=ds) ha (.tmp t);rw[hb,ev hlt rfl]at hv;simp only[B8]at hv;obtain⟨p,hp⟩:=hv;obtain⟨h5,h6⟩:=ha.ow.ghost hd ⟨0,0,0,sz,0,0,false,[]⟩ (.buf 0 e sz []) (fun _=>⟨rfl,rfl,rfl,rfl,ad_ _,at_ _,fun h=>absurd h (ay_ _)⟩) (fun h=>absurd h (ay_ _));have h1:=hk.1;have h2:=Ac8 hlt;refine hk.2 S wl M0 hH M _ f w ⟨by dsimp only;rw[D9];exact h6,Tri.set_ok _ _ _ _ ha.ok,fun q hq=> ?_⟩;by_cases e:q=t
 .subst e;dsimp only;rw[Tri.get_set_same,hp];exact P6 (i:=⟨0,0,0,sz,0,0,false,[]⟩) (B3 _ _ _) rfl (ad_ _) (fun h=>absurd h (ay_ _))
 .dsimp only;rw[Tri.get_set_ne _ _ _ _ _ ha.ok (by omega) (by omega) (fun e'=>e e'.symm)];exact B8.mono h5 _ (ha.sl q hq)
theorem Ow.desc{S:L8}{wl w:World}{M0 M:Mem}{ρ:Rho}{ob:Nat->Option B9}(h:Ow S wl M0 M ρ ob w){q:Nat}{o o':B9}(hq:ob q=some o)(hk:∀i,ρ q=some i->J0 S wl M ρ w i o->J0 S wl M ρ w i o')(hl:∀i b,blk i o' b->blk i o b):Ow S wl M0 M ρ (H6 ob q o') w:=by
 have key:∀{x:Nat} {y:B9} {i:Inf} {b:Nat},H6 ob q o' x=some y->ρ x=some i->blk i y b->∃y',ob x=some y'/\blk i y' b:=fun{x y i b} hy hi hly=>by
  by_cases e:x=q
  .subst e;rw[B3]at hy;cases hy;exact⟨o,hq,hl i b hly⟩
  .rw[C5 _ _ e]at hy;exact⟨y,hy,hly⟩
 refine⟨h.size,h.os,h.tape,h.output,h.old,h.sits,h.le,h.gl,h.new,fun x y hy=> ?_,fun x i hi=> ?_,fun x x' y y' i i' b h1 h2 h3 h4 l1 l2=> ?_,h.held⟩
 .by_cases e:x=q
  .subst e;rw[B3]at hy;cases hy;obtain⟨i,hi,hok⟩:=h.own x o hq;exact⟨i,hi,hk i hi hok⟩
  .rw[C5 _ _ e]at hy;exact h.own x y hy
 .by_cases e:x=q
  .subst e;exact⟨o',B3 _ _ _⟩
  .rw[C5 _ _ e];exact h.dom x i hi
 .obtain⟨z,hz,lz⟩:=key h1 h3 l1;obtain⟨z',hz',lz'⟩:=key h2 h4 l2;exact h.inj x x' z z' i i' b hz hz' h3 h4 lz lz'
theorem B2.set{M:Mem}{ρ:Rho}{v v':V}:∀{cs:List V} {us:List Value} {j:Nat},B2 M ρ cs us->cs[j]? =some v->(∀u,B8 M ρ v u->B8 M ρ v' u)->B2 M ρ (cs.set j v') us
 |[],_,_,_,h,_=>by cases h
 |c::cs,us,0,h,hj,hv=>by
  simp only[B2]at h;obtain⟨u,us',rfl,h1,h2⟩:=h;simp only[getElem?_cons_zero,Option.some.injEq]at hj;subst hj;simp only[set_cons_zero,B2];exact⟨u,us',rfl,hv u h1,h2⟩
 |c::cs,us,j+1,h,hj,hv=>by
  simp only[B2]at h;obtain⟨u,us',rfl,h1,h2⟩:=h;simp only[getElem?_cons_succ]at hj;simp only[set_cons_succ,B2];exact⟨u,us',rfl,h1,B2.set h2 hj hv⟩
def Co6(c:Cfg)(q j:Nat):Option V:=match B0 c.ob q with|some (.box _ cs)=>cs[j]? |_=>none
def Gd4(c:Cfg)(q j:Nat)(v:V):Cfg:=match B0 c.ob q with|some (.box te cs)=>⟨c.sl,O3 c.ob q (.box te (cs.set j v)),c.td⟩|_=>c
theorem Bh6(q j d:Nat)(e sz:Nat){n:Nat}(hc:Co6 c q j=some (.esl n))(hd:B0 c.ob d=none)(hk:J r P N ds fin (Gd4 ⟨c.sl,O3 c.ob d (.buf 0 e sz []),c.td⟩ q j (.suf d 0 0))):J r P N ds fin c:=by
 unfold Co6 at hc;split at hc
 .rename_i te cs hq;have hne:q≠d:=fun e=>by subst e;rw[hq]at hd;cases hd
  refine⟨hk.1,fun S wl M0 hH M ρ f w ha=> ?_⟩;obtain⟨h5,h6⟩:=ha.ow.ghost hd ⟨0,0,0,sz,0,0,false,[]⟩ (.buf 0 e sz []) (fun _=>⟨rfl,rfl,rfl,rfl,ad_ _,at_ _,fun h=>absurd h (ay_ _)⟩) (fun h=>absurd h (ay_ _));have:=hk.2 S wl M0 hH M (H6 ρ d ⟨0,0,0,sz,0,0,false,[]⟩) f w;unfold Gd4 at this;have hq':B0 (O3 c.ob d (.buf 0 e sz [])) q=some (.box te cs):=by rw[D9,C5 _ _ hne];exact hq
  dsimp only at this;rw[hq']at this;refine this ⟨?_,ha.ok,fun t ht=>B8.mono h5 _ (ha.sl t ht)⟩;dsimp only;rw[D9,D9];refine h6.desc (q:=q) (o:= .box te cs) (by rw[C5 _ _ hne];exact hq) (fun i hi hok=> ?_) (fun _ _=>H9 rfl rfl rfl id);obtain⟨h0,h1,us,e',h2,h3,h4⟩:=hok;refine⟨h0,h1,us,e',h2,h3.set hc (fun u hu=> ?_),h4⟩;simp only[B8]at hu;obtain⟨p,hp⟩:=hu;rw[hp];exact P6 (i:=⟨0,0,0,sz,0,0,false,[]⟩) (B3 _ _ _) rfl (ad_ _) (fun h=>absurd h (ay_ _))
 .cases hc
def Bf1:List It->Bool
 |[]=>true
 | .begR _::_=>false
 |_::k=>Bf1 k
theorem Z4{fin':Exit->Act->World->Prop}{a:Act}{w:World}:∀(k:List It),Bf1 k=true->fin' .ret a w->Wk r P fin' k .ret a w
 |[],_,h=>h
 | .begR _::_,hn,_=>by cases hn
 | .code _::k,hn,h=>by simp only[Wk,Exit.then];exact Z4 k hn h
 | .inBlock _::k,hn,h=>by simp only[Wk,Exit.inBlock];exact Z4 k hn h
 | .inLoop _::k,hn,h=>by simp only[Wk,Exit.then];exact Z4 k hn h
 | .inScope _::k,hn,h=>by simp only[Wk,Bo4];exact Z4 k hn h
 | .ops _ _::k,hn,h=>by simp only[Wk,Exit.then];exact Z4 k hn h
def Fr0(wl:World)(M0:Mem)(v:V):Ending->World->Prop:=fun e w'=>∃u M',e= .returned u/\Ext M0 M' wl w'/\B8 M' noR v u
def Ft9(P:Program)(fn:Func)(v:V):Fin:= .mk (fun _ _ _=>True) fun S wl M0 e a w=>(∀b,¬S b)->bodyPost P fn (Fr0 wl M0 v) e a w
def Du8(P:Program)(N:Nat)(c:Cfg):List ResultVar->Option (List V)
 |[]=>some []
 | .tmp t::rs=>match Nat.blt t N,Du8 P N c rs with|true,some vs=>some (G3 N c.sl (.tmp t)::vs)|_,_=>none
 | .cell t ty::rs=>match G3 N c.sl (.tmp t),szT P ty,Du8 P N c rs with
   | .ptr q k,some (n,ag),some vs=>match B0 c.ob q with
     |some (.box _ cs)=>match Nat.ble (k+n) cs.length with|true=>some (mkV ag ((cs.drop k).take n)::vs)|false=>none
     |_=>none
   |_,_,_=>none
theorem Ck5{t:TypeId}{b o:Nat}{vs:List Value}{agg:Bool}{w:World}(ht:Di8 P t=some agg)(hs:F9 P t=some vs.length)(h1:agg=false->vs.length=1)
 (hc:∀(j:Nat) v,vs[j]? =some v->w.cell? ⟨b,o+j,none⟩=some v):(loadVar t ⟨b,o,none⟩).run P w= .ok (mkv agg vs) w:=by
 cases agg with
 |true=>
  have:=run_loadCells_list (P:=P) w ⟨b,o,none⟩ vs (fun j v hv=>by rw[E2];exact hc j v hv);simp[loadVar,U3 ht,H4 hs,this,mkv]
 |false=>
  match vs,h1 rfl with
  |[v],_=>
   have:=hc 0 v rfl;simp only[Nat.add_zero]at this;simp[loadVar,U3 ht,this,mkv]
theorem Ai5{S:L8}{wl w:World}{M0 M:Mem}{ρ:Rho}{f:Nat->Value}(h:Abs S wl M0 M ρ N c f w):∀{rs:List ResultVar} {vs:List V},Du8 P N c rs=some vs->∃us,Du5 P N f w rs us/\B2 M ρ vs us
 |[],vs,hv=>by simp only[Du8,Option.some.injEq]at hv;subst hv;exact⟨[],trivial,by simp only[B2]⟩
 | .tmp t::rs,vs,hv=>by
   unfold Du8 at hv;split at hv
   .rename_i vs' hlt hvs;cases hv;obtain⟨us,h1,h2⟩:=Ai5 h hvs;have hr:=G1 (ds:=[]) h (.tmp t);rw[ev hlt rfl]at hr;exact⟨f t::us,⟨⟨hlt,rfl⟩,h1⟩,by simp only[B2];exact⟨_,_,rfl,hr,h2⟩⟩
   .cases hv
 | .cell t ty::rs,vs,hv=>by
   unfold Du8 at hv;split at hv
   .rename_i q k n ag vs' hp hz hvs;split at hv
    .rename_i cs hr;split at hv
     .rename_i hl;cases hv;obtain⟨us,h1,h2⟩:=Ai5 h hvs;have hlt:Nat.blt t N=true:=by
       simp only[G3]at hp;split at hp
       .assumption
       .cases hp
      have hrv:=G1 (ds:=[]) h (.tmp t);rw[hp,ev hlt rfl]at hrv;obtain⟨i,hi,hf,hpt⟩:=J6 hrv;obtain⟨xs,e,hw,hrel,_⟩:=h.ow.box_heap hr hi;obtain⟨hs,ha,hone⟩:=U4 hz;have hl:=I1 hl;have hlen:=hrel.len;have hu:((xs.drop k).take n).length=n:=P2 (by omega);refine⟨mkv ag ((xs.drop k).take n)::us,⟨⟨hlt,_,hpt,Ck5 ha (by rw[hu];exact hs) (fun e=>by rw[hu];exact hone e) (fun j v hj=> ?_)⟩,h1⟩,by simp only[B2];exact⟨_,_,rfl,Y7 (_n:=n) ((hrel.drop k).take n) (fun e=>by rw[hu];exact hone e),h2⟩⟩;have:=W6 rfl hj;simp[World.cell?,hw,this]
     .cases hv
    .cases hv
   .cases hv
def Dc3:List V->V
 |[v]=>v
 |vs=> .tup vs
theorem Am8{M:Mem}{ρ:Rho}{vs:List V}{us:List Value}(h:B2 M ρ vs us):B8 M ρ (Dc3 vs) (Cv6 us):=by
 match vs,us,h with
 |[v],us,h=>
  simp only[B2]at h;obtain⟨u,us',rfl,h1,rfl⟩:=h;exact h1
 |[],us,h=>simp only[B2]at h;subst h;simp only[Dc3,B8,B2];exact⟨[],rfl,rfl⟩
 |v::v'::vs,us,h=>
  have hl:=h.len
  match us,hl with
  |u::u'::us,_=>simp only[Dc3,Cv6,B8];exact⟨_,rfl,h⟩
theorem Eh7{fn:Func}{v:V}{S:L8}{wl w:World}{M0 M:Mem}{ρ:Rho}{f:Nat->Value}{rs:List ResultVar}{vs xs ys:List V}{wr:Wr}(h:Abs S wl M0 M ρ N c f w)(hfn:fn.results=rs.toArray)(hv:Du8 P N c rs=some vs)(hx:M7 (B0 c.ob) vs=some (xs,wr))(hre:R1 xs ys)(he:Dc3 ys=v)(hS:∀b,¬S b):
 ∃u,(results fn (fr N f []).tmps).run P w= .ok u w/\Fr0 wl M0 v (.returned u) w:=by
 obtain⟨us,h1,h2⟩:=Ai5 h hv;obtain⟨M',r1,o1,d1⟩:=F1 h.ow h2 hx;refine⟨Cv6 us,O5 hfn h1,Cv6 us,M',rfl,⟨⟨o1.os,o1.tape,o1.output,o1.size,fun k hk=>o1.old k hk (hS k)⟩,o1.le,o1.sits,fun b c hb hlt=>(o1.new b c hb hlt).resolve_right (hS b)⟩,?_⟩;rw[<-he];exact Am8 (hre.rel (d1 noR))
def Be2(c:Cfg):Bool:=match c.td with| .code .ret::k=>Bf1 k|[]=>true|_=>false
def Du6(P:Program)(N:Nat)(c:Cfg)(rs:List ResultVar):Option (List V):=match Be2 c with
 |true=>match Du8 P N c rs with
  |some vs=>match M7 (B0 c.ob) vs with|some (xs,_)=>some xs|none=>none
  |none=>none
 |false=>none
theorem Ce4{fn:Func}{v:V}{rs:List ResultVar}{xs:List V}(ys:List V)(hfn:fn.results=rs.toArray)(hN:Nat.ble N 1024=true)(hv:Du6 P N c rs=some xs)(hre:R1 xs ys)(he:Dc3 ys=v):J r P N [] (Ft9 P fn v) c:=by
 refine⟨I1 hN,fun S wl M0 hH M ρ f w h=> ?_⟩;unfold Du6 at hv;split at hv
 .rename_i hat;split at hv
  .rename_i vs hvs;split at hv
   .rename_i xs' wr hx;cases hv;have key:=fun hS:∀b,¬S b=>Eh7 h hfn hvs hx hre he hS
    unfold Be2 at hat;split at hat
    .rename_i ht;rw[ht];exact Ce7 (Z4 _ hat (fun hS=>⟨rfl,key hS⟩))
    .rename_i ht;rw[ht];exact fun hS=>⟨rfl,key hS⟩
    .cases hat
   .cases hv
  .cases hv
 .cases hv
def Dj0:Nat->List V->List (Nat×V)
 |_,[]=>[]
 |i,v::l=>(i,v)::Dj0 (i+1) l
theorem Ad9:∀{l:List V} {i t:Nat} {v:V},(t,v)∈Dj0 i l->i<=t/\l[t-i]? =some v
 |[],_,_,_,h=>by cases h
 |x::l,i,t,v,h=>by
  unfold Dj0 at h;rcases mem_cons.1 h with e|h
  .cases e;exact⟨ad_ _,by simp⟩
  .obtain⟨h1,h2⟩:=Ad9 h;refine⟨by omega,?_⟩;obtain⟨k,rfl⟩:∃k,t=i+1+k:=⟨t-(i+1),by omega⟩
   rw[show i+1+k-(i+1)=k by omega]at h2;rw[show i+1+k-i=k+1 by omega];exact h2
theorem Ec5{g:FuncId}{fn:Func}{b:Code}{args:List V}{v:V}(hf:P.funcs[g]? =some fn)(hb:fn.body=some b)(hN:fn.ntmps=N)(hv:Nat.ble args.length N=true)(h:J none P N [] (Ft9 P fn v) ⟨mkT (Dj0 0 args),[],[.code b]⟩):C1 P g args v:=by
 intro M w vals hs hgl hr;have hl:=I1 hv;refine entry hf hb hN (by rw[hr.len];exact hl) ?_;refine Bt5 (h.2 ⟨fun _=>False,noR⟩ w M trivial M noR (Cc2 vals) w ⟨⟨ad_ _,rfl,rfl,rfl,fun _ _ _=>rfl,hs,M.le_refl,hgl.entry (fun _ _ _ h=>h),fun _ _ h _=> .inl h,fun r o h=>(by simp[B0]at h),fun r i h=>(by cases h),fun r r' o o' i i' b h=>(by simp[B0]at h),fun r i _ h=>(by cases h)⟩,Al6 _,Ac7 h.1 _ (fun t v hm=> ?_)⟩) (fun e a w hq=>hq (fun _ h=>h));obtain⟨_,h2⟩:=Ad9 hm;rw[a8_]at h2;obtain⟨u,h3,h4⟩:=hr.get h2;exact⟨a0_ (ac_.1 h2).1 hl,by unfold Cc2;rw[h3];exact h4⟩
end
def cAt:Code->List Nat->Code
 |c,[]=>c
 | .seq a b,i::p=>match i with|0=>cAt a p|_=>cAt b p
 | .cond _ a b,i::p=>match i with|0=>cAt a p|_=>cAt b p
 | .block _ b,_::p=>cAt b p
 | .loop b,_::p=>cAt b p
 | .scope b,_::p=>cAt b p
 | .rangeFunc _ _ a b,i::p=>match i with|0=>cAt a p|_=>cAt b p
 |c,_=>c
def Gk2:Code->List Oper
 | .region _ ops _=>ops.toList
 |_=>[]
def C0(fn:Func):Code:=match fn.body with|some b=>b|none=> .skip
theorem gm{α β:Type}{l:List α}{f:α->β}{i:Int}{y:α}(h:C2 l i=some y):C2 (l.map f) i=some (f y):=by
 obtain⟨k,rfl,hk⟩:=Bx0 h;unfold C2;simp[hk]
theorem am{α β:Type}{l m k:List α}{f:α->β}(h:app l m=some k):app (l.map f) (m.map f)=some (k.map f):=by
 obtain⟨rfl,hb⟩:=Ay5 h;unfold app;simp[hb]
theorem sm{α β:Type}{l k:List α}{f:α->β}{lo hi:Int}(h:slc l lo hi=some k):slc (l.map f) lo hi=some (k.map f):=by
 obtain⟨h0,h1,h2,rfl⟩:=Av9 h;unfold slc;simp[h0,h1,h2,map_take,map_drop]
def mkL{α:Type}(l c:Int)(z:α):Option (List α):=bif decide (0<=l)&&decide (l<=c)&&decide (c<=2147483648) then some (List.replicate l.toNat z) else none
theorem mm{α:Type}{l c:Int}{z:α}{f:α->List Dat}{k:List α}(h:mkL l c z=some k):mk2 l c (f z)=some (k.map f):=by
 unfold mkL at h;unfold mk2;cases hb:(decide (0<=l)&&decide (l<=c)&&decide (c<=2147483648)) with
 |true=>rw[hb]at h;cases h;simp
 |false=>rw[hb]at h;cases h
theorem stm{α:Type}{l:List α}{f:α->List Dat}{j:Nat}{y z:α}{k:Nat}{xs:List Dat}(h:l[j]? =some y)(hz:Z1 (f y) k xs=f z):(match(l.map f)[j]? with|some old=>some ((l.map f).set j (Z1 old k xs))|none=>none)=some ((l.set j z).map f):=by
 simp[h,hz,List.map_set]
theorem gj{α:Type}{l:List α}{i:Int}{y:α}(h:C2 l i=some y):l[(0+i.toNat)]? =some y:=by
 rw[Nat.zero_add];exact(N0 h).2
theorem gjm{α β:Type}{l:List α}{f:α->β}{j:Nat}{y:α}(h:l[j]? =some y):(l.map f)[j]? =some (f y):=by simp[h]
theorem ck{b:Bool}(h:b=true):chk b=some []:=by subst h;rfl
end
section
section
variable (K:List Nat)
mutual
def Q6:V->Bool
 | .ptr r _=>D7 r K
 | .suf r _ _=>D7 r K
 | .osl r _ _ _=>D7 r K
 | .ept r _ _ _=>D7 r K
 | .mp r=>D7 r K
 | .yl r=>D7 r K
 | .fn _ a b=>match S7 a with|true=>S7 b|false=>false
 | .agg cs=>S7 cs
 | .tup vs=>S7 vs
 |_=>true
def S7:List V->Bool
 |[]=>true
 |v::l=>match Q6 v with|true=>S7 l|false=>false
end
def Aq4:B9->Bool
 | .box _ cs=>S7 K cs
 | .fzb cs=>S7 K cs
 | .tree _ _ _ _ _ h=>(match h with|none=>true|some (_,cs)=>S7 K cs)
 | .frn _=>false
 |_=>true
def S3(R:List Nat)(ob:Nat->Option B9):Nat->Option B9:=fun r=>match D7 r K with
 |true=>match D7 r R with
  |true=>ob r
  |false=>match ob r with|some _=>some (.frn r)|none=>none
 |false=>none
def N5(ρ:Rho):Rho:=fun r=>match D7 r K with|true=>ρ r|false=>none
end
theorem O7{K R:List Nat}{ob:Nat->Option B9}{r:Nat}(h:D7 r K=true)(h':D7 r R=true):S3 K R ob r=ob r:=by simp[S3,h,h']
theorem Bx5{K R:List Nat}{ob:Nat->Option B9}{r:Nat}{o:B9}(h:D7 r K=true)(h':D7 r R=false)(ho:ob r=some o):S3 K R ob r=some (.frn r):=by simp[S3,h,h',ho]
theorem F3{K:List Nat}{ρ:Rho}{r:Nat}(h:D7 r K=true):N5 K ρ r=ρ r:=by simp[N5,h]
theorem Ae5{K R:List Nat}{ob:Nat->Option B9}{r:Nat}{o:B9}(h:S3 K R ob r=some o):D7 r K=true/\((D7 r R=true/\ob r=some o)\/(D7 r R=false/\o= .frn r/\∃x,ob r=some x)):=by
 unfold S3 at h;split at h
 .rename_i hm;refine⟨hm,?_⟩;split at h
  .rename_i hr;exact .inl ⟨hr,h⟩
  .rename_i hr;split at h
   .rename_i x hx;cases h;exact .inr ⟨hr,rfl,x,hx⟩
   .cases h
 .cases h
theorem Ae4{K R:List Nat}{ob:Nat->Option B9}{r:Nat}{i:Inf}{o:B9}{b:Nat}(h:S3 K R ob r=some o)(hl:blk i o b):D7 r R=true/\ob r=some o:=by
 obtain⟨_,⟨a,b⟩|⟨_,rfl,_⟩⟩:=Ae5 h
 .exact⟨a,b⟩
 .exact absurd hl (Aj8 rfl rfl)
theorem E9{K:List Nat}{ρ:Rho}{r:Nat}{i:Inf}(h:N5 K ρ r=some i):D7 r K=true/\ρ r=some i:=by
 unfold N5 at h;split at h
 .rename_i hm;exact⟨hm,h⟩
 .cases h
def SK(R:List Nat)(ρ:Rho)(ob:Nat->Option B9):Nat->Prop:=fun b=>∃r i o,D7 r R=true/\ρ r=some i/\ob r=some o/\blk i o b
section
variable {K:List Nat} {M:Mem} {ρ:Rho}
mutual
theorem Al9:∀(v:V) {u:Value},Q6 K v=true->B8 M ρ v u->B8 M (N5 K ρ) v u
 | .ptr r k,u,h,hv=>by
   simp only[Q6]at h;simp only[B8,F3 h]at hv⊢;exact hv
 | .suf r g off,u,h,hv=>by
   simp only[Q6]at h;simp only[B8,F3 h]at hv⊢;exact hv
 | .osl r g off len,u,h,hv=>by
   simp only[Q6]at h;simp only[B8,F3 h]at hv⊢;exact hv
 | .ept r g j k,u,h,hv=>by
   simp only[Q6]at h;simp only[B8,F3 h]at hv⊢;exact hv
 | .mp r,u,h,hv=>by
   simp only[Q6]at h;simp only[B8,F3 h]at hv⊢;exact hv
 | .yl r,u,h,hv=>by
   simp only[Q6]at h;simp only[B8,F3 h]at hv⊢;exact hv
 | .fn f a b,u,h,hv=>by
   simp only[Q6]at h;split at h
   .rename_i ha;simp only[B8]at hv⊢;obtain⟨fs,cs,e,h1,h2⟩:=hv;exact⟨fs,cs,e,I5 a ha h1,I5 b h h2⟩
   .cases h
 | .agg cs,u,h,hv=>by
   simp only[Q6]at h;simp only[B8]at hv⊢;obtain⟨us,e,h1⟩:=hv;exact⟨us,e,I5 cs h h1⟩
 | .tup cs,u,h,hv=>by
   simp only[Q6]at h;simp only[B8]at hv⊢;obtain⟨us,e,h1⟩:=hv;exact⟨us,e,I5 cs h h1⟩
 | .d x,u,_,hv=>by simp only[B8]at hv⊢;exact hv
 | .rp cs k,u,_,hv=>by simp only[B8]at hv⊢;exact hv
 | .esl n,u,_,hv=>by simp only[B8]at hv⊢;exact hv
 | .undef,u,_,hv=>by simp only[B8]
 | .un,u,_,hv=>by simp only[B8]at hv⊢;exact hv
theorem I5:∀(vs:List V) {us:List Value},S7 K vs=true->B2 M ρ vs us->B2 M (N5 K ρ) vs us
 |[],us,_,hv=>by simp only[B2]at hv⊢;exact hv
 |v::l,us,h,hv=>by
  simp only[S7]at h;split at h
  .rename_i ha;simp only[B2]at hv⊢;obtain⟨u,us',e,h1,h2⟩:=hv;exact⟨u,us',e,Al9 v ha h1,I5 l h h2⟩
  .cases h
end
end
section
variable {S:L8} {wl w w':World} {M0 M M':Mem} {ρ ρ':Rho} {ob:Nat->Option B9} {K R:List Nat}
theorem Bl5(h:Ow S wl M0 M ρ ob w){b:Nat}(hb:SK R ρ ob b):(S b\/wl.heap.size<=b)/\b<w.heap.size:=by
 obtain⟨r,i,o,_,h2,h3,h4⟩:=hb;obtain⟨i',h5,h6⟩:=h.own r o h3;rw[h2]at h5;cases h5;exact E0 h6 h4
theorem Ow.part(h:Ow S wl M0 M ρ ob w)(K R:List Nat)(hc:∀r o,D7 r R=true->ob r=some o->Aq4 K o=true):Ow ⟨SK R ρ ob,N5 K ρ⟩ w M M (N5 K ρ) (S3 K R ob) w:=by
 refine⟨ad_ _,rfl,rfl,rfl,fun _ _ _=>rfl,h.sits,M.le_refl,h.glE (fun b hb=>(Bl5 h hb).1),fun _ _ hb _=> .inl hb,fun r o hr=> ?_,fun r i hi=> ?_,fun r r' o o' i i' b h1 h2 h3 h4 l1 l2=>h.inj r r' o o' i i' b (Ae4 h1 l1).2 (Ae4 h2 l2).2 (E9 h3).2 (E9 h4).2 l1 l2,fun r i _ hi=>⟨i,hi,Ile.refl i⟩⟩
 .obtain⟨hm,⟨hmr,ho⟩|⟨hmr,rfl,x,hx⟩⟩:=Ae5 hr
  rotate_left
  .obtain⟨i,hi,_⟩:=h.own r x hx;exact⟨i,by rw[F3 hm];exact hi,by show N5 K ρ r=some i;rw[F3 hm];exact hi⟩
  obtain⟨i,hi,hok⟩:=h.own r o ho;refine⟨i,by rw[F3 hm];exact hi,?_⟩;have hcl:=hc r o hmr ho;have hS:Aj1 i o->SK R ρ ob i.b:=fun hl=>⟨r,i,o,hmr,hi,ho,Y2 hl⟩
  cases o with
  |tree g e sz shs es hh=>exact J0.tree hok (fun b hb=> .inl ⟨r,i,_,hmr,hi,ho,hb⟩) (fun k cs e us hus=>by subst e;exact I5 cs hcl hus)
  |box te cs=>
   obtain⟨h0,h1,us,e,h2,h3,h4⟩:=hok;exact⟨h0,⟨.inl (hS trivial),h1.2⟩,us,e,h2,I5 cs hcl h3,h4⟩
  |buf g e sz es=>
   obtain⟨h0,hg,hs,hn,ht,hx,h1⟩:=hok;refine⟨h0,hg,hs,hn,ht,hx,fun hp=> ?_⟩;obtain⟨h1,rest⟩:=h1 hp;exact⟨⟨.inl (hS hp),h1.2⟩,rest⟩
  |fzs g sz es=>exact hok
  |fzb cs=>
   obtain⟨h0,c0,us,h1,hP,h2,h3⟩:=hok;exact⟨h0,c0,us,h1,hP,I5 cs hcl h2,h3⟩
  |mapo kk ag sz es=>
   obtain⟨h0,h1,rest⟩:=hok;exact⟨h0,⟨.inl (hS trivial),h1.2⟩,rest⟩
  |raw b x=>
   obtain⟨h0,e,h1,h2⟩:=hok;exact⟨h0,e,⟨.inl (hS trivial),h1.2⟩,h2⟩
  |frn q=>cases hcl
 .obtain⟨hm,hi⟩:=E9 hi;obtain⟨o,ho⟩:=h.dom r i hi;cases hmr:D7 r R with
  |true=>exact⟨o,by rw[O7 hm hmr];exact ho⟩
  |false=>exact⟨_,Bx5 hm hmr ho⟩
def W7(K:List Nat):Wr->Bool
 |[]=>true
 |(d,o)::wr=>match D7 d K,o with|true,.frn _=>false|true,_=>W7 K wr|false,_=>false
theorem Es7:∀(wr:Wr) {ob ob':Nat->Option B9} {r:Nat},ob r=ob' r->wrO ob wr r=wrO ob' wr r
 |[],_,_,_,h=>h
 |(d,o)::wr,ob,ob',r,h=>by
  simp only[wrO];exact Es7 wr (by unfold H6;split<;>first|rfl|exact h)
theorem Z2{K:List Nat}:∀(wr:Wr) {ob:Nat->Option B9} {r:Nat},W7 K wr=true->D7 r K=false->wrO ob wr r=ob r
 |[],_,_,_,_=>rfl
 |(d,o)::wr,ob,r,h,hr=>by
  unfold W7 at h;split at h
  .cases h
  .rename_i hd _;simp only[wrO];rw[Z2 wr h hr,C5];intro e;subst e;rw[hd]at hr;cases hr
  .cases h
def Ar2(K:List Nat)(ρ ρ':Rho):Rho:=fun r=>match D7 r K with|true=>ρ' r|false=>ρ r
theorem U1{r:Nat}(h:D7 r K=true):Ar2 K ρ ρ' r=ρ' r:=by simp[Ar2,h]
theorem Ba9{r:Nat}(h:D7 r K=false):Ar2 K ρ ρ' r=ρ r:=by simp[Ar2,h]
theorem Dy7{R:List Nat}:∀(wr:Wr) {ob:Nat->Option B9} {r q:Nat},W7 R wr=true->wrO ob wr r=some (.frn q)->ob r=some (.frn q)
 |[],_,_,_,_,h=>h
 |(d,o)::wr,ob,r,q,hk,h=>by
  unfold W7 at hk;split at hk
  .cases hk
  .rename_i o' hne;simp only[wrO]at h;have:=Dy7 wr hk h;by_cases e:r=d
   .subst e;rw[B3]at this;cases this;exact absurd rfl (hne q)
   .rw[C5 _ _ e]at this;exact this
  .cases hk
theorem Ow.back(h:Ow S wl M0 M ρ ob w){wr:Wr}{r0:Rho}(hc:∀r o,D7 r R=true->ob r=some o->Aq4 K o=true)(hsub:∀r,D7 r R=true->D7 r K=true)(hr0:∀r i,D7 r K=true->D7 r R=false->r0 r=some i->ρ r=some i)(hk:W7 R wr=true)(h':Ow ⟨SK R ρ ob,r0⟩ w M M' ρ' (wrO (S3 K R ob) wr) w')(hr:Rle M M' (N5 K ρ) ρ'):
 Rle M M' ρ (Ar2 K ρ ρ')/\Ow S wl M0 M' (Ar2 K ρ ρ') (wrO ob wr) w'/\Rle M' M' ρ' (Ar2 K ρ ρ'):=by
 have hin:∀r,D7 r R=true->wrO (S3 K R ob) wr r=wrO ob wr r:=fun r hm=>Es7 wr (O7 (hsub r hm) hm)
 have hfr:∀r o,D7 r K=true->D7 r R=false->ob r=some o->wrO (S3 K R ob) wr r=some (.frn r):=fun r o hm hmr ho=>by rw[Z2 wr hk hmr];exact Bx5 hm hmr ho
 have hKd:∀r i,ρ' r=some i->D7 r K=true:=fun r i hi=>by
  cases hm:D7 r K with
  |true=>rfl
  |false=>
   obtain⟨o,ho⟩:=h'.dom r i hi;have hmr:D7 r R=false:=by
    cases hmr:D7 r R with
    |false=>rfl
    |true=>rw[hsub r hmr]at hm;cases hm
   rw[Z2 wr hk hmr]at ho;simp[S3,hm]at ho
 have same:∀r o,D7 r K=true->D7 r R=false->ob r=some o->∃i,ρ r=some i/\ρ' r=some i:=fun r o hm hmr ho=>by
  obtain⟨i,hi,hok⟩:=h'.own r _ (hfr r o hm hmr ho);exact⟨i,hr0 r i hm hmr hok,hi⟩
 have e2:Rle M' M' ρ' (Ar2 K ρ ρ'):=⟨M'.le_refl,fun r i hi=>⟨i,by rw[U1 (hKd r i hi)];exact hi,ad_ _,fun _=>rfl,fun _=>rfl⟩⟩
 have hrl:Rle M M' ρ (Ar2 K ρ ρ'):=⟨hr.le,fun r i hi=>by
  cases hm:D7 r K with
  |true=>
   obtain⟨i',h1,h2⟩:=hr.ext r i (by rw[F3 hm];exact hi);exact⟨i',by rw[U1 hm];exact h1,h2⟩
  |false=>exact⟨i,by rw[Ba9 hm];exact hi,ad_ _,fun _=>rfl,fun _=>rfl⟩⟩
 have mineK:∀{i:Inf} {o:B9} {b:Nat},J0 ⟨SK R ρ ob,r0⟩ w M' ρ' w' i o->blk i o b->S b\/wl.heap.size<=b:=fun hok hl=>by
  rcases(E0 hok hl).1 with hs|hs
  .exact(Bl5 h hs).1
  .exact .inr (ah_ h.size hs)
 have notK:∀{r:Nat} {i:Inf} {o:B9} {b:Nat},D7 r R=false->ρ r=some i->ob r=some o->blk i o b->¬SK R ρ ob b:=fun{r i o b} hm hi ho hl ⟨r1,i1,o1,h1,h2,h3,h4⟩=>by
  obtain rfl:=h.inj r1 r o1 o i1 i b h3 ho h2 hi h4 hl;rw[hm]at h1;cases h1
 have beside:∀r o,D7 r R=false->ob r=some o->∃i,ρ r=some i/\Ar2 K ρ ρ' r=some i/\J0 S wl M ρ w i o:=fun r o hmr ho=>by
  obtain⟨i,hi,hok⟩:=h.own r o ho;refine⟨i,hi,?_,hok⟩;cases hm:D7 r K with
  |true=>
   obtain⟨j,h1,h2⟩:=same r o hm hmr ho;rw[hi]at h1;cases h1;rw[U1 hm];exact h2
  |false=>rw[Ba9 hm];exact hi
 refine⟨hrl,⟨ah_ h.size h'.size,h'.os.trans h.os,h'.tape.trans h.tape,h'.output.trans h.output,fun k hk' hS=> ?_,h'.sits,Mem.le_trans h.le h'.le,⟨h'.gl.ok,h.gl.off,h.gl.sz⟩,fun b c hb hlt=> ?_,fun r o ho=> ?_,fun r i hi=> ?_,?_,?_⟩,e2⟩
 .rw[h'.old k (by have:=h.size;omega) (fun hs=>(Bl5 h hs).1.elim hS (fun h1=>by omega))];exact h.old k hk' hS
 .rcases h'.new b c hb (by have:=h.size;omega) with h1|h1
  .exact h.new b c h1 hlt
  .rcases(Bl5 h h1).1 with h2|h2
   .exact .inr h2
   .omega
 .cases hmr:D7 r R with
  |true=>
   have hm:=hsub r hmr;rw[<-hin r hmr]at ho;obtain⟨i,hi,hok⟩:=h'.own r o ho;refine⟨i,by rw[U1 hm];exact hi,?_⟩;have hM:Aj1 i o->S i.b\/wl.heap.size<=i.b:=fun hl=>mineK hok (Y2 hl)
   cases o with
   |tree g e sz shs es hh=>exact J0.tree hok (fun b hb=>mineK hok hb) (fun k cs _ us hr=>B2.mono e2 _ hr)
   |box te cs=>
    obtain⟨h0,h1,us,e,h2,h3,h4⟩:=hok;exact⟨h0,⟨hM trivial,h1.2⟩,us,e,h2,B2.mono e2 _ h3,h4⟩
   |buf g e sz es=>
    obtain⟨h0,hg,hs,hn,ht,hx,h1⟩:=hok;refine⟨h0,hg,hs,hn,ht,hx,fun hp=> ?_⟩;obtain⟨h1,rest⟩:=h1 hp;exact⟨⟨hM hp,h1.2⟩,rest⟩
   |fzs g sz es=>exact hok
   |fzb cs=>
    obtain⟨h0,c0,us,h1,hP,h2,h3⟩:=hok;exact⟨h0,c0,us,h1,hP,B2.mono e2 _ h2,h3⟩
   |mapo kk ag sz es=>
    obtain⟨h0,h1,rest⟩:=hok;exact⟨h0,⟨hM trivial,h1.2⟩,rest⟩
   |raw b x=>
    obtain⟨h0,e,h1,h2⟩:=hok;exact⟨h0,e,⟨hM trivial,h1.2⟩,h2⟩
   |frn q=>
    exfalso;have h1:=Dy7 wr hk ho;rw[O7 hm hmr]at h1;have:=hc r _ hmr h1;cases this
  |false=>
   rw[Z2 wr hk hmr]at ho;obtain⟨i,hi,hj,hok⟩:=beside r o hmr ho;refine⟨i,hj,hok.mono hrl (fun y hl=> ?_) (fun y hl=>h'.old _ (E0 hok hl).2 (notK hmr hi ho hl))⟩;cases hM:M' y with
   |none=>
    cases hm0:M y with
    |none=>rfl
    |some c=>obtain⟨c',h3,_⟩:=h'.le _ _ hm0;rw[hM]at h3;cases h3
   |some c=>
    rcases h'.new _ _ hM (E0 hok hl).2 with h1|h1
    .exact h1.symm
    .exact absurd h1 (notK hmr hi ho hl)
 .cases hm:D7 r K with
  |true=>
   rw[U1 hm]at hi;obtain⟨o,ho⟩:=h'.dom r i hi;cases hmr:D7 r R with
   |true=>exact⟨o,by rw[<-hin r hmr];exact ho⟩
   |false=>
    rw[Z2 wr hk hmr]at ho⊢;obtain⟨_,⟨h1,_⟩|⟨_,_,x,hx⟩⟩:=Ae5 ho
    .rw[hmr]at h1;cases h1
    .exact⟨x,hx⟩
  |false=>
   rw[Ba9 hm]at hi;obtain⟨o,ho⟩:=h.dom r i hi;have hmr:D7 r R=false:=by
    cases hmr:D7 r R with
    |false=>rfl
    |true=>rw[hsub r hmr]at hm;cases hm
   exact⟨o,by rw[Z2 wr hk hmr];exact ho⟩
 .have mix:∀{r r':Nat} {o o':B9} {i i':Inf} {b:Nat},D7 r R=true->D7 r' R=false->wrO ob wr r=some o->wrO ob wr r'=some o'->Ar2 K ρ ρ' r=some i->Ar2 K ρ ρ' r'=some i'->blk i o b->blk i' o' b->False:=fun{r r' o o' i i' b} hm hm' h1 h2 h3 h4 l1 l2=>by
   rw[<-hin r hm]at h1;rw[Z2 wr hk hm']at h2;rw[U1 (hsub r hm)]at h3;obtain⟨i1,h5,h6⟩:=h'.own r o h1;rw[h3]at h5;cases h5;obtain⟨i2,h7,h8,h9⟩:=beside r' o' hm' h2;rw[h4]at h8;cases h8;rcases(E0 h6 l1).1 with hs|hs
   .exact notK hm' h7 h2 l2 hs
   .have:=(E0 h9 l2).2;omega
  intro r r' o o' i i' b h1 h2 h3 h4 l1 l2;cases hm:D7 r R with
  |true=>
   cases hm':D7 r' R with
   |true=>
    rw[<-hin r hm]at h1;rw[<-hin r' hm']at h2;rw[U1 (hsub r hm)]at h3;rw[U1 (hsub r' hm')]at h4;exact h'.inj r r' o o' i i' b h1 h2 h3 h4 l1 l2
   |false=>exact(mix hm hm' h1 h2 h3 h4 l1 l2).elim
  |false=>
   cases hm':D7 r' R with
   |true=>exact(mix hm' hm h2 h1 h4 h3 l2 l1).elim
   |false=>
    rw[Z2 wr hk hm]at h1;rw[Z2 wr hk hm']at h2;obtain⟨_,q1,q2,_⟩:=beside r o hm h1;obtain⟨_,q3,q4,_⟩:=beside r' o' hm' h2;rw[h3]at q2;cases q2;rw[h4]at q4;cases q4;exact h.inj r r' o o' i i' b h1 h2 q1 q3 l1 l2
 .intro r i hb hi;obtain⟨j,h1,h2⟩:=h.held r i hb hi;obtain⟨k,h3,h4⟩:=hrl.ext r j h1;exact⟨k,h3,h2.trans h4⟩
end
end
section
structure Dlt where
 rs:List Nat
 K:List Nat
 R:List Nat
 g0:Nat->V
 ob0:Nat->Option B9
 dst:Option Nat
 v:V
 wr:Wr
structure Bt1 where
 rs:List Nat
 K:List Nat
 R:List Nat
 ws:List Nat
 nw:List Nat
 dst:Option Nat
def N3:Wr->List Nat
 |[]=>[]
 |(d,_)::l=>d::N3 l
def Da3(ob:Nat->Option B9):Wr->List Nat
 |[]=>[]
 |(d,_)::l=>match ob d with|some _=>Da3 ob l|none=>d::Da3 ob l
def S4(δ:Dlt):Bt1:=⟨δ.rs,δ.K,δ.R,N3 δ.wr,Da3 δ.ob0 δ.wr,δ.dst⟩
def WOk(δ:Dlt):Prop:=∀x∈N3 δ.wr,D7 x δ.R=true
theorem Bb6{ob:Nat->Option B9}:∀{wr:Wr} {x:Nat},x∈N3 wr->x∉Da3 ob wr->∃o,ob x=some o
 |[],_,h,_=>by cases h
 |(d,o)::wr,x,h,hn=>by
  unfold Da3 at hn;split at hn
  .rename_i y hy;rcases mem_cons.1 h with rfl|h
   .exact⟨y,hy⟩
   .exact Bb6 h hn
  .rcases mem_cons.1 h with rfl|h
   .exact absurd ab_ hn
   .exact Bb6 h (fun hm=>hn (mem_cons_of_mem _ hm))
def Cc5(g:Nat->V)(d:Option Nat)(v:V):Nat->V:=match d with
 |none=>g
 |some d=>fun t=>match Nat.beq t d with|true=>v|false=>g t
def App(δ:Dlt)(g:Nat->V)(ob:Nat->Option B9):Prop:=(∀t,D7 t δ.rs=true->g t=δ.g0 t)/\(∀r,D7 r δ.R=true->ob r=δ.ob0 r)/\∀r,D7 r δ.K=true->(ob r).isSome=(δ.ob0 r).isSome
def Be0:List Nat->List Nat->Bool
 |[],_=>true
 |x::l,m=>match D7 x m with|true=>false|false=>Be0 l m
def Az5:Option Nat->List Nat->Bool
 |none,_=>true
 |some d,m=>match D7 d m with|true=>false|false=>true
def Cg6:Option Nat->Option Nat->Bool
 |some a,some b=>match Nat.beq a b with|true=>false|false=>true
 |_,_=>true
def Z5(a b:Bt1):Bool:=match Az5 a.dst b.rs,Az5 b.dst a.rs,Cg6 a.dst b.dst,Be0 a.ws b.R,Be0 b.ws a.R,Be0 a.ws b.ws with
 |true,true,true,true,true,true=>match Be0 a.nw b.K,Be0 b.nw a.K with|true,true=>true|_,_=>false
 |_,_,_,_,_,_=>false
theorem Ai2{a b:Bt1}(h:Z5 a b=true):Az5 a.dst b.rs=true/\Az5 b.dst a.rs=true/\Cg6 a.dst b.dst=true/\Be0 a.ws b.R=true/\Be0 b.ws a.R=true/\Be0 a.ws b.ws=true/\Be0 a.nw b.K=true/\Be0 b.nw a.K=true:=by
 unfold Z5 at h;split at h
 .rename_i h1 h2 h3 h4 h5 h6;split at h
  .rename_i h7 h8;exact⟨h1,h2,h3,h4,h5,h6,h7,h8⟩
  .cases h
 .cases h
theorem W5:∀{l m:List Nat},Be0 l m=true->∀x∈l,D7 x m=false
 |[],_,_,x,hx=>by cases hx
 |y::l,m,h,x,hx=>by
  unfold Be0 at h;split at h
  .cases h
  .rename_i hb;rcases mem_cons.1 hx with rfl|hx
   .exact hb
   .exact W5 h x hx
theorem Bp2:∀{l:List Nat} {n:Nat},n∈l->D7 n l=true
 |[],_,h=>by cases h
 |m::l,n,h=>by
  unfold D7;rcases mem_cons.1 h with rfl|h
  .rw[Nat.beq_refl]
  .split
   .rfl
   .exact Bp2 h
theorem O6:∀{wr:Wr} {ob:Nat->Option B9} {r:Nat},r∉N3 wr->wrO ob wr r=ob r
 |[],_,_,_=>rfl
 |(d,o)::wr,ob,r,h=>by
  simp only[wrO];rw[O6 (fun hm=>h (mem_cons_of_mem _ hm)),C5];exact fun e=>h (by rw[e];exact ab_)
theorem Cl4:∀{wr:Wr} {ob ob':Nat->Option B9} {r:Nat},r∈N3 wr->wrO ob wr r=wrO ob' wr r
 |[],_,_,_,h=>by cases h
 |(d,o)::wr,ob,ob',r,h=>by
  simp only[wrO];by_cases hm:r∈N3 wr
  .exact Cl4 hm
  .rcases mem_cons.1 h with rfl|h
   .rw[O6 hm,O6 hm,B3,B3]
   .exact absurd h hm
theorem Bj9:∀{wr:Wr} {ob:Nat->Option B9} {r:Nat},r∈N3 wr->(wrO ob wr r).isSome=true
 |[],_,_,h=>by cases h
 |(d,o)::wr,ob,r,h=>by
  simp only[wrO];by_cases hm:r∈N3 wr
  .exact Bj9 hm
  .rcases mem_cons.1 h with rfl|h
   .rw[O6 hm,B3];rfl
   .exact absurd h hm
theorem Ej4{a b:Wr}(h:Be0 (N3 a) (N3 b)=true)(ob:Nat->Option B9):wrO (wrO ob a) b=wrO (wrO ob b) a:=by
 funext r;by_cases ha:r∈N3 a
 .have hb:r∉N3 b:=fun hb=>by have:=W5 h r ha;rw[Bp2 hb]at this;cases this
  rw[O6 hb];exact Cl4 ha
 .rw[O6 (wr:=a) ha];by_cases hb:r∈N3 b
  .exact Cl4 hb
  .rw[O6 hb,O6 hb,O6 ha]
theorem Dy0{a b:Option Nat}(h:Cg6 a b=true)(g:Nat->V)(u v:V):Cc5 (Cc5 g a u) b v=Cc5 (Cc5 g b v) a u:=by
 cases a with
 |none=>rfl
 |some a=>
  cases b with
  |none=>rfl
  |some b=>
   funext t;simp only[Cc5];cases h1:Nat.beq t a<;>cases h2:Nat.beq t b<;>simp only;obtain rfl:=nB_ h1;obtain rfl:=nB_ h2;simp[Cg6]at h
theorem Cv8{d:Option Nat}{rs:List Nat}(h:Az5 d rs=true)(g:Nat->V)(v:V){t:Nat}(ht:D7 t rs=true):Cc5 g d v t=g t:=by
 cases d with
 |none=>rfl
 |some d=>
  simp only[Cc5];cases hb:Nat.beq t d with
  |true=>
   obtain rfl:=nB_ hb;simp[Az5,ht]at h
  |false=>rfl
theorem Cw2{wr:Wr}{K:List Nat}(h:Be0 (N3 wr) K=true){ob:Nat->Option B9}{r:Nat}(hr:D7 r K=true):wrO ob wr r=ob r:=
 O6 fun hm=>by have:=W5 h r hm;rw[hr]at this;cases this
theorem App.post{a b:Dlt}(h:Z5 (S4 a) (S4 b)=true)(hw:WOk a){g:Nat->V}{ob:Nat->Option B9}(ha:App a g ob):App b (Cc5 g a.dst a.v) (wrO ob a.wr)↔App b g ob:=by
 obtain⟨h1,_,_,h4,_,_,h7,_⟩:=Ai2 h;have h1:Az5 a.dst b.rs=true:=h1;have h4:Be0 (N3 a.wr) b.R=true:=h4;have h7:Be0 (Da3 a.ob0 a.wr) b.K=true:=h7;have key:∀r,D7 r b.K=true->(wrO ob a.wr r).isSome=(ob r).isSome:=fun r hr=>by
  by_cases hm:r∈N3 a.wr
  .have hn:r∉Da3 a.ob0 a.wr:=fun hn=>by have:=W5 h7 r hn;rw[hr]at this;cases this
   obtain⟨o,ho⟩:=Bb6 hm hn;rw[Bj9 hm,ha.2.1 r (hw r hm),ho];rfl
  .rw[O6 hm]
 constructor
 .exact fun⟨p,q,s⟩=>⟨fun t ht=>by rw[<-p t ht,Cv8 h1 g a.v ht],fun r hr=>by rw[<-q r hr,Cw2 h4 hr],fun r hr=>by rw[<-s r hr,key r hr]⟩
 .exact fun⟨p,q,s⟩=>⟨fun t ht=>by rw[Cv8 h1 g a.v ht,p t ht],fun r hr=>by rw[Cw2 h4 hr,q r hr],fun r hr=>by rw[key r hr,s r hr]⟩
theorem Cy5:∀{a b:Option Nat},Cg6 a b=true->Cg6 b a=true
 |none,none,_=>rfl
 |none,some _,_=>rfl
 |some _,none,_=>rfl
 |some x,some y,h=>by
  simp only[Cg6]at h⊢;cases h1:Nat.beq y x with
  |false=>rfl
  |true=>obtain rfl:=nB_ h1;rw[Nat.beq_refl]at h;cases h
theorem Dl8{a b:List Nat}(h:Be0 a b=true):Be0 b a=true:=by
 have:∀l:List Nat,(∀x∈l,D7 x a=false)->Be0 l a=true:=fun l=>by
  induction l with
  |nil=>exact fun _=>rfl
  |cons x l ih=>exact fun hx=>by unfold Be0;rw[hx x ab_];exact ih fun y hy=>hx y (mem_cons_of_mem _ hy)
 refine this _ fun x hx=> ?_
 cases hm:D7 x a with
 |false=>rfl
 |true=>have:=W5 h x (W9 hm);rw[Bp2 hx]at this;cases this
theorem Ci5{a b:Bt1}(h:Z5 a b=true):Z5 b a=true:=by
 obtain⟨h1,h2,h3,h4,h5,h6,h7,h8⟩:=Ai2 h;simp only[Z5,h2,h1,Cy5 h3,h5,h4,Dl8 h6,h8,h7]
def Em2:List (Nat×Dlt)->(Nat->V)->(Nat->Option B9)->(Nat->V)->(Nat->Option B9)->Prop
 |[],g,ob,gE,obE=>g=gE/\ob=obE
 |(_,δ)::R,g,ob,gE,obE=>App δ g ob/\Em2 R (Cc5 g δ.dst δ.v) (wrO ob δ.wr) gE obE
theorem Em2.front{i:Nat}{δ:Dlt}{B:List (Nat×Dlt)}{gE:Nat->V}{obE:Nat->Option B9}:∀(A:List (Nat×Dlt)) {g:Nat->V} {ob:Nat->Option B9},(∀a∈A,Z5 (S4 a.2) (S4 δ)=true)->(∀a∈A,WOk a.2)->WOk δ->
 Em2 (A++(i,δ)::B) g ob gE obE->App δ g ob/\Em2 (A++B) (Cc5 g δ.dst δ.v) (wrO ob δ.wr) gE obE
 |[],_,_,_,_,_,h=>h
 |(j,a)::A,g,ob,hi,hwa,hwd,h=>by
  have h0:=hi (j,a) ab_;obtain⟨ha,h1⟩:=h;obtain⟨h2,h3⟩:=Em2.front A (fun x hx=>hi x (mem_cons_of_mem _ hx)) (fun x hx=>hwa x (mem_cons_of_mem _ hx)) hwd h1;have hd:=(App.post h0 (hwa _ ab_) ha).1 h2;refine⟨hd,(App.post (Ci5 h0) hwd hd).2 ha,?_⟩;obtain⟨_,_,e1,_,_,e2,_,_⟩:=Ai2 h0;rw[<-Dy0 (a:=a.dst) (b:=δ.dst) e1,<-Ej4 (a:=a.wr) (b:=δ.wr) e2];exact h3
def Bi6:List Edge->List Nat
 |[]=>[]
 |e::l=>match Region.binds .any e with|true=>e.on::Bi6 l|false=>Bi6 l
def prd(l:List Oper)(b:Nat):List Nat:=match Cs5 l b with|some o=>Bi6 o.after.toList|none=>[]
def Gb7(p:Nat->Bool):List Nat->Bool
 |[]=>false
 |x::l=>match p x with|true=>true|false=>Gb7 p l
def Er2(l:List Oper):Nat->Nat->Nat->Bool
 |0,_,_=>false
 |n+1,a,b=>match D7 a (prd l b) with|true=>true|false=>Gb7 (fun k=>match Nat.blt a k with|true=>Er2 l n a k|false=>false) (prd l b)
theorem Bi7:∀{es:List Edge} {p:Nat},p∈Bi6 es↔∃e∈es,Region.binds .any e=true/\e.on=p
 |[],p=>by simp[Bi6]
 |e::l,p=>by
  unfold Bi6;have ih:=Bi7 (es:=l) (p:=p);split
  .rename_i hb;constructor
   .intro h;rcases mem_cons.1 h with rfl|h
    .exact⟨e,ab_,hb,rfl⟩
    .obtain⟨x,h1,h2⟩:=ih.1 h;exact⟨x,mem_cons_of_mem _ h1,h2⟩
   .rintro ⟨x,h1,h2,h3⟩
    rcases mem_cons.1 h1 with rfl|h1
    .rw[<-h3];exact ab_
    .exact mem_cons_of_mem _ (ih.2 ⟨x,h1,h2,h3⟩)
  .rename_i hb;constructor
   .intro h;obtain⟨x,h1,h2⟩:=ih.1 h;exact⟨x,mem_cons_of_mem _ h1,h2⟩
   .rintro ⟨x,h1,h2,h3⟩
    rcases mem_cons.1 h1 with rfl|h1
    .rw[hb]at h2;cases h2
    .exact ih.2 ⟨x,h1,h2,h3⟩
theorem Dt7{l:List Oper}{b p:Nat}{o:Oper}(ho:Cs5 l b=some o):p∈prd l b↔∃e∈o.after,Region.binds .any e=true/\e.on=p:=by
 unfold prd;rw[ho];simp only[Bi7,Array.mem_toList_iff]
def Ej6(l:List Oper)(listed:Array Bool):Prop:=∀k o,Cs5 l k=some o->listed.getD k false=true->∀p∈prd l k,listed.getD p false=true
theorem Bt7{p:Nat->Bool}:∀{l:List Nat},Gb7 p l=true->∃x∈l,p x=true
 |[],h=>by cases h
 |x::l,h=>by
  unfold Gb7 at h;split at h
  .rename_i hb;exact⟨x,ab_,hb⟩
  .obtain⟨y,h1,h2⟩:=Bt7 h;exact⟨y,mem_cons_of_mem _ h1,h2⟩
theorem Bz0{l:List Oper}{listed:Array Bool}(hc:Ej6 l listed):∀{n a b:Nat},Er2 l n a b=true->(∀p∈prd l b,listed.getD p false=true)->listed.getD a false=true
 |0,_,_,h,_=>by cases h
 |n+1,a,b,h,hp=>by
  unfold Er2 at h;split at h
  .rename_i hm;exact hp a (W9 hm)
  .obtain⟨k,h1,h2⟩:=Bt7 h;have h2:Er2 l n a k=true:=by
    revert h2;cases Nat.blt a k with
    |true=>exact id
    |false=>intro h;cases h
   refine Bz0 hc h2 fun p hpk=> ?_
   cases ho:Cs5 l k with
   |none=>unfold prd at hpk;rw[ho]at hpk;cases hpk
   |some o=>exact hc k o ho (hp k h1) p hpk
theorem Cj4{l:List Oper}{j:Nat}{o:Oper}(h:Cs5 l j=some o):j<l.length:=by
 rcases bc_ j l.length with h'|h'
 .exact h'
 .have:=Bb9 l j;rw[h]at this;simp[List.getElem?_eq_none h']at this
theorem Fd5{listed:Array Bool}{a:Nat}(h:listed.getD a false=true):listed.getD a true=true:=by
 rcases bc_ a listed.size with h'|h'
 .simp[h']at h⊢;exact h
 .simp[Array.getElem?_eq_none h']at h
theorem Fd4{listed:Array Bool}{a:Nat}(hl:a<listed.size)(h:listed.getD a true=true):listed.getD a false=true:=by
 simp[hl]at h⊢;exact h
structure Fz5(S:L8)(wl:World)(M0 M:Mem)(ρ:Rho)(N:Nat)(g:Nat->V)(ob:Nat->Option B9)(f:Nat->Value)(w:World):Prop where
 ow:Ow S wl M0 M ρ ob w
 sl:∀t,t<N->B8 M ρ (g t) (f t)
def DOk(r:Option Nat)(P:Program)(N:Nat)(ds:List Deferred)(all:List Oper)(o:Oper)(δ:Dlt):Prop:=
 ∀S wl M0 M ρ g ob f w,Fz5 S wl M0 M ρ N g ob f w->App δ g ob->∀(K:Act->World->Prop) (Q:Exit->Act->World->Prop),
  (∀M' ρ' f' w',Fz5 S wl M0 M' ρ' N (Cc5 g δ.dst δ.v) (wrO ob δ.wr) f' w'->K (fr N f' ds) w')->
  if Region.wanted o (yielded all.toArray (fr N f ds).tmps)=true then o.wpIn (WF r) 0 P (fr N f ds) w K Q else K ((fr N f ds).put o.dst undef) w
section
variable {r:Option Nat} {P:Program} {N:Nat} {ds:List Deferred} {l:List Oper} {S:L8} {wl:World} {M0:Mem} {gE:Nat->V} {obE:Nat->Option B9} {Q:Exit->Act->World->Prop} {F:Nat}
def Gn0(l:List Oper)(F:Nat)(a b:Nat×Dlt):Prop:=Er2 l F a.1 b.1=true\/Z5 (S4 a.2) (S4 b.2)=true
theorem Ez8(hback:∀j o,Cs5 l j=some o->∀p∈prd l j,p<j)(hE:∀M ρ f w,Fz5 S wl M0 M ρ N gE obE f w->Q .normal (fr N f ds) w):
 ∀(n:Nat) (R:List (Nat×Dlt)) (listed:Array Bool) (M:Mem) (ρ:Rho) (g:Nat->V) (ob:Nat->Option B9) (f:Nat->Value) (w:World),R.length=n->R.Pairwise (fun a b=>a.1<b.1)->
  listed.size=l.length->(∀j,listed.getD j true=false↔∃x∈R,x.1=j)->(∀x∈R,∃o,Cs5 l x.1=some o/\DOk r P N ds l o x.2/\WOk x.2)->R.Pairwise (Gn0 l F)->Ej6 l listed->
  Fz5 S wl M0 M ρ N g ob f w->Em2 R g ob gE obE->wpAnyIn (WF r) 0 P .any l.toArray Q n listed (fr N f ds) w:=by
 have nored:∀{listed:Array Bool} {R:List (Nat×Dlt)} {x:Nat×Dlt},listed.size=l.length->R.Pairwise (fun a b=>a.1<b.1)->(∀j,listed.getD j true=false↔∃x∈R,x.1=j)->(∀x∈R,∃o,Cs5 l x.1=some o/\DOk r P N ds l o x.2/\WOk x.2)->x∈R.head?->x.1∈Region.ready .any l.toArray listed:=fun{listed R x} hsz hs hl ho hx=>by
  cases R with
  |nil=>cases hx
  |cons y R=>
   simp only[head?_cons,Option.mem_def,Option.some.injEq]at hx;subst hx;obtain⟨o,ho,_⟩:=ho y ab_;refine mem_ready.2 ⟨(hl y.1).2 ⟨y,ab_,rfl⟩,o,(Bb9 l y.1).trans ho,fun e he hb=> ?_⟩;have hlt:=hback y.1 o ho e.on ((Dt7 ho).2 ⟨e,he,hb,rfl⟩);have hyl:=Cj4 ho;cases hc:listed.getD e.on true with
   |true=>exact Fd4 (by omega) hc
   |false=>
    obtain⟨z,hz,hze⟩:=(hl e.on).1 hc;rcases mem_cons.1 hz with rfl|hz
    .omega
    .have:=(pairwise_cons.1 hs).1 z hz;omega
 intro n
 induction n with
 |zero=>
  intro R listed M ρ g ob f w hn hs hsz hl ho hp hc ha hr;obtain rfl:=a1_ hn;obtain⟨rfl,rfl⟩:=hr;refine⟨?_,hE _ _ _ _ ha⟩;rw[eq_nil_iff_forall_not_mem];intro j hj;obtain⟨x,hx,_⟩:=(hl j).1 (mem_ready.1 hj).1;cases hx
 |succ n ih=>
  intro R listed M ρ g ob f w hn hs hsz hl ho hp hc ha hr;refine⟨fun h0=> ?_,fun i hi=> ?_⟩
  .cases R with
   |nil=>cases hn
   |cons x R=>
    have:=nored hsz hs hl ho (x:=x) (by simp);rw[h0]at this;cases this
  .obtain⟨hun,oi,hoi,hall⟩:=mem_ready.1 hi;rw[Bb9]at hoi;obtain⟨x,hx,rfl⟩:=(hl i).1 hun;obtain⟨o,hox,hdo,hwx⟩:=ho x hx;rw[hoi]at hox;cases hox;obtain⟨A,B,rfl⟩:=List.append_of_mem hx;have hpre:∀p∈prd l x.1,listed.getD p false=true:=fun p hpp=>by
    obtain⟨e,he,hb,rfl⟩:=(Dt7 hoi).1 hpp;exact hall e he hb
   have hind:∀a∈A,Z5 (S4 a.2) (S4 x.2)=true:=fun a haA=>by
    have:=(pairwise_append.1 hp).2.2 a haA x ab_;rcases this with h1|h1
    .have h2:=Bz0 hc h1 hpre;have h3:=(hl a.1).2 ⟨a,am_ _ haA,rfl⟩;rw[Fd5 h2]at h3;cases h3
    .exact h1
   obtain⟨h1,h2⟩:=Em2.front (i:=x.1) (δ:=x.2) A hind (fun a ha=>by obtain⟨_,_,_,hw⟩:=ho a (am_ _ ha);exact hw) hwx hr;have key:=hdo S wl M0 M ρ g ob f w ha h1 (wpAnyIn (WF r) 0 P .any l.toArray Q n (listed.setIfInBounds x.1 true)) Q (fun M' ρ' f' w' ha'=>by
    refine ih (A++B) _ M' ρ' _ _ f' w' (by simp at hn⊢;omega) ?_ (by simpa using hsz) ?_ ?_ ?_ ?_ ha' h2
    .exact hs.sublist ((sublist_cons_self x B).append_left A)
    .intro j;have hlt:x.1<listed.size:=by
      rw[hsz];exact Cj4 hoi
     by_cases e:x.1=j
     .subst e;constructor
      .intro hh;simp[hlt]at hh
      .rintro ⟨y,hy,hyx⟩
       exfalso;have h3:=pairwise_append.1 hs;rcases List.mem_append.1 hy with hy|hy
       .have:=h3.2.2 y hy x ab_;omega
       .have:=(pairwise_cons.1 h3.2.1).1 y hy;omega
     .rw[getD_set_ne true e,hl j];constructor
      .rintro ⟨y,hy,rfl⟩
       rcases List.mem_append.1 hy with hy|hy
       .exact⟨y,am_ _ hy,rfl⟩
       .rcases mem_cons.1 hy with rfl|hy
        .exact absurd rfl e
        .exact⟨y,al_ _ hy,rfl⟩
      .rintro ⟨y,hy,rfl⟩
       rcases List.mem_append.1 hy with hy|hy
       .exact⟨y,am_ _ hy,rfl⟩
       .exact⟨y,al_ _ (mem_cons_of_mem _ hy),rfl⟩
    .intro y hy;refine ho y ?_;rcases List.mem_append.1 hy with hy|hy
     .exact am_ _ hy
     .exact al_ _ (mem_cons_of_mem _ hy)
    .exact hp.sublist ((sublist_cons_self x B).append_left A)
    .intro k o hk hlk p hpp;by_cases e:x.1=k
     .subst e;exact getD_set_true (hpre p hpp)
     .rw[getD_set_ne false e]at hlk;exact getD_set_true (hc k o hk hlk p hpp))
   unfold wpOpIn;rw[Bb9,hoi];simp only;split
   .rename_i hw;rw[if_pos hw]at key;exact key
   .rename_i hw;rw[if_neg hw]at key;exact⟨fun _ _=>trivial,key⟩
end
end
section
def tO:Operand->List Nat->List Nat
 | .tmp t,l=>t::l
 |_,l=>l
def tOs:List Operand->List Nat->List Nat
 |[],l=>l
 |x::xs,l=>tO x (tOs xs l)
def tPs:List (Nat×Operand)->List Nat->List Nat
 |[],l=>l
 |(_,x)::xs,l=>tO x (tPs xs l)
def Gl6:Option Operand->List Nat->List Nat
 |some x,l=>tO x l
 |none,l=>l
def Dx5:Op->List Nat
 | .move x| .assign x| .box _ x| .load _ x| .nilCheck x| .unOp _ _ x| .convert _ _ x| .fieldAddr _ x _| .field _ x _| .extract x _=>tO x []
 | .pick c x y=>tO c (tO x (tO y []))
 | .build _ ps=>tPs ps.toList []
 | .buildSlice _ _ ps=>tPs ps.toList []
 | .store _ x y| .binOp _ _ x y _| .indexAddr _ x y| .index _ x y| .makeSlice _ x y| .lookup _ x y _=>tO x (tO y [])
 | .mapUpdate _ m k v=>tO m (tO k (tO v []))
 | .insert _ m k v=>tO m (tO k (tO v []))
 | .makeFunc _ xs ys=>tOs xs.toList (tOs ys.toList [])
 | .slice _ x lo hi mx=>tO x (Gl6 lo (Gl6 hi (Gl6 mx [])))
 | .call c=>match c.callee with
   | .value f=>tO f (tOs c.args.toList [])
   |_=>tOs c.args.toList []
 |_=>[]
def Dv0(all:List Oper)(o:Oper):List Nat:=match o.guard with
 |none=>Dx5 o.op
 |some (j,_)=>match Be8 all j with|some t=>t::Dx5 o.op|none=>Dx5 o.op
mutual
def Fg2:V->List Nat->List Nat
 | .ptr r _,l=>r::l
 | .suf r _ _,l=>r::l
 | .osl r _ _ _,l=>r::l
 | .ept r _ _ _,l=>r::l
 | .mp r,l=>r::l
 | .yl r,l=>r::l
 | .fn _ a b,l=>At4 a (At4 b l)
 | .agg cs,l=>At4 cs l
 | .tup vs,l=>At4 vs l
 |_,l=>l
def At4:List V->List Nat->List Nat
 |[],l=>l
 |v::vs,l=>Fg2 v (At4 vs l)
end
def Gk7:Option B9->List Nat
 |some (.box _ cs)=>At4 cs []
 |some (.fzb cs)=>At4 cs []
 |some (.tree _ _ _ _ _ (some (_,cs)))=>At4 cs []
 |_=>[]
def Cu8(N:Nat)(sl:Tri):List Nat->List Nat
 |[]=>[]
 |t::l=>Fg2 (G3 N sl (.tmp t)) (Cu8 N sl l)
def Fg1(ob:List (Nat×B9)):Nat->List Nat->List Nat->List Nat
 |0,_,acc=>acc
 |_,[],acc=>acc
 |n+1,r::l,acc=>match D7 r acc with
  |true=>Fg1 ob n l acc
  |false=>Fg1 ob n (Gk7 (B0 ob r)++l) (r::acc)
structure T9 where
 sl:Tri
 ob:List (Nat×B9)
 all:List Oper
 rest:List Oper
 ks:List Bt1
 td:List It
section
variable (P:Program) (N:Nat)
def dEv(sl:Tri)(K rs:List Nat):Operand->V
 | .tmp t=>match D7 t rs with
   |true=>match Q6 K (G3 N sl (.tmp t)) with|true=>G3 N sl (.tmp t)|false=> .undef
   |false=> .undef
 |x=>G3 N sl x
def dOb(ob:List (Nat×B9))(K R:List Nat):Nat->Option B9:=S3 K R (B0 ob)
def R6(ob:List (Nat×B9))(K:List Nat):List Nat->Bool
 |[]=>true
 |r::l=>match B0 ob r with
  |some o=>match Aq4 K o with|true=>R6 ob K l|false=>false
  |none=>R6 ob K l
def gdD(ev:Operand->V)(all:List Oper)(o:Oper):Option Bool:=match o.guard with
 |none=>some true
 |some (j,want)=>match Be8 all j with
  |some t=>match ev (.tmp t) with
   | .d (.bool b)=>match b,want with|true,true=>some true|false,false=>some true|_,_=>some false
   | .un=>some false
   |_=>none
  |none=>none
def Fl2(o:Oper):Bool:=match o.dst with|none=>true|some d=>Nat.blt d N
def Fv7(o:Oper):List Nat:=match o.dst with
 |some d=>match o.op with| .call _=>[d,Nat.add 1100 d,Nat.add 1300 d,Nat.add 1500 d,Nat.add 1700 d]|_=>[d]
 |none=>[]
def kOf(q:T9)(o:Oper):List Nat:=Fg1 q.ob 64 (Cu8 N q.sl (Dv0 q.all o)) (Fv7 o)
def Gi8(o:Oper):List Nat:=match o.dst with|some d=>[d]|none=>[]
def rOf(q:T9)(o:Oper)(K:List Nat):List Nat:=match o.op with
 | .move _| .assign _| .pick .. | .build .. | .extract .. | .field .. | .makeFunc .. | .box .. =>Gi8 o
 | .store _ x _| .load _ x=>match G3 N q.sl x with| .ptr r _=>r::Gi8 o|_=>K
 | .fieldAddr _ x _| .nilCheck x=>match G3 N q.sl x with| .ptr _ _=>Gi8 o|_=>K
 |_=>K
def Dz7:List Nat->List Nat->Bool
 |[],_=>true
 |x::l,K=>match D7 x K with|true=>Dz7 l K|false=>false
theorem Ad3{K:List Nat}:∀{l:List Nat},Dz7 l K=true->∀r,D7 r l=true->D7 r K=true
 |[],_,r,h=>by cases h
 |x::l,hs,r,h=>by
  unfold Dz7 at hs;split at hs
  .rename_i hx;unfold D7 at h;split at h
   .rename_i hb;rw[nB_ hb];exact hx
   .exact Ad3 hs r h
  .cases hs
def O8(all:List Oper)(b:Bt1)(n:Nat):List Bt1->Bool
 |[]=>true
 |a::l=>match Z5 a b with
  |true=>O8 all b n l
  |false=>match Er2 all 12 l.length n with|true=>O8 all b n l|false=>false
def Br5(q:T9):Res:=match q.rest with
 |o::_=>match kOf N q o with
  |K=>match Dv0 q.all o with
   |rs=>match gdD (dEv N q.sl K rs) q.all o,R6 q.ob K (rOf N q o K),Fl2 N o with
    |some true,true,true=>L3 P (dOb q.ob K (rOf N q o K)) (o.dst.getD 0) o.type (dEv N q.sl K rs) o.op
    |_,_,_=> .bad
 |_=> .bad
def dGo(q:T9)(v:V)(wr:Wr):Option T9:=match q.rest with
 |o::rest=>match kOf N q o with
  |K=>match W7 (rOf N q o K) wr,O8 q.all ⟨Dv0 q.all o,K,rOf N q o K,N3 wr,Da3 (B0 q.ob) wr,o.dst⟩ q.ks.length q.ks,Dz7 (rOf N q o K) K with
   |true,true,true=>some ⟨Cc4 N q.sl o.dst v,Q3 q.ob wr,q.all,rest,⟨Dv0 q.all o,K,rOf N q o K,N3 wr,Da3 (B0 q.ob) wr,o.dst⟩::q.ks,q.td⟩
   |_,_,_=>none
 |_=>none
def Fb3(q:T9):Option T9:=match q.rest with
 |o::rest=>match gdD (dEv N q.sl [] (Dv0 q.all o)) q.all o,Fl2 N o,O8 q.all ⟨Dv0 q.all o,[],[],[],[],o.dst⟩ q.ks.length q.ks with
  |some false,true,true=>some ⟨Cc4 N q.sl o.dst .un,q.ob,q.all,rest,⟨Dv0 q.all o,[],[],[],[],o.dst⟩::q.ks,q.td⟩
  |_,_,_=>none
 |_=>none
def Gh2(q:T9):Option T9:=match Br5 P N q with
 | .ok v wr=>dGo N q v wr
 |_=>Fb3 N q
def N4:Nat->T9->T9
 |0,q=>q
 |n+1,q=>match Gh2 P N q with
  |some q'=>N4 n q'
  |none=>q
end
def gOf(N:Nat)(sl:Tri):Nat->V:=fun t=>G3 N sl (.tmp t)
def Gg7:List Dlt->(Nat->V)->(Nat->Option B9)->(Nat->V)->(Nat->Option B9)->Prop
 |[],g,ob,gE,obE=>g=gE/\ob=obE
 |δ::R,g,ob,gE,obE=>App δ g ob/\Gg7 R (Cc5 g δ.dst δ.v) (wrO ob δ.wr) gE obE
def OkD(r:Option Nat)(P:Program)(N:Nat)(ds:List Deferred)(all:List Oper):List Oper->List Dlt->Prop
 |[],[]=>True
 |o::l,δ::Δ=>(DOk r P N ds all o δ/\WOk δ)/\OkD r P N ds all l Δ
 |_,_=>False
def PW(all:List Oper):List Bt1->List Dlt->Prop
 |_,[]=>True
 |ks,δ::Δ=>O8 all (S4 δ) ks.length ks=true/\PW all (S4 δ::ks) Δ
def JD(r:Option Nat)(P:Program)(N:Nat)(ds:List Deferred)(fin:Fin)(q:T9):Prop:=
 N<=1024/\(q.sl.ok 10->∃(Δ:List Dlt) (c:Cfg),c.td=q.td/\c.sl.ok 10/\J r P N ds fin c/\Gg7 Δ (gOf N q.sl) (B0 q.ob) (gOf N c.sl) (B0 c.ob)/\OkD r P N ds q.all q.rest Δ/\PW q.all q.ks Δ)
section
variable {r:Option Nat} {P:Program} {N:Nat} {ds:List Deferred} {fin:Fin} {q:T9}
theorem Fp9(hr:q.rest=[])(hk:J r P N ds fin ⟨q.sl,q.ob,q.td⟩):JD r P N ds fin q:=
 ⟨hk.1,fun hok=>⟨[],⟨q.sl,q.ob,q.td⟩,rfl,hok,hk,⟨rfl,rfl⟩,by rw[hr];trivial,trivial⟩⟩
theorem Fd1{sl:Tri}(hok:sl.ok 10)(hN:N<=1024){d:Option Nat}(hd:∀t,d=some t->Nat.blt t N=true)(v:V):Cc5 (gOf N sl) d v=gOf N (Cc4 N sl d v):=by
 cases d with
 |none=>rfl
 |some d=>
  have hlt:=hd d rfl;funext t;simp only[Cc5,gOf,G3,Cc4,hlt];cases hb:Nat.beq t d with
  |true=>
   obtain rfl:=nB_ hb;simp only[hlt,Tri.get_set_same]
  |false=>
   simp only;split
   .rename_i ht;have h1:=Ac8 ht;have h2:=Ac8 hlt;rw[Tri.get_set_ne _ _ _ _ _ hok (by omega) (by omega) (fun e=>by subst e;rw[Nat.beq_refl]at hb;cases hb)]
   .rfl
theorem Fg0{sl:Tri}(hok:sl.ok 10){d:Option Nat}{v:V}:(Cc4 N sl d v).ok 10:=by
 cases d with
 |none=>exact hok
 |some d=>
  simp only[Cc4];split
  .exact Tri.set_ok _ _ _ _ hok
  .trivial
theorem Bl1{o:Oper}{rest:List Oper}(hr:q.rest=o::rest)(hd:Fl2 N o=true){rs K R:List Nat}{v:V}{wr:Wr}(hdo:DOk r P N ds q.all o ⟨rs,K,R,gOf N q.sl,B0 q.ob,o.dst,v,wr⟩)(hw:∀x∈N3 wr,D7 x R=true)
 (hp:O8 q.all ⟨rs,K,R,N3 wr,Da3 (B0 q.ob) wr,o.dst⟩ q.ks.length q.ks=true) (hk:JD r P N ds fin ⟨Cc4 N q.sl o.dst v,Q3 q.ob wr,q.all,rest,⟨rs,K,R,N3 wr,Da3 (B0 q.ob) wr,o.dst⟩::q.ks,q.td⟩):JD r P N ds fin q:=by
 refine⟨hk.1,fun hok=> ?_⟩;obtain⟨Δ,c,h1,h2,h3,h4,h5,h6⟩:=hk.2 (Fg0 hok);refine⟨⟨rs,K,R,gOf N q.sl,B0 q.ob,o.dst,v,wr⟩::Δ,c,h1,h2,h3,⟨⟨fun _ _=>rfl,fun _ _=>rfl,fun _ _=>rfl⟩,?_⟩,by rw[hr];exact⟨⟨hdo,hw⟩,h5⟩,hp,h6⟩;have e:=Fd1 hok hk.1 (d:=o.dst) (fun t ht=>by unfold Fl2 at hd;rw[ht]at hd;exact hd) v;simp only at h4⊢;rw[e,<-U2];exact h4
theorem Cr0{M:Mem}{ρ:Rho}{f:Nat->Value}{sl:Tri}{K rs:List Nat}(hev:∀t,B8 M ρ (dEv N sl K rs (.tmp t)) ((fr N f ds).eval (.tmp t))){all:List Oper}{o:Oper}{b:Bool}(hg:gdD (dEv N sl K rs) all o=some b):Region.wanted o (yielded all.toArray (fr N f ds).tmps)=b:=by
 obtain⟨d,op,ty,pos,aft,g⟩:=o;cases g with
 |none=>simp only[gdD,Option.some.injEq]at hg;subst hg;rfl
 |some p=>
  obtain⟨j,want⟩:=p;unfold gdD at hg;dsimp only at hg;split at hg
  .rename_i t ht;have hr:=hev t;have hlt:∀v,dEv N sl K rs (.tmp t)=v->v≠ .undef->Nat.blt t N=true:=fun v hv hne=>by
    simp only[dEv]at hv;split at hv
    .split at hv
     .simp only[G3]at hv;split at hv
      .assumption
      .exact absurd hv.symm hne
     .exact absurd hv.symm hne
    .exact absurd hv.symm hne
   split at hg
   .rename_i b' hb;have hN:=hlt _ hb (by intro e;cases e);rw[hb]at hr;have he:=P7 hr;have hft:f t= .bool b':=by rw[<-he,Kx.ev hN rfl]
    rw[Cw0 (Et0 ht hN hft)];cases b'<;>cases want<;>simp at hg⊢<;>first|exact hg|exact hg.symm
   .rename_i hb;have hN:=hlt _ hb (by intro e;cases e);rw[hb]at hr;simp only[B8]at hr;have hft:f t=undef:=by rw[<-hr,Kx.ev hN rfl]
    cases hg;exact Cw1 (Cw4 ht hN hft) want
   .cases hg
  .cases hg
theorem Dl0{M:Mem}{ρ:Rho}{f:Nat->Value}{g:Nat->V}{sl:Tri}{K rs:List Nat}(h:∀t,t<N->B8 M ρ (g t) (f t))(hg:∀t,D7 t rs=true->g t=gOf N sl t)(hG:Fk3 M)(x:Operand):B8 M (N5 K ρ) (dEv N sl K rs x) ((fr N f ds).eval x):=by
 cases x with
 |tmp t=>
  simp only[dEv];split
  .rename_i hm;split
   .rename_i hr;have e:=hg t hm;unfold gOf at e;by_cases ht:t<N
    .have hb:Nat.blt t N=true:=by simpa[Nat.blt_eq] using ht
     rw[Kx.ev hb rfl];refine Al9 _ hr ?_;rw[<-e];exact h t ht
    .have hb:Nat.blt t N=false:=by
      cases hb:Nat.blt t N with
      |true=>exact absurd (Ac8 hb) ht
      |false=>rfl
     simp only[G3,hb];exact C4 _
   .exact C4 _
  .exact C4 _
 |const v=>exact Bq9 v
 |func g=>simp only[dEv,G3,B8];exact .fnc g
 |global g=>
  simp only[dEv,G3];split
  .rename_i cs hgl;obtain⟨us,h1,h2⟩:=hG.d g cs hgl;simp only[B8];exact⟨g,0,us,rfl,h1,h2⟩
  .exact C4 _
theorem V1{ob:List (Nat×B9)}{K:List Nat}:∀{l:List Nat},R6 ob K l=true->∀r o,D7 r l=true->B0 ob r=some o->Aq4 K o=true
 |[],_,r,o,h,_=>by cases h
 |x::l,hc,r,o,h,ho=>by
  unfold D7 at h;unfold R6 at hc;split at h
  .rename_i hb;obtain rfl:=nB_ hb;rw[ho]at hc;simp only at hc;split at hc
   .assumption
   .cases hc
  .split at hc
   .split at hc
    .exact V1 hc r o h ho
    .cases hc
   .exact V1 hc r o h ho
theorem Ae7{R:List Nat}:∀{wr:Wr},W7 R wr=true->∀x∈N3 wr,D7 x R=true
 |[],_,x,hx=>by cases hx
 |(d,o)::wr,h,x,hx=>by
  unfold W7 at h;split at h
  .cases h
  .rename_i hd _;rcases mem_cons.1 hx with rfl|hx
   .exact hd
   .exact Ae7 h x hx
  .cases h
theorem dok{o:Oper}{K R rs:List Nat}{v:V}{wr:Wr}(hgd:gdD (dEv N q.sl K rs) q.all o=some true)(hcl:R6 q.ob K R=true)(hsub:Dz7 R K=true)(hd:Fl2 N o=true)(hk:W7 R wr=true)
 (heff:∀S wl M0 M ρ f w,Ow S wl M0 M ρ (dOb q.ob K R) w->(∀x,B8 M ρ (dEv N q.sl K rs x) ((fr N f ds).eval x))->D5 r P (fr N f ds) o.op S wl M0 M ρ (dOb q.ob K R) w v wr):
 DOk r P N ds q.all o ⟨rs,K,R,gOf N q.sl,B0 q.ob,o.dst,v,wr⟩:=by
 intro S wl M0 M ρ g ob f w ha happ KK Q hK;have hev:=fun x=>Dl0 (N:=N) (ds:=ds) (sl:=q.sl) (K:=K) ha.sl happ.1 ha.ow.gl.ok x
 have hobe:S3 K R ob=dOb q.ob K R:=by
  funext x;unfold dOb S3;split
  .rename_i hm;split
   .rename_i hmr;exact happ.2.1 x hmr
   .have:=happ.2.2 x hm;simp only at this;cases h1:ob x<;>cases h2:B0 q.ob x<;>rw[h1,h2]at this<;>first|rfl|cases this
  .rfl
 have hcl':=fun x o' (hm:D7 x R=true) (ho:ob x=some o')=>V1 hcl x o' hm ((happ.2.1 x hm).symm.trans ho)
 rw[if_pos (Cr0 (fun t=>hev (.tmp t)) hgd)];have hp:=ha.ow.part K R hcl';rw[hobe]at hp;obtain⟨d,op,ty,pos,aft,gg⟩:=o;refine heff _ _ _ _ _ f w hp hev d ty pos aft gg KK Q fun u w' ⟨M',ρ',h1,h2,h3⟩=> ?_
 rw[<-hobe]at h2;obtain⟨h4,h5,h6⟩:=ha.ow.back hcl' (Ad3 hsub) (fun x i _ _ hi=>(E9 hi).2) hk h2 h1;rw[Aq7];refine hK M' (Ar2 K ρ ρ') _ w' ⟨h5,fun t ht=> ?_⟩;cases d with
 |none=>exact B8.mono h4 _ (ha.sl t ht)
 |some d=>
  simp only[Cc5];cases hb:Nat.beq t d with
  |true=>
   obtain rfl:=nB_ hb;simp only[An2];exact B8.mono h6 _ h3
  |false=>
   simp only;rw[Cb6 _ _ (fun e=>by subst e;rw[Nat.beq_refl]at hb;cases hb)];exact B8.mono h4 _ (ha.sl t ht)
theorem Ed2{o:Oper}{rs:List Nat}(hgd:gdD (dEv N q.sl [] rs) q.all o=some false):DOk r P N ds q.all o ⟨rs,[],[],gOf N q.sl,B0 q.ob,o.dst,.un,[]⟩:=by
 intro S wl M0 M ρ g ob f w ha happ KK Q hK;have hev:=fun x=>Dl0 (N:=N) (ds:=ds) (sl:=q.sl) (K:=[]) ha.sl happ.1 ha.ow.gl.ok x
 have hw:=Cr0 (fun t=>hev (.tmp t)) hgd;rw[if_neg (by rw[hw];simp),Aq7];refine hK M ρ _ w ⟨ha.ow,fun t ht=> ?_⟩;obtain⟨d,op,ty,pos,aft,gg⟩:=o;cases d with
 |none=>exact ha.sl t ht
 |some d=>
  simp only[Cc5];cases hb:Nat.beq t d with
  |true=>
   obtain rfl:=nB_ hb;simp only[An2,B8]
  |false=>
   simp only;rw[Cb6 _ _ (fun e=>by subst e;rw[Nat.beq_refl]at hb;cases hb)];exact ha.sl t ht
theorem Cf9(h:Br5 P N q≠ .bad):∃o rest,q.rest=o::rest/\gdD (dEv N q.sl (kOf N q o) (Dv0 q.all o)) q.all o=some true/\R6 q.ob (kOf N q o) (rOf N q o (kOf N q o))=true/\Fl2 N o=true/\
 Br5 P N q=L3 P (dOb q.ob (kOf N q o) (rOf N q o (kOf N q o))) (o.dst.getD 0) o.type (dEv N q.sl (kOf N q o) (Dv0 q.all o)) o.op:=by
 unfold Br5 at h⊢;split at h
 .rename_i o rest hr;simp only at h;split at h
  .rename_i h1 h2 h3;refine⟨o,rest,hr,h1,h2,h3,?_⟩;simp only[h1,h2,h3]
  .exact absurd rfl h
 .exact absurd rfl h
theorem Dl1{v:V}{wr:Wr}{q':T9}{o:Oper}{rest:List Oper}(hr:q.rest=o::rest)(h:dGo N q v wr=some q'):W7 (rOf N q o (kOf N q o)) wr=true/\O8 q.all ⟨Dv0 q.all o,kOf N q o,rOf N q o (kOf N q o),N3 wr,Da3 (B0 q.ob) wr,o.dst⟩ q.ks.length q.ks=true/\Dz7 (rOf N q o (kOf N q o)) (kOf N q o)=true/\q'=⟨Cc4 N q.sl o.dst v,Q3 q.ob wr,q.all,rest,⟨Dv0 q.all o,kOf N q o,rOf N q o (kOf N q o),N3 wr,Da3 (B0 q.ob) wr,o.dst⟩::q.ks,q.td⟩:=by
 unfold dGo at h;rw[hr]at h;simp only at h;split at h
 .rename_i h1 h2 h3;cases h;exact⟨h1,h2,h3,rfl⟩
 .cases h
theorem Dh5{v:V}{wr:Wr}{q':T9}(hb:Br5 P N q≠ .bad)(hgo:dGo N q v wr=some q')
 (heff:∀(op:Op) (d:Nat) (ty:TypeId) (ob:Nat->Option B9) (ev:Operand->V),Br5 P N q=L3 P ob d ty ev op->∀S wl M0 M ρ f w,Ow S wl M0 M ρ ob w->(∀x,B8 M ρ (ev x) ((fr N f ds).eval x))->D5 r P (fr N f ds) op S wl M0 M ρ ob w v wr) (hk:JD r P N ds fin q'):JD r P N ds fin q:=by
 obtain⟨o,rest,hr,h1,h2,h3,h4⟩:=Cf9 hb;obtain⟨h5,h6,h7,rfl⟩:=Dl1 hr hgo;exact Bl1 hr h3 (dok h1 h2 h7 h3 h5 (heff o.op _ _ _ _ h4)) (Ae7 h5) h6 hk
theorem Ey6{q':T9}(h:Gh2 P N q=some q')(hk:JD r P N ds fin q'):JD r P N ds fin q:=by
 unfold Gh2 at h;have skip:Fb3 N q=some q'->JD r P N ds fin q:=fun h=>by
  unfold Fb3 at h;split at h
  .rename_i o rest hr;split at h
   .rename_i h1 h2 h3;cases h;exact Bl1 hr h2 (Ed2 h1) (fun x hx=>by cases hx) h3 hk
   .cases h
  .cases h
 split at h
 .rename_i v wr he;refine Dh5 (by rw[he];intro e;cases e) h (fun op d ty ob ev heq S wl M0 M ρ f w ho hev=> ?_) hk;have:=R2 (r:=r) (P:=P) (a:=fr N f ds) (op:=op) (d:=d) (ty:=ty) ho hev;rw[<-heq,he]at this;exact this
 .exact skip h
theorem G9:∀(n:Nat) {q:T9},JD r P N ds fin (N4 P N n q)->JD r P N ds fin q
 |0,_,h=>h
 |n+1,q,h=>by
  unfold N4 at h;split at h
  .rename_i c' hc;exact Ey6 hc (G9 n h)
  .exact h
def Fb7(P:Program)(N:Nat)(q:T9):Option (Option (List Dat)):=match Br5 P N q with| .opt1 o _=>some o|_=>none
def Fb8(P:Program)(N:Nat)(q:T9):Option (Option (List (List Dat))):=match Br5 P N q with| .opt2 o _=>some o|_=>none
def Fl1(N:Nat)(q:T9)(v:V)(wr:Wr):Bool:=match dGo N q v wr with|some _=>true|none=>false
def dgo(N:Nat)(q:T9)(v:V)(wr:Wr):T9:=match dGo N q v wr with|some q'=>q'|none=>q
theorem Cp3{v:V}{wr:Wr}(h:Fl1 N q v wr=true):dGo N q v wr=some (dgo N q v wr):=by
 unfold Fl1 at h;unfold dgo;split at h
 .rename_i hq;rw[hq]
 .cases h
def Gi5(P:Program)(N:Nat)(q:T9)(x:List Dat):Bool:=match Br5 P N q with| .opt1 _ k=>Fl1 N q (k x).1 (k x).2|_=>false
def Fb9(P:Program)(N:Nat)(q:T9)(x:List Dat):T9:=match Br5 P N q with| .opt1 _ k=>dgo N q (k x).1 (k x).2|_=>q
def Gi6(P:Program)(N:Nat)(q:T9)(x:List (List Dat)):Bool:=match Br5 P N q with| .opt2 _ k=>Fl1 N q (k x).1 (k x).2|_=>false
def Fc0(P:Program)(N:Nat)(q:T9)(x:List (List Dat)):T9:=match Br5 P N q with| .opt2 _ k=>dgo N q (k x).1 (k x).2|_=>q
theorem H8{o:Option (List Dat)}(x:List Dat)(ho:Fb7 P N q=some o)(hb:Gi5 P N q x=true)(hx:o=some x)(hk:JD r P N ds fin (Fb9 P N q x)):JD r P N ds fin q:=by
 unfold Fb7 at ho;unfold Gi5 at hb;unfold Fb9 at hk;split at ho
 .rename_i o' k he;cases ho;rw[he]at hb hk;refine Dh5 (by rw[he];intro e;cases e) (Cp3 hb) (fun op d ty ob ev heq S wl M0 M ρ f w ho hev=> ?_) hk;have:=R2 (r:=r) (P:=P) (a:=fr N f ds) (op:=op) (d:=d) (ty:=ty) ho hev;rw[<-heq,he]at this;exact this x hx
 .cases ho
theorem Bl2{o:Option (List (List Dat))}(x:List (List Dat))(ho:Fb8 P N q=some o)(hb:Gi6 P N q x=true)(hx:o=some x)(hk:JD r P N ds fin (Fc0 P N q x)):JD r P N ds fin q:=by
 unfold Fb8 at ho;unfold Gi6 at hb;unfold Fc0 at hk;split at ho
 .rename_i o' k he;cases ho;rw[he]at hb hk;refine Dh5 (by rw[he];intro e;cases e) (Cp3 hb) (fun op d ty ob ev heq S wl M0 M ρ f w ho hev=> ?_) hk;have:=R2 (r:=r) (P:=P) (a:=fr N f ds) (op:=op) (d:=d) (ty:=ty) ho hev;rw[<-heq,he]at this;exact this x hx
 .cases ho
def Ag1(N:Nat)(q:T9):Nat->Option B9:=match q.rest with|o::_=>dOb q.ob (kOf N q o) (rOf N q o (kOf N q o))|[]=>fun _=>none
def Ec9(P:Program)(N:Nat)(q:T9):Option (FuncId×List V):=match Br5 P N q with
 | .call g args=>match M7 (Ag1 N q) args with
   |some (xs,_)=>some (g,xs)
   |none=>none
 |_=>none
def Gc3(P:Program)(N:Nat)(q:T9)(v:V):Bool:=match Br5 P N q with
 | .call _ args=>match M7 (Ag1 N q) args with
   |some (_,wr)=>Fl1 N q v wr
   |none=>false
 |_=>false
def Ed4(P:Program)(N:Nat)(q:T9)(v:V):T9:=match Br5 P N q with
 | .call _ args=>match M7 (Ag1 N q) args with
   |some (_,wr)=>dgo N q v wr
   |none=>q
 |_=>q
theorem Eb3{g:FuncId}{xs:List V}(ys:List V)(v:V)(hc:Ec9 P N q=some (g,xs))(hb:Gc3 P N q v=true)(he:G7 P g)(hre:R1 xs ys)(hcall:C1 P g ys v)(hk:JD r P N ds fin (Ed4 P N q v)):JD r P N ds fin q:=by
 unfold Ec9 at hc;unfold Gc3 at hb;unfold Ed4 at hk;split at hc
 .rename_i g' args hev;split at hc
  .rename_i xs' wr hargs;cases hc;rw[hev]at hb hk;simp only[hargs]at hb hk;obtain⟨o,rest,hr,h1,h2,h3,h4⟩:=Cf9 (P:=P) (N:=N) (q:=q) (by rw[hev];intro e;cases e);obtain⟨h5,h6,h8,h7⟩:=Dl1 hr (Cp3 hb);rw[h7]at hk;refine Bl1 hr h3 (dok h1 h2 h8 h3 h5 (fun S wl M0 M ρ f w ho hev'=> ?_)) (Ae7 h5) h6 hk;have hob:Ag1 N q=dOb q.ob (kOf N q o) (rOf N q o (kOf N q o)):=by unfold Ag1;rw[hr]
   rw[hob]at hargs;rw[h4]at hev;obtain⟨vals,h1,h2⟩:=Bm3 (r:=r) (w:=w) hev hev' he;obtain⟨M1,r1,o1,d1⟩:=F1 ho h1 hargs;refine h2 _ _ (hcall M1 w vals o1.sits o1.gla (hre.rel (d1 noR))) ?_
   rintro e w' ⟨u,M2,rfl,hext,hv⟩
   obtain⟨h3,h4⟩:=o1.call hext;exact⟨u,rfl,M2,ρ,r1.trans h3,h4,Ct3 hv⟩
  .cases hc
 .cases hc
def Dz5(q:T9)(t:Nat)(v:V):T9:=⟨q.sl.set 10 t v,q.ob,q.all,q.rest,q.ks,q.td⟩
theorem Cn1(t:Nat){b v:Bool}(h:b=v)(hb:G3 N q.sl (.tmp t)= .d (.bool b))(hk:JD r P N ds fin (Dz5 q t (.d (.bool v)))):JD r P N ds fin q:=by
 subst h;have hlt:Nat.blt t N=true:=by
  simp only[G3]at hb;split at hb
  .assumption
  .cases hb
 refine⟨hk.1,fun hok=> ?_⟩;obtain⟨Δ,c,h1,h2,h3,h4,h5,h6⟩:=hk.2 (Tri.set_ok _ _ _ _ hok);refine⟨Δ,c,h1,h2,h3,?_,h5,h6⟩;have e:gOf N (Dz5 q t (.d (.bool b))).sl=gOf N q.sl:=by
  funext s;by_cases hs:s=t
  .subst hs;unfold gOf;rw[hb];simp only[G3,hlt,Dz5,Tri.get_set_same]
  .unfold gOf;simp only[G3,Dz5];split
   .rename_i hsN;have h1:=Ac8 hsN;have h2:=Ac8 hlt;have:=hk.1;rw[Tri.get_set_ne _ _ _ _ _ hok (by omega) (by omega) (fun e=>hs e.symm)]
   .rfl
 rw[e]at h4;exact h4
theorem Ey7(t:Nat){b:Bool}(hb:G3 N q.sl (.tmp t)= .d (.bool b))(ht:b=true->JD r P N ds fin (Dz5 q t (.d (.bool true))))(hf:b=false->JD r P N ds fin (Dz5 q t (.d (.bool false)))):JD r P N ds fin q:=by
 cases b with
 |true=>exact Cn1 t rfl hb (ht rfl)
 |false=>exact Cn1 t rfl hb (hf rfl)
def Cn5(l:List Oper):Nat->List Oper->Bool
 |_,[]=>true
 |j,_::rest=>match Bl8 j (prd l j) with|true=>Cn5 l (j+1) rest|false=>false
def idx:Nat->List Dlt->List (Nat×Dlt)
 |_,[]=>[]
 |i,δ::Δ=>(i,δ)::idx (i+1) Δ
theorem Dp6:∀{Δ:List Dlt} {i:Nat} {g:Nat->V} {ob:Nat->Option B9} {gE:Nat->V} {obE:Nat->Option B9},Gg7 Δ g ob gE obE->Em2 (idx i Δ) g ob gE obE
 |[],_,_,_,_,_,h=>h
 |_::_,_,_,_,_,_,h=>⟨h.1,Dp6 h.2⟩
theorem Dp5:∀{Δ:List Dlt} {i:Nat},(idx i Δ).length=Δ.length
 |[],_=>rfl
 |_::_,_=>by simp only[idx,length_cons,Dp5]
theorem Bo3:∀{Δ:List Dlt} {i:Nat} {x:Nat×Dlt},x∈idx i Δ->i<=x.1/\x.1<i+Δ.length/\Δ[x.1-i]? =some x.2
 |[],_,_,h=>by cases h
 |δ::Δ,i,x,h=>by
  rcases mem_cons.1 h with rfl|h
  .simp
  .obtain⟨h1,h2,h3⟩:=Bo3 h;refine⟨by omega,by simp;omega,?_⟩;obtain⟨k,hk⟩:∃k,x.1=i+1+k:=⟨x.1-(i+1),by omega⟩
   rw[hk]at h3⊢;rw[show i+1+k-(i+1)=k by omega]at h3;rw[show i+1+k-i=k+1 by omega];exact h3
theorem Dp4:∀{Δ:List Dlt} {i j:Nat},i<=j->j<i+Δ.length->∃x∈idx i Δ,x.1=j
 |[],i,j,h1,h2=>by simp at h2;omega
 |δ::Δ,i,j,h1,h2=>by
  rcases Nat.eq_or_lt_of_le h1 with rfl|h1
  .exact⟨(i,δ),ab_,rfl⟩
  .obtain⟨x,hx,he⟩:=Dp4 (Δ:=Δ) (i:=i+1) (j:=j) h1 (by simp at h2;omega);exact⟨x,mem_cons_of_mem _ hx,he⟩
theorem Bj2:∀{Δ:List Dlt} {i:Nat},(idx i Δ).Pairwise (fun a b=>a.1<b.1)
 |[],_=>List.Pairwise.nil
 |δ::Δ,i=>pairwise_cons.2 ⟨fun x hx=>by have:=(Bo3 hx).1;simp only;omega,Bj2⟩
theorem Ac9{all:List Oper}{b:Bt1}{n:Nat}{κ:Bt1}{ks:List Bt1}:∀{A:List Bt1},O8 all b n (A++κ::ks)=true->Z5 κ b=true\/Er2 all 12 ks.length n=true
 |[],h=>by
  simp only[nil_append]at h;unfold O8 at h;split at h
  .rename_i hi;exact .inl hi
  .split at h
   .rename_i ho;exact .inr ho
   .cases h
 |a::A,h=>by
  simp only[cons_append]at h;unfold O8 at h;split at h
  .exact Ac9 h
  .split at h
   .exact Ac9 h
   .cases h
theorem Em1{all:List Oper}{κ:Bt1}{ks:List Bt1}:∀{Δ:List Dlt} {A:List Bt1},PW all (A++κ::ks) Δ->∀x∈idx (A.length+1+ks.length) Δ,Er2 all 12 ks.length x.1=true\/Z5 κ (S4 x.2)=true
 |[],_,_,x,hx=>by cases hx
 |δ::Δ,A,h,x,hx=>by
  rcases mem_cons.1 hx with rfl|hx
  .have:=Ac9 h.1;rw[show(A++κ::ks).length=A.length+1+ks.length by simp;omega]at this;exact this.symm
  .have:=Em1 (A:=S4 δ::A) (κ:=κ) (ks:=ks) h.2 x (by rw[show(S4 δ::A).length+1+ks.length=A.length+1+ks.length+1 by simp;omega];exact hx);exact this
theorem Di4{all:List Oper}:∀{Δ:List Dlt} {ks:List Bt1},PW all ks Δ->(idx ks.length Δ).Pairwise (Gn0 all 12)
 |[],_,_=>List.Pairwise.nil
 |δ::Δ,ks,h=>by
  refine pairwise_cons.2 ⟨fun x hx=> ?_,Di4 (ks:=S4 δ::ks) h.2⟩;have:=Em1 (A:=[]) (κ:=S4 δ) (ks:=ks) h.2 x (by rw[show([]:List Bt1).length+1+ks.length=ks.length+1 by simp;omega];exact hx);exact this
theorem Di3{all:List Oper}:∀{l:List Oper} {Δ:List Dlt},OkD r P N ds all l Δ->l.length=Δ.length/\∀(j:Nat) (δ:Dlt),Δ[j]? =some δ->∃o,Cs5 l j=some o/\DOk r P N ds all o δ/\WOk δ
 |[],[],_=>⟨rfl,fun j δ h=>by cases j<;>cases h⟩
 |o::l,δ::Δ,h=>by
  obtain⟨h1,h2⟩:=Di3 h.2;refine⟨by simp[h1],fun j δ' hj=> ?_⟩;cases j with
  |zero=>simp at hj;subst hj;exact⟨o,rfl,h.1.1,h.1.2⟩
  |succ j=>simp at hj;exact h2 j δ' hj
 |[],_::_,h=>h.elim
 |_::_,[],h=>h.elim
theorem Ay4{l:List Oper}:∀{rest:List Oper} {j:Nat},Cn5 l j rest=true->∀k,j<=k->k<j+rest.length->∀p∈prd l k,p<k
 |[],j,_,k,h1,h2=>by simp at h2;omega
 |_::rest,j,h,k,h1,h2=>by
  unfold Cn5 at h;split at h
  .rename_i ha;rcases Nat.eq_or_lt_of_le h1 with rfl|h1
   .exact Ad8 ha
   .exact Ay4 h k h1 (by simp at h2;omega)
  .cases h
def Dj1(c:Cfg):Option T9:=match c.td with
 | .code (.region _ ops true)::k=>match Cn5 ops.toList 0 ops.toList with
   |true=>some ⟨c.sl,c.ob,ops.toList,ops.toList,[],k⟩
   |false=>none
 |_=>none
def Dp7(c:Cfg):T9:=match Dj1 c with|some q=>q|none=>⟨c.sl,c.ob,[],[],[],[]⟩
def Dq0(c:Cfg):Bool:=match Dj1 c with|some _=>true|none=>false
theorem Fq2{c:Cfg}(hm:P.follows .mixedOrders=true)(hd:Dq0 c=true)(hk:JD r P N ds fin (Dp7 c)):J r P N ds fin c:=by
 unfold Dq0 at hd;unfold Dp7 at hk;split at hd
 .rename_i q hq;rw[hq]at hk;unfold Dj1 at hq;split at hq
  .rename_i id ops k ht;split at hq
   .rename_i hall;cases hq;refine⟨hk.1,fun S wl M0 hH M ρ f w ha=> ?_⟩;obtain⟨Δ,c',h1,h2,h3,h4,h5,h6⟩:=hk.2 ha.ok;simp only at h1 h4 h5 h6;rw[ht];simp only[Wk,Exit.then];refine Ez4 ?_;obtain⟨hlen,hget⟩:=Di3 h5;have key:=Ez8 (r:=r) (P:=P) (N:=N) (ds:=ds) (l:=ops.toList) (S:=S) (wl:=wl) (M0:=M0) (gE:=gOf N c'.sl) (obE:=B0 c'.ob) (Q:=Wk r P (fin S wl M0) k) (F:=12)
     (fun j o ho p hp=>Ay4 hall j (at_ _) (by have:=Cj4 ho;omega) p hp)
     (fun M ρ f w ha=>by
      rw[<-h1];refine h3.2 S wl M0 hH M ρ f w ⟨ha.ow,h2,fun t ht=> ?_⟩;have:=ha.sl t ht;unfold gOf at this;simp only[G3,show Nat.blt t N=true by simpa[Nat.blt_eq] using ht]at this;exact this)
     ops.size (idx 0 Δ) (Array.replicate ops.size false) M ρ (gOf N c.sl) (B0 c.ob) f w.drew (by rw[Dp5,<-hlen];simp) Bj2 (by simp)
     (fun j=>by
      constructor
      .intro hj;have:j<ops.size:=by
        rcases bc_ j ops.size with h'|h'
        .exact h'
        .simp[h']at hj
       exact Dp4 (at_ _) (by rw[<-hlen];simpa using this)
      .rintro ⟨x,hx,rfl⟩
       have:=(Bo3 hx).2.1;rw[<-hlen]at this;simp at this;simp[this])
     (fun x hx=>by
      obtain⟨_,_,h9⟩:=Bo3 hx;exact hget _ _ (by simpa using h9))
     (Di4 (ks:=[]) h6)
     (fun k o _ hl=>by
      exfalso;rcases bc_ k ops.size with h'|h'
      .simp[h']at hl
      .simp[h']at hl)
     ⟨ha.ow.drew,fun t ht=>by
      unfold gOf;simp only[G3,show Nat.blt t N=true by simpa[Nat.blt_eq] using ht];exact ha.sl t ht⟩ (Dp6 h4)
    have:=wpIn_region_any (F:=WF r) (n:=0) (id:=id) (ops:=ops) hm key;exact this
   .cases hq
  .cases hq
 .cases hd
end
end
section
def lk:List (Nat×Nat)->Nat->Option Nat
 |[],_=>none
 |(a,b)::l,r=>match Nat.beq r a with|true=>some b|false=>lk l r
def inv:List (Nat×Nat)->List (Nat×Nat)
 |[]=>[]
 |(a,b)::l=>(b,a)::inv l
def H3:List (Nat×Nat)->List Nat
 |[]=>[]
 |(a,_)::l=>a::H3 l
theorem Ba6:∀(l:List (Nat×Nat)),inv (inv l)=l
 |[]=>rfl
 |(a,b)::l=>by simp only[inv,Ba6 l]
def Fk8(p q:List (Nat×Nat)):List (Nat×Nat)->Bool
 |[]=>true
 |(a,b)::l=>match lk p a,lk q b with
  |some x,some y=>match Nat.beq x b,Nat.beq y a with|true,true=>Fk8 p q l|_,_=>false
  |_,_=>false
def bij(p:List (Nat×Nat)):Bool:=Fk8 p (inv p) p
theorem By1:∀{l:List (Nat×Nat)} {r s:Nat},lk l r=some s->(r,s)∈l
 |[],_,_,h=>by cases h
 |(a,b)::l,r,s,h=>by
  simp only[lk]at h;split at h
  .rename_i hb;cases h;rw[nB_ hb];exact ab_
  .exact mem_cons_of_mem _ (By1 h)
theorem Ba7:∀{l:List (Nat×Nat)} {r s:Nat},(r,s)∈inv l->(s,r)∈l
 |[],_,_,h=>by cases h
 |(a,b)::l,r,s,h=>by
  rcases mem_cons.1 h with e|h
  .cases e;exact ab_
  .exact mem_cons_of_mem _ (Ba7 h)
theorem W1{p q:List (Nat×Nat)}:∀{l:List (Nat×Nat)},Fk8 p q l=true->∀a b,(a,b)∈l->lk p a=some b/\lk q b=some a
 |[],_,a,b,h=>by cases h
 |(x,y)::l,h,a,b,hm=>by
  unfold Fk8 at h;split at h
  .rename_i u v h1 h2;split at h
   .rename_i h3 h4;rcases mem_cons.1 hm with e|hm
    .cases e;rw[nB_ h3]at h1;rw[nB_ h4]at h2;exact⟨h1,h2⟩
    .exact W1 h a b hm
   .cases h
  .cases h
theorem Fs5{p:List (Nat×Nat)}(h:bij p=true){a b:Nat}(hl:lk p a=some b):lk (inv p) b=some a:=(W1 h a b (By1 hl)).2
theorem Af9{p:List (Nat×Nat)}(h:bij p=true){a b:Nat}(hl:lk (inv p) b=some a):lk p a=some b:=(W1 h a b (Ba7 (By1 hl))).1
section
variable (p:List (Nat×Nat))
mutual
def Av7:V->V
 | .ptr r k=>match lk p r with|some s=> .ptr s k|none=> .undef
 | .suf r g off=>match lk p r with|some s=> .suf s g off|none=> .undef
 | .osl r g off len=>match lk p r with|some s=> .osl s g off len|none=> .undef
 | .ept r g j k=>match lk p r with|some s=> .ept s g j k|none=> .undef
 | .mp r=>match lk p r with|some s=> .mp s|none=> .undef
 | .yl r=>match lk p r with|some s=> .yl s|none=> .undef
 | .fn f a b=> .fn f (Au0 a) (Au0 b)
 | .agg cs=> .agg (Au0 cs)
 | .tup vs=> .tup (Au0 vs)
 | .d x=> .d x
 | .rp cs k=> .rp cs k
 | .esl n=> .esl n
 | .undef=> .undef
 | .un=> .un
def Au0:List V->List V
 |[]=>[]
 |v::l=>Av7 v::Au0 l
end
def Ct4:B9->B9
 | .box te cs=> .box te (Au0 p cs)
 | .fzb cs=> .fzb (Au0 p cs)
 | .tree g e sz shs es h=> .tree g e sz shs es (match h with|none=>none|some (k,cs)=>some (k,Au0 p cs))
 |o=>o
def Ar5(ρ:Rho):Rho:=fun s=>match lk (inv p) s with|some r=>ρ r|none=>none
def V6(ob:Nat->Option B9):Nat->Option B9:=fun s=>match lk (inv p) s with|some r=>(match ob r with|some o=>some (Ct4 p o)|none=>none)|none=>none
end
theorem Ad2{p:List (Nat×Nat)}{ρ:Rho}{r s:Nat}(hb:bij p=true)(h:lk p r=some s):Ar5 p ρ s=ρ r:=by simp only[Ar5,Fs5 hb h]
section
variable {p:List (Nat×Nat)} {M:Mem} {ρ:Rho}
mutual
theorem Bq1(hb:bij p=true):∀(v:V) {u:Value},B8 M ρ v u->B8 M (Ar5 p ρ) (Av7 p v) u
 | .ptr r k,u,hv=>by
   simp only[Av7];split
   .rename_i s hs;simp only[B8,Ad2 hb hs]at hv⊢;exact hv
   .exact C4 _
 | .suf r g off,u,hv=>by
   simp only[Av7];split
   .rename_i s hs;simp only[B8,Ad2 hb hs]at hv⊢;exact hv
   .exact C4 _
 | .osl r g off len,u,hv=>by
   simp only[Av7];split
   .rename_i s hs;simp only[B8,Ad2 hb hs]at hv⊢;exact hv
   .exact C4 _
 | .ept r g j k,u,hv=>by
   simp only[Av7];split
   .rename_i s hs;simp only[B8,Ad2 hb hs]at hv⊢;exact hv
   .exact C4 _
 | .mp r,u,hv=>by
   simp only[Av7];split
   .rename_i s hs;simp only[B8,Ad2 hb hs]at hv⊢;exact hv
   .exact C4 _
 | .yl r,u,hv=>by
   simp only[Av7];split
   .rename_i s hs;simp only[B8,Ad2 hb hs]at hv⊢;exact hv
   .exact C4 _
 | .fn f a b,u,hv=>by
   simp only[Av7,B8]at hv⊢;obtain⟨fs,cs,e,h1,h2⟩:=hv;exact⟨fs,cs,e,P1 hb a h1,P1 hb b h2⟩
 | .agg cs,u,hv=>by simp only[Av7,B8]at hv⊢;obtain⟨us,e,h1⟩:=hv;exact⟨us,e,P1 hb cs h1⟩
 | .tup cs,u,hv=>by simp only[Av7,B8]at hv⊢;obtain⟨us,e,h1⟩:=hv;exact⟨us,e,P1 hb cs h1⟩
 | .d x,u,hv=>by simp only[Av7,B8]at hv⊢;exact hv
 | .rp cs k,u,hv=>by simp only[Av7,B8]at hv⊢;exact hv
 | .esl n,u,hv=>by simp only[Av7,B8]at hv⊢;exact hv
 | .undef,u,_=>by simp only[Av7];exact C4 _
 | .un,u,hv=>by simp only[Av7,B8]at hv⊢;exact hv
theorem P1(hb:bij p=true):∀(vs:List V) {us:List Value},B2 M ρ vs us->B2 M (Ar5 p ρ) (Au0 p vs) us
 |[],us,hv=>by simp only[Au0,B2]at hv⊢;exact hv
 |v::l,us,hv=>by
  simp only[Au0,B2]at hv⊢;obtain⟨u,us',e,h1,h2⟩:=hv;exact⟨u,us',e,Bq1 hb v h1,P1 hb l h2⟩
end
end
section
variable {s:Nat->Prop} {r0 r1:Rho} {wl w:World} {M0 M:Mem} {ρ:Rho} {ob:Nat->Option B9} {p:List (Nat×Nat)}
def Bx4:B9->Bool
 | .frn _=>true
 |_=>false
theorem Eh6{o:B9}:Bx4 (Ct4 p o)=Bx4 o:=by cases o<;>rfl
theorem Du4{i:Inf}{o:B9}:Aj1 i (Ct4 p o)=Aj1 i o:=by cases o<;>rfl
theorem Bq0{i:Inf}{o:B9}{b:Nat}(h:blk i (Ct4 p o) b):blk i o b:=H9 rfl rfl (by cases o<;>rfl) (by rw[Du4];exact id) h
theorem Ae9{t:Nat}{o':B9}(h:V6 p ob t=some o'):∃r o,lk (inv p) t=some r/\ob r=some o/\o'=Ct4 p o:=by
 unfold V6 at h;split at h
 .rename_i r hr;split at h
  .rename_i o ho;cases h;exact⟨r,o,hr,ho,rfl⟩
  .cases h
 .cases h
theorem Ow.ren(h:Ow ⟨s,r0⟩ wl M0 M ρ ob w)(hb:bij p=true)(hnf:∀r o t,lk p r=some t->ob r=some o->Bx4 o=false)(hh:∀t i,Nat.ble 2000 t=true->r1 t=some i->∃i',Ar5 p ρ t=some i'/\Ile i i'):Ow ⟨s,r1⟩ wl M0 M (Ar5 p ρ) (V6 p ob) w:=by
 refine⟨h.size,h.os,h.tape,h.output,h.old,h.sits,h.le,h.gl,h.new,fun t o' ho=> ?_,fun t i hi=> ?_,fun t t' o o' i i' b h1 h2 h3 h4 l1 l2=> ?_,hh⟩
 .obtain⟨r,o,h1,h2',rfl⟩:=Ae9 ho;obtain⟨i,hi,hok⟩:=h.own r o h2';refine⟨i,by simp only[Ar5,h1];exact hi,?_⟩;cases o with
  |box te cs=>
   obtain⟨h0,hm,us,e,h2,h3,h4⟩:=hok;exact⟨h0,hm,us,e,h2,P1 hb cs h3,h4⟩
  |tree g e sz shs es hh=>
   obtain⟨a1,a2,a3,a4,a5,a6,a7,a8,a9,a10⟩:=hok;refine⟨a1,a2,a3,a4,a5,a6,a7,a8,a9,fun hp=> ?_⟩;obtain⟨b1,b2,pre,us,sp,b3,b4,b5,b6⟩:=a10 hp;refine⟨b1,b2,pre,us,sp,b3,b4,b5,b6.mono (fun j x u b _ k=> ?_)⟩;unfold R5 at k⊢;split at k
   .exact k
   .exact⟨fun e=>⟨(k.1 e).1,P1 hb _ (k.1 e).2.1,(k.1 e).2.2⟩,k.2⟩
  |buf g e sz es=>exact hok
  |fzs g sz es=>exact hok
  |fzb cs=>
   obtain⟨h0,c0,us,h1,hP,h2,h3⟩:=hok;exact⟨h0,c0,us,h1,hP,P1 hb cs h2,h3⟩
  |mapo kk ag sz es=>exact hok
  |raw b x=>exact hok
  |frn q=>have:=hnf r _ t (Af9 hb h1) h2';cases this
 .unfold Ar5 at hi;split at hi
  .rename_i r hr;obtain⟨o,ho⟩:=h.dom r i hi;exact⟨Ct4 p o,by simp only[V6,hr,ho]⟩
  .cases hi
 .obtain⟨r,x,a1,a2,rfl⟩:=Ae9 h1;obtain⟨r',x',b1,b2,rfl⟩:=Ae9 h2;simp only[Ar5,a1]at h3;simp only[Ar5,b1]at h4;obtain rfl:=h.inj r r' x x' i i' b a2 b2 h3 h4 (Bq0 l1) (Bq0 l2);have e1:=Af9 hb a1;have e2:=Af9 hb b1;rw[e1]at e2;cases e2;rfl
end
def M4(P:Program)(g:FuncId)(os:List (Nat×B9))(args:List V)(H:List (Nat×B9))(v:V):Prop:=
 ∀s wl M0 M ρ w vals,Ow ⟨s,ρ⟩ wl M0 M ρ (B0 os) w->B2 M ρ args vals->Calls P g vals.toArray w (fun e w'=>∃u M' ρ',e= .returned u/\Ow ⟨s,ρ⟩ wl M0 M' ρ' (B0 H) w'/\B8 M' ρ' v u)
section
variable {r:Option Nat} {P:Program} {N:Nat} {S:L8} {wl w:World} {M0 M:Mem} {ρ:Rho} {ob:Nat->Option B9}
def Gh3(K:List Nat)(ob:Nat->Option B9)(v:V):Option (V×Wr):=match Fg2 v [] with
 |[]=>Cx7 ob v
 |_=>match Q6 K v with|true=>some (v,[])|false=>Cx7 ob v
def Cx9(K:List Nat)(ob:Nat->Option B9):List V->Option (List V×Wr)
 |[]=>some ([],[])
 |v::l=>match Gh3 K ob v with
  |some (x,wr)=>match Cx9 K (wrO ob wr) l with
   |some (xs,wr')=>some (x::xs,wr++wr')
   |none=>none
  |none=>none
theorem Cx8(h:Ow S wl M0 M ρ ob w){K:List Nat}{v x:V}{u:Value}{wr:Wr}(hv:B8 M ρ v u)(hd:Gh3 K ob v=some (x,wr)):∃M',Rle M M' ρ ρ/\Ow S wl M0 M' ρ (wrO ob wr) w/\B8 M' ρ x u:=by
 have arg:Cx7 ob v=some (x,wr)->∃M',Rle M M' ρ ρ/\Ow S wl M0 M' ρ (wrO ob wr) w/\B8 M' ρ x u:=fun hd=>by
  obtain⟨M',h1,h2,h3⟩:=F1 (vs:=[v]) (us:=[u]) (xs:=[x]) (wr:=wr) h (by simp only[B2];exact⟨u,[],rfl,hv,rfl⟩) (by simp only[M7,hd,append_nil]);have:=h3 ρ;simp only[B2]at this;obtain⟨u',us',e,h4,_⟩:=this;cases e;exact⟨M',h1,h2,h4⟩
 unfold Gh3 at hd;split at hd
 .exact arg hd
 .split at hd
  .cases hd;exact⟨M,Rle.refl _ _,h,hv⟩
  .exact arg hd
theorem Y1{K:List Nat}:∀{vs:List V} {ob:Nat->Option B9} {M:Mem} (_h:Ow S wl M0 M ρ ob w) {us:List Value} {xs:List V} {wr:Wr},B2 M ρ vs us->Cx9 K ob vs=some (xs,wr)->∃M',Rle M M' ρ ρ/\Ow S wl M0 M' ρ (wrO ob wr) w/\B2 M' ρ xs us
 |[],ob,M,h,us,xs,wr,hv,hd=>by
  simp only[Cx9,Option.some.injEq,Prod.mk.injEq]at hd;obtain⟨rfl,rfl⟩:=hd;exact⟨M,Rle.refl _ _,h,hv⟩
 |v::vs,ob,M,h,us,xs,wr,hv,hd=>by
  simp only[B2]at hv;obtain⟨u,us',rfl,h1,h2⟩:=hv;unfold Cx9 at hd;split at hd
  .rename_i x wr1 hx;split at hd
   .rename_i xs' wr2 hs;cases hd;obtain⟨M1,a1,a2,a3⟩:=Cx8 h h1 hx;obtain⟨M2,b1,b2,b3⟩:=Y1 a2 (B2.mono a1 _ h2) hs;exact⟨M2,a1.trans b1,by rw[H5];exact b2,by simp only[B2];exact⟨u,us',rfl,B8.mono b1 _ a3,b3⟩⟩
   .cases hd
  .cases hd
def Bz1(p:List (Nat×Nat))(ob:Nat->Option B9):List (Nat×Nat)->List (Nat×B9)
 |[]=>[]
 |(a,b)::l=>match ob a with|some o=>(b,Ct4 p o)::Bz1 p ob l|none=>Bz1 p ob l
theorem Cs6{p:List (Nat×Nat)}{ob:Nat->Option B9}:∀{l:List (Nat×Nat)} {t:Nat} {r:Nat},(∀a b,(a,b)∈l->lk p a=some b/\lk (inv p) b=some a)->lk (inv p) t=some r->
 (∀o,B0 (Bz1 p ob l) t=some o->∃x,ob r=some x/\o=Ct4 p x)/\((r,t)∈l->∀x,ob r=some x->B0 (Bz1 p ob l) t=some (Ct4 p x))
 |[],t,r,_,_=>⟨fun o h=>by simp[Bz1,B0]at h,fun h=>by cases h⟩
 |(a,b)::l,t,r,hl,ht=>by
  obtain⟨i1,i2⟩:=Cs6 (l:=l) (ob:=ob) (fun a b h=>hl a b (mem_cons_of_mem _ h)) ht;have hab:=hl a b ab_;have hne:Nat.beq t b=true->a=r:=fun h=>by
   obtain rfl:=nB_ h;rw[hab.2]at ht;cases ht;rfl
  constructor
  .intro o ho;unfold Bz1 at ho;split at ho
   .rename_i x hx;simp only[B0]at ho;split at ho
    .rename_i hb;cases ho;obtain rfl:=hne hb;exact⟨x,hx,rfl⟩
    .exact i1 o ho
   .exact i1 o ho
  .intro hm x hx;unfold Bz1;rcases mem_cons.1 hm with e|hm
   .cases e;simp only[hx,B0,Nat.beq_refl]
   .split
    .rename_i y hy;simp only[B0];split
     .rename_i hb;obtain rfl:=hne hb;rw[hx]at hy;cases hy;rfl
     .exact i2 hm x hx
    .exact i2 hm x hx
theorem Bz2{p:List (Nat×Nat)}{ob:Nat->Option B9}:∀{l:List (Nat×Nat)} {t:Nat},(∀a,(a,t)∉l)->B0 (Bz1 p ob l) t=none
 |[],_,_=>rfl
 |(a,b)::l,t,h=>by
  have ih:=Bz2 (p:=p) (ob:=ob) (l:=l) (t:=t) (fun a hm=>h a (mem_cons_of_mem _ hm));unfold Bz1;split
  .simp only[B0];split
   .rename_i hb;obtain rfl:=nB_ hb;exact absurd ab_ (h a)
   .exact ih
  .exact ih
theorem By2:∀{l:List (Nat×Nat)} {a b:Nat},(a,b)∈l->∃c,lk l a=some c
 |(x,y)::l,a,b,h=>by
  simp only[lk];split
  .exact⟨y,rfl⟩
  .rename_i hb;rcases mem_cons.1 h with e|h
   .cases e;rw[Nat.beq_refl]at hb;cases hb
   .exact By2 h
theorem Cr3:∀{l:List (Nat×Nat)} {r s:Nat},(r,s)∈l->(s,r)∈inv l
 |(a,b)::l,r,s,h=>by
  rcases mem_cons.1 h with e|h
  .cases e;exact ab_
  .exact mem_cons_of_mem _ (Cr3 h)
theorem Cj5{p:List (Nat×Nat)}(hb:bij p=true)(ob:Nat->Option B9):B0 (Bz1 p ob p)=V6 p ob:=by
 funext t;unfold V6;split
 .rename_i r hr;obtain⟨i1,i2⟩:=Cs6 (ob:=ob) (W1 hb) hr;split
  .rename_i o ho;exact i2 (Ba7 (By1 hr)) o ho
  .rename_i ho;cases h:B0 (Bz1 p ob p) t with
   |none=>rfl
   |some x=>obtain⟨y,hy,_⟩:=i1 x h;rw[ho]at hy;cases hy
 .rename_i hr;refine Bz2 fun a hm=> ?_
  obtain⟨c,hc⟩:=By2 (Cr3 hm);rw[hr]at hc;cases hc
theorem F0{r:Nat}:∀{l:List (Nat×Nat)},D7 r (H3 l)=true↔∃s,lk l r=some s
 |[]=>by simp[H3,D7,lk]
 |(a,b)::l=>by
  simp only[H3,D7,lk];cases Nat.beq r a with
  |true=>simp
  |false=>exact F0
def Q5(p:List (Nat×Nat))(H:List (Nat×B9)):List (Nat×Nat)->Option Wr
 |[]=>some []
 |(a,b)::l=>match B0 H b,Q5 p H l with|some o,some wr=>(match Bx4 o with|true=>none|false=>some ((a,Ct4 (inv p) o)::wr))|_,_=>none
theorem Ah7{p:List (Nat×Nat)}{H:List (Nat×B9)}:∀{l:List (Nat×Nat)} {wr:Wr},Q5 p H l=some wr->N3 wr=H3 l
 |[],wr,h=>by simp only[Q5,Option.some.injEq]at h;subst h;rfl
 |(a,b)::l,wr,h=>by
  unfold Q5 at h;split at h
  .rename_i o wr' h1 h2;split at h
   .cases h
   .cases h;simp only[N3,H3,Ah7 h2]
  .cases h
theorem Co1{p:List (Nat×Nat)}{H:List (Nat×B9)}:∀{l:List (Nat×Nat)} {wr:Wr},Q5 p H l=some wr->∀a b o,(a,b)∈l->B0 H b=some o->Bx4 o=false
 |[],_,_,a,b,o,hm,_=>by cases hm
 |(x,y)::l,wr,h,a,b,o,hm,ho=>by
  unfold Q5 at h;split at h
  .rename_i o' wr' h1 h2;split at h
   .cases h
   .rename_i hf;rcases mem_cons.1 hm with e|hm
    .cases e;rw[ho]at h1;cases h1;exact hf
    .exact Co1 h2 a b o hm ho
  .cases h
theorem Bh9{p:List (Nat×Nat)}{H:List (Nat×B9)}(ob:Nat->Option B9){r s:Nat}:∀{l:List (Nat×Nat)} {wr:Wr},(∀a b,(a,b)∈l->lk p a=some b)->Q5 p H l=some wr->lk p r=some s->r∈H3 l->wrO ob wr r=(match B0 H s with|some o=>some (Ct4 (inv p) o)|none=>none)
 |[],wr,_,_,_,hm=>by cases hm
 |(a,b)::l,wr,hl,h,hr,hm=>by
  unfold Q5 at h;split at h
  .rename_i o wr' h1 h2;split at h
   .cases h
   cases h;simp only[wrO];by_cases hin:r∈H3 l
   .rw[<-Bh9 (H6 ob a (Ct4 (inv p) o)) (fun a b h=>hl a b (mem_cons_of_mem _ h)) h2 hr hin]
   .rw[O6 (by rw[Ah7 h2];exact hin)];rcases mem_cons.1 hm with rfl|hm
    .have:=hl r b ab_;rw[hr]at this;cases this;rw[B3,h1]
    .exact absurd hm hin
  .cases h
def Cn3:List (Nat×Nat)->Bool
 |[]=>true
 |(_,b)::l=>match Nat.ble 2000 b with|true=>Cn3 l|false=>false
theorem Ay2:∀{l:List (Nat×Nat)} {r s:Nat},Cn3 l=true->lk l r=some s->Nat.ble 2000 s=true
 |[],_,_,_,h=>by cases h
 |(a,b)::l,r,s,hb,h=>by
  unfold Cn3 at hb;simp only[lk]at h;split at hb
  .rename_i h1;split at h
   .cases h;exact h1
   .exact Ay2 hb h
  .cases hb
def V4:Wr->Bool
 |[]=>true
 |(_,o)::l=>match Bx4 o with|true=>false|false=>V4 l
theorem Bu1{p:List (Nat×Nat)}{H:List (Nat×B9)}:∀{l:List (Nat×Nat)} {wr:Wr},Q5 p H l=some wr->V4 wr=true
 |[],wr,h=>by simp only[Q5,Option.some.injEq]at h;subst h;rfl
 |(a,b)::l,wr,h=>by
  unfold Q5 at h;split at h
  .rename_i o wr' h1 h2;split at h
   .cases h
   .rename_i hf;cases h;unfold V4;rw[Eh6,hf];exact Bu1 h2
  .cases h
theorem Bx8{K:List Nat}:∀{wr:Wr},V4 wr=true->(∀x∈N3 wr,D7 x K=true)->W7 K wr=true
 |[],_,_=>rfl
 |(d,o)::wr,hn,h=>by
  unfold V4 at hn;unfold W7;rw[h d ab_];split at hn
  .cases hn
  .rename_i hf;cases o<;>first|(cases hf;done)|exact Bx8 hn fun x hx=>h x (mem_cons_of_mem _ hx)
def J8(ob:Nat->Option B9)(K:List Nat):List Nat->Bool
 |[]=>true
 |r::l=>match ob r with
  |some o=>match Aq4 K o with|true=>J8 ob K l|false=>false
  |none=>J8 ob K l
theorem E6{ob:Nat->Option B9}{K:List Nat}:∀{l:List Nat},J8 ob K l=true->∀r o,D7 r l=true->ob r=some o->Aq4 K o=true
 |[],_,r,o,h,_=>by cases h
 |x::l,hc,r,o,h,ho=>by
  unfold D7 at h;unfold J8 at hc;split at h
  .rename_i hb;obtain rfl:=nB_ hb;rw[ho]at hc;simp only at hc;split at hc
   .assumption
   .cases hc
  .split at hc
   .split at hc
    .exact E6 hc r o h ho
    .cases hc
   .exact E6 hc r o h ho
def Al0(ob:Nat->Option B9)(p:List (Nat×Nat))(args:List V):Option (List (Nat×B9)×List V×Wr):=match Cx9 (H3 p) ob args,bij p,Cn3 p with
 |some (xs,wr),true,true=>match J8 (wrO ob wr) (H3 p) (H3 p) with
  |true=>some (Bz1 p (wrO ob wr) p,Au0 p xs,wr)
  |false=>none
 |_,_,_=>none
theorem Bu4{a:Act}{w:World}{op:Op}{d:Nat}{ty:TypeId}{ev:Operand->V}{g:FuncId}{args xs ys:List V}{p:List (Nat×Nat)}{os H:List (Nat×B9)}{v:V}{wr bk:Wr}(ho:Ow S wl M0 M ρ ob w)(hev:∀x,B8 M ρ (ev x) (a.eval x))(hc:L3 P ob d ty ev op= .call g args)(he:G7 P g)
 (hh:Al0 ob p args=some (os,xs,wr)) (hre:R1 xs ys) (hcall:M4 P g os ys H v) (hbk:Q5 p H p=some bk):D5 r P a op S wl M0 M ρ ob w (Av7 (inv p) v) (wr++bk):=by
 obtain⟨vals,h1,h2⟩:=Bm3 (r:=r) (w:=w) hc hev he;unfold Al0 at hh;split at hh
 .rename_i xs0 wr0 hargs hbij hbig;split at hh
  .rename_i hcl;cases hh;obtain⟨M1,r1,o1,d1⟩:=Y1 ho h1 hargs;have hp:=o1.part (H3 p) (H3 p) (fun x o hm hx=>E6 hcl x o hm hx);have eR:Ar5 p (N5 (H3 p) ρ)=Ar5 p ρ:=by
    funext t;unfold Ar5;split
    .rename_i q hq;exact F3 (F0.2 ⟨t,Af9 hbij hq⟩)
    .rfl
   have eO:V6 p (S3 (H3 p) (H3 p) (wrO ob wr))=V6 p (wrO ob wr):=by
    funext t;unfold V6;split
    .rename_i q hq;rw[O7 (F0.2 ⟨t,Af9 hbij hq⟩) (F0.2 ⟨t,Af9 hbij hq⟩)]
    .rfl
   have hq:=hp.ren (r1:=Ar5 p ρ) hbij (fun q o t hq ho=>by
    have hm:=F0.2 ⟨t,hq⟩;rw[O7 hm hm]at ho;have:=E6 hcl q o hm ho;cases o<;>first|rfl|cases this) (fun t i _ hi=>⟨i,by rw[eR];exact hi,Ile.refl i⟩)
   rw[eR,eO,<-Cj5 hbij]at hq;refine h2 _ _ (hcall _ _ _ _ _ w vals hq (hre.rel (P1 hbij _ d1))) ?_
   rintro e w' ⟨u,M2,ρ2,rfl,hE,hv⟩
   have hbi:bij (inv p)=true:=by
    have:∀{l:List (Nat×Nat)},(∀a b,(a,b)∈l->lk (inv p) a=some b/\lk p b=some a)->Fk8 (inv p) p l=true:=fun{l} hl=>by
     induction l with
     |nil=>rfl
     |cons x l ih=>
      obtain⟨a,b⟩:=x;obtain⟨q1,q2⟩:=hl a b ab_;unfold Fk8;simp only[q1,q2,Nat.beq_refl];exact ih fun a b h=>hl a b (mem_cons_of_mem _ h)
    unfold bij;rw[Ba6];exact this fun a b hm=>by
     obtain⟨q1,q2⟩:=W1 hbij b a (Ba7 hm);exact⟨q2,q1⟩
   have hB:=hE.ren (r1:=noR) hbi (fun q o t hq ho=>Co1 hbk t q o (Ba7 (By1 hq)) ho) (fun t i _ hi=>by cases hi);have hkeys:∀x,D7 x (H3 p)=true↔x∈N3 bk:=fun x=>by rw[Ah7 hbk];exact⟨W9,Bp2⟩
   have eB:V6 (inv p) (B0 H)=wrO (S3 (H3 p) (H3 p) (wrO ob wr)) bk:=by
    funext x;cases hm:D7 x (H3 p) with
    |true=>
     obtain⟨t,ht⟩:=F0.1 hm;rw[Bh9 _ (fun a b h=>(W1 hbij a b h).1) hbk ht (W9 hm)];unfold V6;rw[Ba6,ht]
    |false=>
     rw[O6 (fun hx=>by rw[(hkeys x).2 hx]at hm;cases hm)];have:lk p x=none:=by
      cases hl:lk p x with
      |none=>rfl
      |some t=>rw[F0.2 ⟨t,hl⟩]at hm;cases hm
     unfold V6 S3;rw[Ba6,this,hm]
   rw[eB]at hB;have hR:Rle M1 M2 (N5 (H3 p) ρ) (Ar5 (inv p) ρ2):=⟨hE.le,fun x i hi=>by
    obtain⟨hm,hi⟩:=E9 hi;obtain⟨t,ht⟩:=F0.1 hm;obtain⟨i',h3,h4⟩:=hE.held t i (Ay2 hbig ht) (by show Ar5 p ρ t=some i;rw[Ad2 hbij ht];exact hi);refine⟨i',?_,h4⟩;unfold Ar5;rw[Ba6,ht];exact h3⟩
   obtain⟨b1,b2,b3⟩:=o1.back (fun x o hm hx=>E6 hcl x o hm hx) (fun _ h=>h) (fun _ _ h h'=>by rw[h]at h';cases h') (Bx8 (Bu1 hbk) fun x hx=>(hkeys x).2 hx) hB hR;exact⟨u,rfl,M2,_,r1.trans b1,by rw[H5];exact b2,B8.mono b3 _ (Bq1 hbi _ hv)⟩
  .cases hh
 .cases hh
end
section
variable {r:Option Nat} {P:Program} {N:Nat} {ds:List Deferred} {fin:Fin} {c:Cfg} {q:T9}
def Cf4(P:Program)(N:Nat)(c:Cfg)(p:List (Nat×Nat)):Option (FuncId×List (Nat×B9)×List V):=match Af3 P N c with
 | .call g args=>match Al0 (B0 c.ob) p args with
   |some (os,xs,_)=>some (g,os,xs)
   |none=>none
 |_=>none
def okR(P:Program)(N:Nat)(c:Cfg)(p:List (Nat×Nat))(H:List (Nat×B9)):Bool:=match Af3 P N c,Q5 p H p with
 | .call _ _,some _=>true
 |_,_=>false
def Gl1(P:Program)(N:Nat)(c:Cfg)(p:List (Nat×Nat))(H:List (Nat×B9))(v:V):Cfg:=match Af3 P N c with
 | .call _ args=>match Al0 (B0 c.ob) p args,Q5 p H p with
   |some (_,_,wr),some bk=>after N c (Av7 (inv p) v) (wr++bk)
   |_,_=>c
 |_=>c
theorem Ey9{g:FuncId}{os:List (Nat×B9)}{xs:List V}(p:List (Nat×Nat))(ys:List V)(H:List (Nat×B9))(v:V)(hc:Cf4 P N c p=some (g,os,xs))(hb:okR P N c p H=true)(he:G7 P g)(hre:R1 xs ys)(hcall:M4 P g os ys H v)(hk:J r P N ds fin (Gl1 P N c p H v)):J r P N ds fin c:=by
 unfold Cf4 at hc;split at hc
 .rename_i g' args hev;split at hc
  .rename_i os' xs' wr hh;cases hc;unfold okR at hb;rw[hev]at hb;split at hb
   .rename_i bk _ hbk;obtain⟨op,all,rest,k',ht,hg⟩:=Ak5 (P:=P) (N:=N) (c:=c) (by rw[hev];intro e;cases e);unfold Gl1 at hk;rw[hev]at hk;simp only[hh,hbk,Ad7 ht]at hk;refine Cx2 ht hg (fun S wl M0 M ρ f w ha=> ?_) hk;rw[Ab8 ht hg]at hev;exact Bu4 ha.ow (G1 (ds:=ds) ha) hev he hh hre hcall hbk
   .cases hb
  .cases hc
 .cases hc
def Dl2(P:Program)(N:Nat)(q:T9)(p:List (Nat×Nat)):Option (FuncId×List (Nat×B9)×List V):=match Br5 P N q with
 | .call g args=>match Al0 (Ag1 N q) p args with
   |some (os,xs,_)=>some (g,os,xs)
   |none=>none
 |_=>none
def Gi7(P:Program)(N:Nat)(q:T9)(p:List (Nat×Nat))(H:List (Nat×B9))(v:V):Bool:=match Br5 P N q with
 | .call _ args=>match Al0 (Ag1 N q) p args,Q5 p H p with
   |some (_,_,wr),some bk=>Fl1 N q (Av7 (inv p) v) (wr++bk)
   |_,_=>false
 |_=>false
def Fc1(P:Program)(N:Nat)(q:T9)(p:List (Nat×Nat))(H:List (Nat×B9))(v:V):T9:=match Br5 P N q with
 | .call _ args=>match Al0 (Ag1 N q) p args,Q5 p H p with
   |some (_,_,wr),some bk=>dgo N q (Av7 (inv p) v) (wr++bk)
   |_,_=>q
 |_=>q
theorem Eb4{g:FuncId}{os:List (Nat×B9)}{xs:List V}(p:List (Nat×Nat))(ys:List V)(H:List (Nat×B9))(v:V)(hc:Dl2 P N q p=some (g,os,xs))(hb:Gi7 P N q p H v=true)(he:G7 P g)(hre:R1 xs ys)(hcall:M4 P g os ys H v)(hk:JD r P N ds fin (Fc1 P N q p H v)):JD r P N ds fin q:=by
 unfold Dl2 at hc;split at hc
 .rename_i g' args hev;split at hc
  .rename_i os' xs' wr hh;cases hc;unfold Gi7 at hb;unfold Fc1 at hk;rw[hev]at hb hk;simp only[hh]at hb hk;split at hb
   .rename_i os2 xs2 wr2 bk hh2 hbk;cases hh2;simp only[hbk]at hk;obtain⟨o,rest,hr,h1,h2,h3,h4⟩:=Cf9 (P:=P) (N:=N) (q:=q) (by rw[hev];intro e;cases e);obtain⟨h5,h6,h8,h7⟩:=Dl1 hr (Cp3 hb);rw[h7]at hk;refine Bl1 hr h3 (dok h1 h2 h8 h3 h5 (fun S wl M0 M ρ f w ho hev'=> ?_)) (Ae7 h5) h6 hk;have hob:Ag1 N q=dOb q.ob (kOf N q o) (rOf N q o (kOf N q o)):=by unfold Ag1;rw[hr]
    rw[hob]at hh;rw[h4]at hev;exact Bu4 ho hev' hev he hh hre hcall hbk
   .cases hb
  .cases hc
 .cases hc
def L4:List (Nat×B9)->List (Nat×B9)
 |[]=>[]
 |(r,o)::l=>match Nat.ble 2000 r with|true=>(r,o)::L4 l|false=>L4 l
theorem Ac2:∀(l:List (Nat×B9)) (r:Nat),B0 (L4 l) r=match Nat.ble 2000 r with|true=>B0 l r|false=>none
 |[],r=>by simp only[L4,B0];split<;>rfl
 |(q,o)::l,r=>by
  have ih:=Ac2 l r;unfold L4;split
  .rename_i hq;simp only[B0];cases hb:Nat.beq r q with
   |true=>
    obtain rfl:=nB_ hb;simp only[hq]
   |false=>exact ih
  .rename_i hq;rw[ih];cases hr:Nat.ble 2000 r with
   |false=>rfl
   |true=>
    simp only[B0];cases hb:Nat.beq r q with
    |true=>
     obtain rfl:=nB_ hb;rw[hr]at hq;cases hq
    |false=>rfl
def F8:List (Nat×B9)->List Nat
 |[]=>[]
 |(r,_)::l=>r::F8 l
theorem I4:∀{l:List (Nat×B9)} {r:Nat},D7 r (F8 l)=true↔∃o,B0 l r=some o
 |[],r=>by simp[F8,D7,B0]
 |(q,o)::l,r=>by
  simp only[F8,D7,B0];cases Nat.beq r q with
  |true=>simp
  |false=>exact I4
theorem Ow.onlyH{S:L8}{wl w:World}{M0 M:Mem}{ρ:Rho}{l:List (Nat×B9)}(h:Ow S wl M0 M ρ (B0 l) w)(hc:J8 (B0 l) (F8 (L4 l)) (F8 (L4 l))=true):Ow S wl M0 M (N5 (F8 (L4 l)) ρ) (B0 (L4 l)) w:=by
 have e:B0 (L4 l)=S3 (F8 (L4 l)) (F8 (L4 l)) (B0 l):=by
  funext r;cases hm:D7 r (F8 (L4 l)) with
  |true=>
   rw[O7 hm hm];obtain⟨o,ho⟩:=I4.1 hm;rw[ho];rw[Ac2]at ho;split at ho
   .exact ho.symm
   .cases ho
  |false=>
   simp only[S3,hm];cases ho:B0 (L4 l) r with
   |none=>rfl
   |some o=>rw[I4.2 ⟨o,ho⟩]at hm;cases hm
 rw[e];refine⟨h.size,h.os,h.tape,h.output,h.old,h.sits,h.le,h.gl,h.new,fun r o hr=> ?_,fun r i hi=> ?_,fun r r' o o' i i' b h1 h2 h3 h4 l1 l2=>h.inj r r' o o' i i' b (Ae4 h1 l1).2 (Ae4 h2 l2).2 (E9 h3).2 (E9 h4).2 l1 l2,fun r i hb hi=> ?_⟩
 .obtain⟨hm,⟨_,ho⟩|⟨hn,_⟩⟩:=Ae5 hr
  rotate_left
  .rw[hm]at hn;cases hn
  obtain⟨i,hi,hok⟩:=h.own r o ho;refine⟨i,by rw[F3 hm];exact hi,?_⟩;have hcl:=E6 hc r o hm ho;cases o with
  |box te cs=>
   obtain⟨h0,h1,us,e,h2,h3,h4⟩:=hok;exact⟨h0,h1,us,e,h2,I5 cs hcl h3,h4⟩
  |tree g e sz shs es hh=>exact J0.tree hok (fun b hb=>(E0 hok hb).1) (fun k cs e us hus=>by subst e;exact I5 cs hcl hus)
  |buf g e sz es=>exact hok
  |fzs g sz es=>exact hok
  |fzb cs=>
   obtain⟨h0,c0,us,h1,hP,h2,h3⟩:=hok;exact⟨h0,c0,us,h1,hP,I5 cs hcl h2,h3⟩
  |mapo kk ag sz es=>exact hok
  |raw b x=>exact hok
  |frn q=>cases hcl
 .obtain⟨hm,hi⟩:=E9 hi;obtain⟨o,ho⟩:=h.dom r i hi;exact⟨o,by rw[O7 hm hm];exact ho⟩
 .obtain⟨i',h1,h2⟩:=h.held r i hb hi;obtain⟨o,ho⟩:=h.dom r i' h1;have hm:D7 r (F8 (L4 l))=true:=I4.2 ⟨o,by rw[Ac2,hb];exact ho⟩;exact⟨i',by rw[F3 hm];exact h1,h2⟩
def Do2(P:Program)(fn:Func)(H:List (Nat×B9))(v:V):Fin:= .mk (fun _ _ _=>True) fun S wl M0 e a w=>bodyPost P fn (fun e w'=>∃u M' ρ',e= .returned u/\Ow S wl M0 M' ρ' (B0 H) w'/\B8 M' ρ' v u) e a w
def Ca0(P:Program)(N:Nat)(c:Cfg)(rs:List ResultVar):Option (List V×List (Nat×B9)):=match Be2 c with
 |true=>match Du8 P N c rs with
  |some vs=>match M7 (B0 c.ob) vs with
   |some (xs,wr)=>match J8 (B0 (Q3 c.ob wr)) (F8 (L4 (Q3 c.ob wr))) (F8 (L4 (Q3 c.ob wr))) with
    |true=>some (xs,L4 (Q3 c.ob wr))
    |false=>none
   |none=>none
  |none=>none
 |false=>none
theorem Fq5{fn:Func}{v:V}{rs:List ResultVar}{xs:List V}{H:List (Nat×B9)}(ys:List V)(hfn:fn.results=rs.toArray)(hN:Nat.ble N 1024=true)(hv:Ca0 P N c rs=some (xs,H))(hre:R1 xs ys)(he:Dc3 ys=v):J r P N [] (Do2 P fn H v) c:=by
 refine⟨I1 hN,fun S wl M0 hH M ρ f w h=> ?_⟩;unfold Ca0 at hv;split at hv
 .rename_i hat;split at hv
  .rename_i vs hvs;split at hv
   .rename_i xs' wr hx;split at hv
    .rename_i hcl;cases hv;obtain⟨us,h1,h2⟩:=Ai5 h hvs;obtain⟨M',r1,o1,d1⟩:=F1 h.ow h2 hx;rw[<-U2]at o1;have o2:=o1.onlyH hcl;have key:bodyPost P fn (fun e w'=>∃u M' ρ',e= .returned u/\Ow S wl M0 M' ρ' (B0 (L4 (Q3 c.ob wr))) w'/\B8 M' ρ' v u) .ret (fr N f []) w:=
      ⟨rfl,Cv6 us,O5 hfn h1,Cv6 us,M',_,rfl,o2,by rw[<-he];exact Am8 (hre.rel (d1 _))⟩
     unfold Be2 at hat;split at hat
     .rename_i ht;rw[ht];exact Ce7 (Z4 _ hat key)
     .rename_i ht;rw[ht];exact key
     .cases hat
    .cases hv
   .cases hv
  .cases hv
 .cases hv
def Du7(P:Program)(N:Nat)(c:Cfg)(rs:List ResultVar):Option (List V×List (Nat×B9)):=match Be2 c with
 |true=>match Du8 P N c rs with
  |some vs=>match Cx9 (F8 (L4 c.ob)) (B0 c.ob) vs with
   |some (xs,wr)=>match J8 (B0 (Q3 c.ob wr)) (F8 (L4 (Q3 c.ob wr))) (F8 (L4 (Q3 c.ob wr))),S7 (F8 (L4 (Q3 c.ob wr))) xs with
    |true,true=>some (xs,L4 (Q3 c.ob wr))
    |_,_=>none
   |none=>none
  |none=>none
 |false=>none
theorem Bl4{fn:Func}{v:V}{rs:List ResultVar}{xs:List V}{H:List (Nat×B9)}(ys:List V)(hfn:fn.results=rs.toArray)(hN:Nat.ble N 1024=true)(hv:Du7 P N c rs=some (xs,H))(hre:R1 xs ys)(he:Dc3 ys=v):J r P N [] (Do2 P fn H v) c:=by
 refine⟨I1 hN,fun S wl M0 hH M ρ f w h=> ?_⟩;unfold Du7 at hv;split at hv
 .rename_i hat;split at hv
  .rename_i vs hvs;split at hv
   .rename_i xs' wr hx;split at hv
    .rename_i hcl hrf;cases hv;obtain⟨us,h1,h2⟩:=Ai5 h hvs;obtain⟨M',r1,o1,d1⟩:=Y1 h.ow h2 hx;rw[<-U2]at o1;have o2:=o1.onlyH hcl;have key:bodyPost P fn (fun e w'=>∃u M' ρ',e= .returned u/\Ow S wl M0 M' ρ' (B0 (L4 (Q3 c.ob wr))) w'/\B8 M' ρ' v u) .ret (fr N f []) w:=
      ⟨rfl,Cv6 us,O5 hfn h1,Cv6 us,M',_,rfl,o2,by rw[<-he];exact Am8 (hre.rel (I5 _ hrf d1))⟩
     unfold Be2 at hat;split at hat
     .rename_i ht;rw[ht];exact Ce7 (Z4 _ hat key)
     .rename_i ht;rw[ht];exact key
     .cases hat
    .cases hv
   .cases hv
  .cases hv
 .cases hv
theorem Ec6{g:FuncId}{fn:Func}{b:Code}{os H:List (Nat×B9)}{args:List V}{v:V}(hf:P.funcs[g]? =some fn)(hb:fn.body=some b)(hN:fn.ntmps=N)(hv:Nat.ble args.length N=true)(h:J none P N [] (Do2 P fn H v) ⟨mkT (Dj0 0 args),os,[.code b]⟩):M4 P g os args H v:=by
 intro s wl M0 M ρ w vals ho hr;have hl:=I1 hv;refine entry hf hb hN (by rw[hr.len];exact hl) ?_;refine Bt5 (h.2 ⟨s,ρ⟩ wl M0 trivial M ρ (Cc2 vals) w ⟨ho,Al6 _,Ac7 h.1 _ (fun t v hm=> ?_)⟩) (fun e a w hq=>hq);obtain⟨_,h2⟩:=Ad9 hm;rw[a8_]at h2;obtain⟨u,h3,h4⟩:=hr.get h2;exact⟨a0_ (ac_.1 h2).1 hl,by unfold Cc2;rw[h3];exact h4⟩
end
end
section
section
variable {r:Option Nat} {P:Program} {N:Nat} {ds:List Deferred} {fin:Fin} {c:Cfg} {q:T9}
end
section
variable {κ β:Type} [DecidableEq κ]
def Fe4:List (κ×β)->κ->Bool
 |[],_=>false
 |x::l,k=>bif decide (x.1=k) then true else Fe4 l k
def pe(ke:κ->Dat)(ve:β->List Dat)(x:κ×β):Dat×List Dat:=(ke x.1,ve x.2)
variable {ke:κ->Dat} {ve:β->List Dat}
theorem hsm(hk:∀a b,Gp7 (ke a) (ke b)=decide (a=b)):∀(l:List (κ×β)) (k:κ),Gj9 (l.map (pe ke ve)) (ke k)=Fe4 l k
 |[],_=>rfl
 |x::l,k=>by
  simp only[map_cons,Gj9,Fe4,pe,hk];cases decide (x.1=k) with
  |true=>rfl
  |false=>simp only[cond_false];exact hsm hk l k
end
end
section
structure Bh4(T:Nat->Prop)(M:Mem)(w:World)(T':Nat->Prop)(M':Mem)(w':World):Prop where
 size:w.heap.size<=w'.heap.size
 os:w'.os=w.os
 tape:w'.tape=w.tape
 output:w'.output=w.output
 old:∀k,k<w.heap.size->¬T k->w'.heap[k]? =w.heap[k]?
 le:M.le M'
 sits:Af8 M' w'
 new:∀b c,M' b=some c->b<w.heap.size->M b=some c\/T b
 grow:∀b,T' b->T b\/w.heap.size<=b
 own:∀b,T' b->b<w'.heap.size
section
variable {S:L8} {wl w w':World} {M0 M M':Mem} {ρ:Rho} {ob:Nat->Option B9}
def TA(ρ:Rho)(ob:Nat->Option B9):Nat->Prop:=fun b=>∃r i o,ρ r=some i/\ob r=some o/\blk i o b
theorem M6(h:Ow S wl M0 M ρ ob w){b:Nat}(hb:TA ρ ob b):(S b\/wl.heap.size<=b)/\b<w.heap.size:=by
 obtain⟨r,i,o,h2,h3,h4⟩:=hb;obtain⟨i',h5,h6⟩:=h.own r o h3;rw[h2]at h5;cases h5;exact E0 h6 h4
theorem Ow.step(h:Ow S wl M0 M ρ ob w):Bh4 S.s M0 wl (TA ρ ob) M w:=
 ⟨h.size,h.os,h.tape,h.output,h.old,h.le,h.sits,h.new,fun _ hb=>(M6 h hb).1,fun _ hb=>(M6 h hb).2⟩
theorem Ow.it{T T':Nat->Prop}{M':Mem}{w':World}(h:Ow S wl M0 M ρ ob w)(k:Bh4 T M w T' M' w')(hT:∀b,T b->¬TA ρ ob b/\(S b\/wl.heap.size<=b)):
 Ow S wl M0 M' ρ ob w'/\∀b,T' b->¬TA ρ ob b/\(S b\/wl.heap.size<=b):=by
 have hr:Rle M M' ρ ρ:=⟨k.le,fun _ j hj=>⟨j,hj,Ile.refl j⟩⟩
 refine⟨⟨ah_ h.size k.size,k.os.trans h.os,k.tape.trans h.tape,k.output.trans h.output,fun b hb hS=> ?_,k.sits,Mem.le_trans h.le k.le,h.gl.mono k.le,fun b c hb hlt=> ?_,fun q o hq=> ?_,h.dom,h.inj,h.held⟩,fun b hb=> ?_⟩
 .rw[k.old b (by have:=h.size;omega) (fun ht=>(hT b ht).2.elim hS (fun hl=>by omega))];exact h.old b hb hS
 .rcases k.new b c hb (by have:=h.size;omega) with h1|h1
  .exact h.new b c h1 hlt
  .exact(hT b h1).2.elim .inr (fun hl=>by omega)
 .obtain⟨i,h1,h2⟩:=h.own q o hq;have hTA:∀b,blk i o b->TA ρ ob b:=fun b hl=>⟨q,i,o,h1,hq,hl⟩
  refine⟨i,h1,h2.mono hr (fun y hl=> ?_) (fun y hl=>k.old _ (E0 h2 hl).2 (fun ht=>(hT _ ht).1 (hTA y hl)))⟩;cases hm:M' y with
  |none=>
   cases hm0:M y with
   |none=>rfl
   |some c=>obtain⟨c',h3,_⟩:=k.le _ _ hm0;rw[hm]at h3;cases h3
  |some c=>
   rcases k.new _ _ hm (E0 h2 hl).2 with h3|h3
   .exact h3.symm
   .exact absurd (hTA y hl) (hT _ h3).1
 .rcases k.grow b hb with h1|h1
  .exact hT b h1
  .refine⟨fun hta=> ?_,.inr (ah_ h.size h1)⟩;have:=(M6 h hta).2;omega
end
def Gd2(e:Ending):Prop:=∃t u,e= .panicked [{v:= .iface t u,recovered:=false}]
def Gm9(wl:World)(M0:Mem):Ending->World->Prop:=fun e w'=>Gd2 e/\∃M',Ext M0 M' wl w'
def Ge1(P:Program)(g:FuncId)(args:List V):Prop:=∀M w vals,Af8 M w->GlA M w->B2 M noR args vals->Calls P g vals.toArray w (Gm9 w M)
def Ge0(P:Program)(g:FuncId)(args:List V):Option V->Prop
 |some v=>C1 P g args v
 |none=>Ge1 P g args
section
variable {r:Option Nat} {P:Program} {N:Nat} {ds:List Deferred} {fin:Fin} {c:Cfg}
theorem As6{fin':Exit->Act->World->Prop}{a:Act}{w:World}{ch:List PanicEntry}:∀(k:List It),Bf1 k=true->fin' (.panic ch) a w->Wk r P fin' k (.panic ch) a w
 |[],_,h=>h
 | .begR _::_,hn,_=>by cases hn
 | .code _::k,hn,h=>by simp only[Wk,Exit.then];exact As6 k hn h
 | .inBlock _::k,hn,h=>by simp only[Wk,Exit.inBlock];exact As6 k hn h
 | .inLoop _::k,hn,h=>by simp only[Wk,Exit.then];exact As6 k hn h
 | .inScope _::k,hn,h=>by simp only[Wk,Bo4];exact As6 k hn h
 | .ops _ _::k,hn,h=>by simp only[Wk,Exit.then];exact As6 k hn h
def JP(N:Nat)(ds:List Deferred)(fin:Fin)(sl:Tri)(ob:List (Nat×B9)):Prop:=
 ∀S wl M0,fin.H S wl M0->∀r1 M ρ w f t u,(∀q i,S.r0 q=some i->(∃o,B0 ob q=some o)->r1 q=some i)->Ow ⟨S.s,r1⟩ wl M0 M ρ (B0 ob) w->(∀t,t<N->B8 M ρ (sl.get 10 t) (f t))->fin S wl M0 (.panic [{v:= .iface t u,recovered:=false}]) (fr N f ds) w
def Fs4(c:Cfg):Bool:=match c.td with|_::k=>Bf1 k|[]=>false
def Bf3(ids:List Nat)(ρ:Rho):Rho:=fun r=>match D7 r ids with|true=>ρ r|false=>none
theorem Bj6{ids:List Nat}{ρ:Rho}{r:Nat}{i:Inf}(h:Bf3 ids ρ r=some i):D7 r ids=true/\ρ r=some i:=by
 unfold Bf3 at h;split at h
 .rename_i hm;exact⟨hm,h⟩
 .cases h
theorem Eq7{l:List (Nat×B9)}(h:V4 l=true):∀q z,B0 l q≠some (.frn z):=by
 induction l with
 |nil=>intro q z h;cases h
 |cons x l ih=>
  obtain⟨r,o⟩:=x;intro q z hx;unfold V4 at h;split at h
  .cases h
  .rename_i hf;simp only[B0]at hx;split at hx
   .cases hx;cases hf
   .exact ih h q z hx
end
end
section
def cap:Nat->Nat->Nat
 |0,_=>0
 |_+1,0=>0
 |n+1,k+1=>cap n k+1
def Em4(P:Program)(l:Nat)(vals:List Value)(w:World)(R:Ending->World->Prop):Prop:=
 ∃fn tmps assign body,(Instr.yield l vals.toArray).run P w= .ok (.round l fn tmps assign body) w/\RoundIn (WF none) 0 P l fn tmps assign body w R
structure Ad6(P:Program)(l:Nat)(Inv:List (List V)->(Nat->Prop)->Mem->World->Prop)(Stop Pan:(Nat->Prop)->Mem->World->Prop):Prop where
 inv:∀ys T M w T' M' w',Inv ys T M w->Bh4 T M w T' M' w'->Inv ys T' M' w'
 stop:∀T M w T' M' w',Stop T M w->Bh4 T M w T' M' w'->Stop T' M' w'
 round:∀y ys T M w vals,Inv (y::ys) T M w->Af8 M w->B2 M noR y vals->(∀b,T b->b<w.heap.size)->Em4 P l vals w (fun e w'=>∃M',M.le M'/\Af8 M' w'/\Sz w'/\w.heap.size<=w'.heap.size/\(∀k,T k->w'.heap[k]? =w.heap[k]?/\M' k=M k)/\
  ((e= .returned (.bool true)/\Inv ys T M' w')\/(e= .returned (.bool false)/\Stop T M' w')\/(Gd2 e/\Pan T M' w')))
def Gj2(Inv:List (List V)->(Nat->Prop)->Mem->World->Prop)(Stop Pan:(Nat->Prop)->Mem->World->Prop)(fl:Bool):Ending->World->Prop:=fun e w'=>
 ∃T' M',(∃v,e= .returned v/\((fl=false/\Inv [] T' M' w')\/Stop T' M' w'))\/(Gd2 e/\((fl=true/\Inv [] T' M' w')\/Pan T' M' w'))
section
variable {S:L8} {wl w w':World} {M0 M M':Mem} {ρ:Rho} {ob:Nat->Option B9}
theorem Ow.base(h:Ow S wl M0 M ρ ob w){r0:Rho}(hle:M.le M')(hs:Af8 M' w')(_:w.heap.size<=w'.heap.size)(hk:∀k,TA ρ ob k->w'.heap[k]? =w.heap[k]?/\M' k=M k)
 (hfr:∀q i,ob q=some (.frn q)->ρ q=some i->r0 q=some i) (hfq:∀q x,ob q=some (.frn x)->x=q) (hh:∀r i,Nat.ble 2000 r=true->r0 r=some i->ρ r=some i) (hz:Sz w'):Ow ⟨TA ρ ob,r0⟩ w' M' M' ρ ob w':=by
 have hr:Rle M M' ρ ρ:=⟨hle,fun _ j hj=>⟨j,hj,Ile.refl j⟩⟩
 refine⟨ad_ _,rfl,rfl,rfl,fun _ _ _=>rfl,hs,M'.le_refl,⟨h.gl.ok.mono hle,fun _ _ e hb=>h.offm e (M6 h hb).1,hz⟩,fun _ _ hb _=> .inl hb,fun r o ho=> ?_,h.dom,h.inj,fun r i hb hi=>⟨i,hh r i hb hi,Ile.refl i⟩⟩;obtain⟨i,hi,hok⟩:=h.own r o ho;refine⟨i,hi,?_⟩;have hTb:∀b,blk i o b->TA ρ ob b:=fun b hl=>⟨r,i,o,hi,ho,hl⟩
 have hT:Aj1 i o->TA ρ ob i.b:=fun hl=>hTb _ (Y2 hl)
 have hok':=hok.mono hr (fun _ hl=>(hk _ (hTb _ hl)).2) (fun _ hl=>(hk _ (hTb _ hl)).1);cases o with
 |tree g e sz shs es hh=>exact J0.tree hok' (fun b hb=> .inl (hTb b hb)) (fun _ _ _ _ h=>h)
 |box te cs=>
  obtain⟨h0,h1,rest⟩:=hok';exact⟨h0,⟨.inl (hT trivial),h1.2⟩,rest⟩
 |buf g e sz es=>
  obtain⟨h0,hg,hss,hn,ht,hx,h1⟩:=hok';refine⟨h0,hg,hss,hn,ht,hx,fun hp=> ?_⟩;obtain⟨h1,rest⟩:=h1 hp;exact⟨⟨.inl (hT hp),h1.2⟩,rest⟩
 |fzs g sz es=>exact hok'
 |fzb cs=>exact hok'
 |mapo kk ag sz es=>
  obtain⟨h0,h1,rest⟩:=hok';exact⟨h0,⟨.inl (hT trivial),h1.2⟩,rest⟩
 |raw b x=>
  obtain⟨h0,e,h1,rest⟩:=hok';exact⟨h0,e,⟨.inl (hT trivial),h1.2⟩,rest⟩
 |frn q=>
  obtain rfl:=hfq r q ho;exact hfr _ i ho hi
end
def Ee7(P:Program)(fn:Func)(l:Nat)(Inv:List (List V)->(Nat->Prop)->Mem->World->Prop)(Stop Pan:(Nat->Prop)->Mem->World->Prop)(fl:Bool)(st:Option (List (List V))):Fin where
 H:=fun S wl M0=>(match st with|some ys=>Inv ys S.s M0 wl|none=>Stop S.s M0 wl)/\∃i,S.r0 2000=some i/\i.b=l
 post:=fun _ _ _ e a w=>bodyPost P fn (Gj2 Inv Stop Pan fl) e a w
def Cz3:List (Nat×B9)->Bool
 |[]=>true
 |(r,o)::l=>match o with| .frn x=>(match Nat.beq x r with|true=>Cz3 l|false=>false)|_=>Cz3 l
theorem Ar0:∀{l:List (Nat×B9)},Cz3 l=true->∀q x,B0 l q=some (.frn x)->x=q
 |[],_,q,x,h=>by cases h
 |(r,o)::l,h,q,x,hx=>by
  unfold Cz3 at h;simp only[B0]at hx;split at hx
  .rename_i hb;obtain rfl:=nB_ hb;cases hx;simp only at h;split at h
   .rename_i hb;exact nB_ hb
   .cases h
  .split at h
   .split at h
    .exact Ar0 h q x hx
    .cases h
   .exact Ar0 h q x hx
def Cl5(N:Nat)(c:Cfg):Option (List V×Wr):=match c.td with
 | .ops all (o::_)::_=>match gd N c.sl all o,o.op with
   |some true,.call cl=>match cl.callee with
    | .value f=>match G3 N c.sl f,B0 c.ob 2000,Cz3 c.ob with
      | .yl 2000,some (.frn 2000),true=>M7 (B0 c.ob) (Dc2 (G3 N c.sl) cl.args.toList)
      |_,_,_=>none
    |_=>none
   |_,_=>none
 |_=>none
def Es9(N:Nat)(c:Cfg):Option (List V):=match Cl5 N c with|some (xs,wr)=>(match Cz3 (Q3 c.ob wr) with|true=>some xs|false=>none)|none=>none
def Gl2(N:Nat)(c:Cfg)(b:Bool):Cfg:=match Cl5 N c with|some (_,wr)=>after N c (.d (.bool b)) wr|none=>c
section
variable {P:Program} {N:Nat} {fn:Func} {l:Nat} {Inv:List (List V)->(Nat->Prop)->Mem->World->Prop} {Stop Pan:(Nat->Prop)->Mem->World->Prop} {fl:Bool} {c:Cfg}
theorem Ck9{a:Act}{w:World}{o:Oper}{cl:Call}{f:Operand}{l fn':Nat}{tmps:Array Value}{assign body:Code}(ho:o.op= .call cl)(hc:cl.callee= .value f)(hf:a.eval f= .func (.yield l) #[] #[])
 (hy:(Instr.yield l (cl.args.map a.eval)).run P w= .ok (.round l fn' tmps assign body) w):(execOp a.eval o).run P w= .ok (.round l fn' tmps assign body) w:=by
 obtain⟨callee,args,tys⟩:=cl;simp only at hc;subst hc;simp only at hy;simp[execOp,ho,resolve,Deferred.ofValue,hf,invoke,hy]
theorem Di1(R:Ad6 P l Inv Stop Pan){xs:List V}(y:List V){ys:List (List V)}(hx:Es9 N c=some xs)(hb:Fs4 c=true)(hre:R1 xs y)(ht:J none P N [] (Ee7 P fn l Inv Stop Pan fl (some ys)) (Gl2 N c true))(hs:J none P N [] (Ee7 P fn l Inv Stop Pan fl none) (Gl2 N c false)):J none P N [] (Ee7 P fn l Inv Stop Pan fl (some (y::ys))) c:=by
 refine⟨ht.1,fun S wl M0 hH M ρ f w ha=> ?_⟩;unfold Es9 at hx;split at hx
 .rename_i xs' wr hyo;split at hx
  .rename_i hfk;cases hx;unfold Gl2 at ht hs;rw[hyo]at ht hs;unfold Cl5 at hyo;split at hyo
   .rename_i all o rest k htd;split at hyo
    .rename_i cl hg hop;split at hyo
     .rename_i fop hcal;split at hyo
      .rename_i hfv hob _;simp only[Ad7 htd]at ht hs;have hfe:=G1 (ds:=[]) ha fop;rw[hfv]at hfe;simp only[B8]at hfe;obtain⟨i,hi,_,hfe⟩:=hfe;obtain⟨i',hi',hok⟩:=ha.ow.own 2000 _ hob;rw[hi]at hi';cases hi';have hok:S.r0 2000=some i:=hok;obtain⟨hinv,j,hj,hjl⟩:=hH;rw[hok]at hj;cases hj;rw[hjl]at hfe;have hargs:=Ae1 (xs:=cl.args.toList) (G1 (ds:=[]) ha);obtain⟨M1,r1,o1,d1⟩:=F1 ha.ow hargs hyo;have hst:=o1.step;have hinv1:=R.inv _ _ _ _ _ _ _ hinv hst;obtain⟨fn',tmps,assign,body,hrun,hround⟩:=R.round y ys _ M1 w _ hinv1 o1.sits (hre.rel (d1 noR)) hst.own;rw[htd];simp only[Wk,Exit.then];refine Gm8 (Ci3 ha hg) ?_;have hexec:=Ck9 (P:=P) (a:=fr N f []) (w:=w) hop hcal hfe (by
        have e:cl.args.map (fr N f []).eval=(cl.args.toList.map (fr N f []).eval).toArray:=by apply bh_;simp
        rw[e];exact hrun)
       refine⟨fun _ _=>trivial,?_⟩;rw[show(WF none).round=none from rfl,Am3 (by rw[hop];rfl),hexec];refine⟨fun h=>(by cases h),RoundIn.mono hround ?_⟩
       rintro e w2 ⟨M2,hle,hsit,hszw,hsz,hkept,hcase⟩
       have hb:Bf1 k=true:=by unfold Fs4 at hb;rw[htd]at hb;exact hb
       have o1':Ow S wl M0 M1 ρ (B0 (Q3 c.ob wr)) w:=by rw[U2];exact o1
       have hTA:TA ρ (wrO (B0 c.ob) wr)=TA ρ (B0 (Q3 c.ob wr)):=by rw[U2]
       rw[hTA]at hkept hcase;have hb':=o1'.base (r0:=ρ) hle hsit hsz hkept (fun _ _ _ h=>h) (Ar0 hfk) (fun _ _ _ h=>h) hszw;have hR:Rle M M2 ρ ρ:=⟨Mem.le_trans r1.le hle,fun _ j hj=>⟨j,hj,Ile.refl j⟩⟩
       have hput:=fun(b:Bool) (td:List It)=>Bp7 (S:=⟨TA ρ (B0 (Q3 c.ob wr)),ρ⟩) (wl:=w2) (M0:=M2) (M:=M2) (ρ:=ρ) (N:=N) (c:=⟨c.sl,Q3 c.ob wr,td⟩) (f:=f) (w:=w2) ⟨hb',ha.ok,fun t ht=>B8.mono hR _ (ha.sl t ht)⟩ ht.1 (Rle.refl _ _) (ob':=Q3 c.ob wr) hb' (v:= .d (.bool b)) (u:= .bool b) S6 o.dst (.ops all rest::k)
       rcases hcase with⟨rfl,hT⟩|⟨rfl,hF⟩|⟨⟨t,u,rfl⟩,hP⟩
       .dsimp only;rw[Aq7];have:=ht.2 ⟨TA ρ (B0 (Q3 c.ob wr)),ρ⟩ w2 M2 ⟨hT,i,hi,hjl⟩ M2 ρ _ w2 (hput true []);simp only[Wk,Exit.then]at this;exact this
       .dsimp only;rw[Aq7];have:=hs.2 ⟨TA ρ (B0 (Q3 c.ob wr)),ρ⟩ w2 M2 ⟨hF,i,hi,hjl⟩ M2 ρ _ w2 (hput false []);simp only[Wk,Exit.then]at this;exact this
       .exact As6 k hb ⟨rfl,_,M2,.inr ⟨⟨t,u,rfl⟩,.inr hP⟩⟩
      .cases hyo
     .cases hyo
    .cases hyo
   .cases hyo
  .cases hx
 .cases hx
theorem Bl3(R:Ad6 P l Inv Stop Pan){st:Option (List (List V))}(hst:(st=some []/\fl=false)\/st=none)(hN:Nat.ble N 1024=true)(hfn:fn.results= #[])(hat:Be2 c=true):J none P N [] (Ee7 P fn l Inv Stop Pan fl st) c:=by
 refine⟨I1 hN,fun S wl M0 hH M ρ f w ha=> ?_⟩;have hend:(fl=false/\Inv [] (TA ρ (B0 c.ob)) M w)\/Stop (TA ρ (B0 c.ob)) M w:=by
  rcases hst with⟨rfl,h⟩|rfl
  .exact .inl ⟨h,R.inv _ _ _ _ _ _ _ hH.1 ha.ow.step⟩
  .exact .inr (R.stop _ _ _ _ _ _ hH.1 ha.ow.step)
 have key:(Ee7 P fn l Inv Stop Pan fl st) S wl M0 .ret (fr N f []) w:=⟨rfl,_,O5 (rs:=[]) (vs:=[]) (by rw[hfn]) trivial,_,M,.inl ⟨_,rfl,hend⟩⟩
 unfold Be2 at hat;split at hat
 .rename_i ht;rw[ht];exact Ce7 (Z4 _ hat key)
 .rename_i ht;rw[ht];exact key
 .cases hat
def Cx1(P:Program)(g:FuncId)(os:List (Nat×B9))(args:List V)(ys:List (List V))(fl:Bool):Prop:=
 ∀l Inv Stop Pan,Ad6 P l Inv Stop Pan->∀s M ρ w vals i,Ow ⟨s,ρ⟩ w M M ρ (B0 os) w->Inv ys s M w->ρ 2000=some i->i.b=l->B2 M ρ args vals->Calls P g vals.toArray w (Gj2 Inv Stop Pan fl)
theorem Cr5{g:FuncId}{b:Code}{os:List (Nat×B9)}{args:List V}{ys:List (List V)}(hf:P.funcs[g]? =some fn)(hb:fn.body=some b)(hN:fn.ntmps=N)(hv:Nat.ble args.length N=true)(h:∀l Inv Stop Pan,Ad6 P l Inv Stop Pan->J none P N [] (Ee7 P fn l Inv Stop Pan fl (some ys)) ⟨mkT (Dj0 0 args),os,[.code b]⟩):Cx1 P g os args ys fl:=by
 intro l Inv Stop Pan R s M ρ w vals i ho hi h2 hl hr;have h:=h l Inv Stop Pan R;have hlen:=I1 hv;refine entry hf hb hN (by rw[hr.len];exact hlen) ?_;refine Bt5 (h.2 ⟨s,ρ⟩ w M ⟨hi,i,h2,hl⟩ M ρ (Cc2 vals) w ⟨ho,Al6 _,Ac7 h.1 _ (fun t v hm=> ?_)⟩) (fun e a w hq=>hq);obtain⟨_,h2⟩:=Ad9 hm;rw[a8_]at h2;obtain⟨u,h3,h4⟩:=hr.get h2;exact⟨a0_ (ac_.1 h2).1 hlen,by unfold Cc2;rw[h3];exact h4⟩
def Gg4(P:Program)(g:FuncId)(os:List (Nat×B9))(args:List V)(ys:List (List V))(fl:Bool):Prop:=
 ∀l Inv Stop Pan,Ad6 P l Inv Stop Pan->(∀T M w,¬Inv [] T M w)->∀s M ρ w vals i,Ow ⟨s,ρ⟩ w M M ρ (B0 os) w->Inv ys s M w->ρ 2000=some i->i.b=l->B2 M ρ args vals->Calls P g vals.toArray w (Gj2 Inv Stop Pan fl)
end
end
section
section
variable {S:L8} {wl w:World} {M0 M:Mem} {ρ:Rho} {ob:Nat->Option B9}
theorem Ow.raw(h:Ow S wl M0 M ρ ob w){q b:Nat}{o:Obj}(hq:ob q=some (.raw b o))(o':Obj):w.heap[b]? =some o/\Ow S wl M0 M ρ (H6 ob q (.raw b o')) (w.putObj b o'):=by
 obtain⟨i,hi,hfix,hib,hm,hw⟩:=h.own q _ hq;have hlt:b<w.heap.size:=(aq_.1 hw).1;obtain⟨h1,h2⟩:=h.turn (w':=w.putObj b o') hq hi i (.raw b o') (fun k _ hk=>World.putObj_heap_other (by have:=hk trivial;rw[hib]at this;exact this)) (by simp) rfl rfl rfl (fun _ c hc=>by rw[hm.2]at hc;cases hc) (Ile.refl i) (fun _=> .inl ⟨trivial,rfl⟩)
  (fun ρ' _ _=>⟨hfix,hib,hm,World.putObj_heap_same hlt⟩)
 refine⟨hw,?_⟩;have e:H6 ρ q i=ρ:=by
  funext s;by_cases e:s=q
  .subst e;rw[B3,hi]
  .rw[C5 _ _ e]
 rw[e]at h2;exact h2
theorem Ow.compP{r0 r1 r2:Rho}{M2:Mem}{ρ2:Rho}{ob2:Nat->Option B9}{w2:World}(h:Ow ⟨S.s,r0⟩ wl M0 M ρ ob w)(h2:Ow ⟨TA ρ ob,r1⟩ w M M2 ρ2 ob2 w2)(hnf:∀q x,ob2 q≠some (.frn x))(hh:∀q i,Nat.ble 2000 q=true->r2 q=some i->∃k,ρ2 q=some k/\Ile i k):Ow ⟨S.s,r2⟩ wl M0 M2 ρ2 ob2 w2:=by
 refine⟨ah_ h.size h2.size,h2.os.trans h.os,h2.tape.trans h.tape,h2.output.trans h.output,fun k hk hS=> ?_,h2.sits,Mem.le_trans h.le h2.le,⟨h2.gl.ok,h.gl.off,h.gl.sz⟩,fun b c hb hlt=> ?_,fun q o hq=> ?_,h2.dom,h2.inj,fun q i hb hi=>hh q i hb hi⟩
 .rw[h2.old k (by have:=h.size;omega) (fun ht=>(M6 h ht).1.elim hS (fun hl=>by omega))];exact h.old k hk hS
 .rcases h2.new b c hb (by have:=h.size;omega) with h1|h1
  .exact h.new b c h1 hlt
  .exact(M6 h h1).1.elim .inr (fun hl=>by omega)
 .obtain⟨i,hi,hok⟩:=h2.own q o hq;refine⟨i,hi,?_⟩;have hMb:∀b,blk i o b->S.s b\/wl.heap.size<=b:=fun b hl=>by
   rcases(E0 hok hl).1 with hs|hs
   .exact(M6 h hs).1
   .exact .inr (ah_ h.size hs)
  have hM:Aj1 i o->S.s i.b\/wl.heap.size<=i.b:=fun hl=>hMb _ (Y2 hl)
  cases o with
  |tree g e sz shs es hh=>exact J0.tree hok hMb (fun _ _ _ _ h=>h)
  |box te cs=>obtain⟨h0,h1,rest⟩:=hok;exact⟨h0,⟨hM trivial,h1.2⟩,rest⟩
  |buf g e sz es=>
   obtain⟨h0,hg,hs,hn,ht,hx,h1⟩:=hok;refine⟨h0,hg,hs,hn,ht,hx,fun hp=> ?_⟩;obtain⟨h1,rest⟩:=h1 hp;exact⟨⟨hM hp,h1.2⟩,rest⟩
  |fzs g sz es=>exact hok
  |fzb cs=>exact hok
  |mapo kk ag sz es=>obtain⟨h0,h1,rest⟩:=hok;exact⟨h0,⟨hM trivial,h1.2⟩,rest⟩
  |raw b x=>obtain⟨h0,e,h1,rest⟩:=hok;exact⟨h0,e,⟨hM trivial,h1.2⟩,rest⟩
  |frn x=>exact absurd hq (hnf q x)
theorem Ow.comp{r0:Rho}{M2:Mem}{ρ2:Rho}{ob2:Nat->Option B9}{w2:World}(h:Ow ⟨S.s,r0⟩ wl M0 M ρ ob w)(h2:Ow ⟨TA ρ ob,ρ⟩ w M M2 ρ2 ob2 w2)(hnf:∀q x,ob2 q≠some (.frn x)):Ow ⟨S.s,r0⟩ wl M0 M2 ρ2 ob2 w2:=
 h.compP h2 hnf fun q i hb hi=>by
  obtain⟨j,h1,h3⟩:=h.held q i hb hi;obtain⟨k,h4,h5⟩:=h2.held q j hb h1;exact⟨k,h4,h3.trans h5⟩
end
section
variable {r:Option Nat} {P:Program} {N:Nat} {ds:List Deferred} {fin:Fin} {c:Cfg}
theorem Bs9{l q:Nat}{k:List It}{rec:Loop}(ht:c.td= .begR l::k)(hq:B0 c.ob q=some (.raw l (.loop rec)))(hs:rec.state= .ready)(hk:J r P N ds fin ⟨c.sl,O3 c.ob q (.raw l (.loop {rec with state:= .busy})),k⟩):J r P N ds fin c:=by
 refine⟨hk.1,fun S wl M0 hH M ρ f w ha=> ?_⟩;rw[ht];obtain⟨h1,h2⟩:=ha.ow.raw hq (.loop {rec with state:= .busy});simp only[Wk,Exit.then];refine⟨_,run_beginRound h1 hs,hk.2 S wl M0 hH M ρ f _ ⟨?_,ha.ok,ha.sl⟩⟩;dsimp only;rw[D9];exact h2
end
end
section
structure Lp where
 D:Nat
 L:Nat
 fn:FuncId
 tmps:Array Value
 ps:Array Tmp
 as:Code
 bo:Code
def G2(x:Lp)(st:LoopState)(pe:Option Code):Loop:={state:=st,pending:=pe,fn:=x.fn,tmps:=x.tmps,params:=x.ps,assign:=x.as,body:=x.bo,defers:=x.D}
def rob(x:Lp)(st:LoopState)(pe:Option Code)(ob:List (Nat×B9)):List (Nat×B9):=(3000,.raw x.D (.deferred (some [])))::(3001,.raw x.L (.loop (G2 x st pe)))::ob
def Et2(x:Lp)(S:L8)(wl:World)(M0:Mem)(ρ0:Rho)(Ms:Mem)(Good:List (List V)->List (Nat×B9)->Prop)(ys:List (List V))(T:Nat->Prop)(M:Mem)(w:World):Prop:=
 Ms.le M/\∃ρ ob,Good ys ob/\Ow ⟨S.s,ρ0⟩ wl M0 M ρ (B0 (rob x .ready none ob)) w/\∀b,T b->¬TA ρ (B0 (rob x .ready none ob)) b/\(S b\/wl.heap.size<=b)
def Cw6(x:Lp)(S:L8)(wl:World)(M0:Mem)(ρ0:Rho)(Ms:Mem)(GoodX:Code->List (Nat×B9)->Prop)(T:Nat->Prop)(M:Mem)(w:World):Prop:=
 Ms.le M/\∃ρ ob j,GoodX j ob/\Ow ⟨S.s,ρ0⟩ wl M0 M ρ (B0 (rob x .done (some j) ob)) w/\∀b,T b->¬TA ρ (B0 (rob x .done (some j) ob)) b/\(S b\/wl.heap.size<=b)
theorem Et2.it{x:Lp}{S:L8}{wl:World}{M0 Ms:Mem}{ρ0:Rho}{Good:List (List V)->List (Nat×B9)->Prop}:∀ys T M w T' M' w',Et2 x S wl M0 ρ0 Ms Good ys T M w->Bh4 T M w T' M' w'->Et2 x S wl M0 ρ0 Ms Good ys T' M' w':=
 fun _ _ _ _ _ _ _ ⟨h0,ρ,ob,h1,h2,h3⟩ k=>by obtain⟨h4,h5⟩:=h2.it k h3;exact⟨Mem.le_trans h0 k.le,ρ,ob,h1,h4,h5⟩
theorem Cw6.it{x:Lp}{S:L8}{wl:World}{M0 Ms:Mem}{ρ0:Rho}{GoodX:Code->List (Nat×B9)->Prop}:∀T M w T' M' w',Cw6 x S wl M0 ρ0 Ms GoodX T M w->Bh4 T M w T' M' w'->Cw6 x S wl M0 ρ0 Ms GoodX T' M' w':=
 fun _ _ _ _ _ _ ⟨h0,ρ,ob,j,h1,h2,h3⟩ k=>by obtain⟨h4,h5⟩:=h2.it k h3;exact⟨Mem.le_trans h0 k.le,ρ,ob,j,h1,h4,h5⟩
def Gl9(x:Lp)(S:L8)(wl:World)(M0:Mem)(ρ0:Rho)(Ms:Mem)(GoodP:List (Nat×B9)->Prop)(T:Nat->Prop)(M:Mem)(w:World):Prop:=
 Ms.le M/\∃r1 ρ ob,GoodP ob/\(∀q i,ρ0 q=some i->(∃o,B0 ob q=some o)->r1 q=some i)/\Ow ⟨S.s,r1⟩ wl M0 M ρ (B0 (rob x .busy none ob)) w/\∀b,T b->¬TA ρ (B0 (rob x .busy none ob)) b/\(S b\/wl.heap.size<=b)
def Eo5(x:Lp)(Good:List (List V)->List (Nat×B9)->Prop)(GoodX:Code->List (Nat×B9)->Prop)(GoodP:List (Nat×B9)->Prop)(ys:List (List V)):Fin where
 H:=fun _ _ _=>True
 post:=fun S wl M0 e a w=>a.defers=[]/\((∃ρ M ob,Ow S wl M0 M ρ (B0 (rob x .busy none ob)) w/\(∀q z,B0 ob q≠some (.frn z))/\((e= .normal/\Good ys ob)\/(e= .ret/\GoodX .ret ob)\/(∃id,e= .exit id/\GoodX (.exit id) ob)\/∃l,e= .goto l/\GoodX (.goto l) ob))\/
  (∃t u,e= .panic [{v:= .iface t u,recovered:=false}])/\∃r1 ρ M ob,Ow ⟨S.s,r1⟩ wl M0 M ρ (B0 (rob x .busy none ob)) w/\(∀q i,S.r0 q=some i->(∃o,B0 (rob x .busy none ob) q=some o)->r1 q=some i)/\(∀q z,B0 ob q≠some (.frn z))/\GoodP ob)
def Da7(P:Program)(l:Nat)(R:Ending->World->Prop):Exit->Act->World->Prop
 | .normal,_,w=>∃v w',(Instr.endRound l none).run P w= .ok v w'/\R (.returned v) w'
 | .ret,_,w=>∃v w',(Instr.endRound l (some .ret)).run P w= .ok v w'/\R (.returned v) w'
 | .exit id,_,w=>∃v w',(Instr.endRound l (some (.exit id))).run P w= .ok v w'/\R (.returned v) w'
 | .goto t,_,w=>∃v w',(Instr.endRound l (some (.goto t))).run P w= .ok v w'/\R (.returned v) w'
 | .panic ch,a,w=>a.defers=[]/\R (.panicked ch) w
 |_,_,_=>False
theorem Ca1{P:Program}{l:Nat}{f:FuncId}{tmps:Array Value}{assign body:Code}{w:World}{R:Ending->World->Prop}(hf:∃fn,P.funcs[f]? =some fn)
 (h:W (some l) P assign (Exit.then (fun a₁ w₁=>∃w₂,(Instr.beginRound l).run P w₁= .ok () w₂/\W (some l) P body (Da7 P l R) a₁ w₂) (fun _ _ _=>False)) {tmps:=tmps,defers:=[]} w):
 RoundIn (WF none) 0 P l f tmps assign body w R:=by
 refine⟨trivial,fun c cs hr=> ?_⟩
 let b:Frame:={(default:Frame) with fn:=f,kind:= .normal,roundOf:=some l}
 have hb0:Frame.round l f tmps assign body .normal=b.atR {tmps:=tmps,defers:=[]} [.code assign,.beginRound,.code body]:=by
  simp[Frame.round,Frame.atR,b]
 obtain⟨e,a₁,w₁,hq,harr⟩:=Cx4 h b [.beginRound,.code body] (c::cs) rfl hf;rw[<-hb0]at harr;cases e with
 |normal=>
  obtain⟨w₂,hbr,hbody⟩:=hq;have s1:StepsIn (Machine.fenced P (WF (some l))) P (lone (b.atR a₁ [.beginRound,.code body]) (c::cs) w₁) (lone (b.atR a₁ [.code body]) (c::cs) w₂):=
   .one (L1 (fr:=b.atR a₁ [.beginRound,.code body]) rfl) (stepR_beginRound rfl hbr)
  obtain⟨e₂,a₂,w₃,hq₂,harr₂⟩:=Cx4 hbody b [] (c::cs) rfl hf;cases e₂ with
  |normal=>
   obtain⟨v,w₄,hend,hR⟩:=hq₂;exact⟨.returned v,w₄,hR,(StepsIn.trans harr s1).trans (StepsIn.trans harr₂ (.one (L1 (fr:=b.atR a₂ []) rfl) (stepR_round_end rfl rfl hend)))⟩
  |ret=>
   obtain⟨v,w₄,hend,hR⟩:=hq₂;obtain⟨k₁,hs⟩:=harr₂.2 rfl;exact⟨.returned v,w₄,hR,(StepsIn.trans harr s1).trans (StepsIn.trans hs (.one (L1 (fr:=b.atR a₂ (.code .ret::k₁)) rfl) (stepR_round_ret rfl rfl hend)))⟩
  |exit id=>
   obtain⟨v,w₄,hend,hR⟩:=hq₂;obtain⟨k₁,hk,hs⟩:=harr₂.2 rfl rfl;exact⟨.returned v,w₄,hR,(StepsIn.trans harr s1).trans (StepsIn.trans hs (.one (L1 (fr:=b.atR a₂ (.code (.exit id)::k₁)) rfl) (stepR_round_exit rfl rfl hk hend)))⟩
  |panic chain=>
   obtain⟨hd,hR⟩:=hq₂;obtain⟨todo,hs⟩:=harr₂;obtain⟨fn,hfn⟩:=hf;have hl:Frame.leaving P {b.atR a₂ todo with mode:= .panicking chain} w₃ (.panicked chain):=⟨rfl,hd,fn,hfn⟩
   exact⟨.panicked chain,w₃,hR,(StepsIn.trans harr s1).trans (StepsIn.trans hs (.one (fenced_leaving (n:=0) trivial (X9 _ _) hl) (step_leave_panicked hl)))⟩
  |goto t=>
   obtain⟨v,w₄,hend,hR⟩:=hq₂;obtain⟨k₁,hk,hs⟩:=harr₂.2 rfl rfl;exact⟨.returned v,w₄,hR,(StepsIn.trans harr s1).trans (StepsIn.trans hs (.one (L1 (fr:=b.atR a₂ (.code (.goto t)::k₁)) rfl) (stepR_round_goto rfl rfl hk hend)))⟩
  |outgrown=>exact hq₂.elim
 |exit id=>exact hq.elim
 |goto t=>exact hq.elim
 |ret=>exact hq.elim
 |panic chain=>exact hq.elim
 |outgrown=>exact hq.elim
def Au2(N:Nat)(sl:Tri):List Tmp->List V->Option Tri
 |[],[]=>some sl
 |p::ps,v::vs=>match Nat.blt p N with|true=>Au2 N (sl.set 10 p v) ps vs|false=>none
 |_,_=>none
def Fh6(f:Nat->Value):List (Tmp×Value)->Nat->Value
 |[]=>f
 |(p,v)::l=>Fh6 (upd f p v) l
theorem Bw4{N:Nat}:∀(l:List (Tmp×Value)) (f:Nat->Value),l.foldl (fun t (p,v)=>t.setIfInBounds p v) (fr N f []).tmps=(fr N (Fh6 f l) []).tmps
 |[],_=>rfl
 |(p,v)::l,f=>by
  simp only[foldl_cons,Fh6];have e:(fr N f []).tmps.setIfInBounds p v=(fr N (upd f p v) []).tmps:=by
   have:=congrArg Act.tmps (Eo7 (N:=N) (f:=f) (ds:=[]) (d:=p) (v:=v));exact this
  rw[e];exact Bw4 l (upd f p v)
theorem Cb0{N:Nat}(hN:N<=1024){M:Mem}{ρ:Rho}:∀{ps:List Tmp} {vs:List V} {us:List Value} {sl sl':Tri} {f:Nat->Value},Au2 N sl ps vs=some sl'->sl.ok 10->B2 M ρ vs us->(∀t,t<N->B8 M ρ (sl.get 10 t) (f t))->
 sl'.ok 10/\(∀t,t<N->B8 M ρ (sl'.get 10 t) (Fh6 f (ps.zip us) t))/\us.length=ps.length
 |[],[],us,sl,sl',f,h,hok,hr,hs=>by
  simp only[Au2,Option.some.injEq]at h;subst h;simp only[B2]at hr;subst hr;exact⟨hok,hs,rfl⟩
 |p::ps,v::vs,us,sl,sl',f,h,hok,hr,hs=>by
  unfold Au2 at h;split at h
  .rename_i hp;simp only[B2]at hr;obtain⟨u,us',rfl,h1,h2⟩:=hr;have hp:=Ac8 hp;obtain⟨a1,a2,a3⟩:=Cb0 hN (f:=upd f p u) h (Tri.set_ok _ _ _ _ hok) h2 (fun t ht=>by
    by_cases e:t=p
    .subst e;rw[Tri.get_set_same,An2];exact h1
    .rw[Tri.get_set_ne _ _ _ _ _ hok (by omega) (by omega) (fun e'=>e e'.symm),Cb6 _ _ e];exact hs t ht)
   exact⟨a1,a2,by simp[a3]⟩
  .cases h
 |[],_::_,_,_,_,_,h,_,_,_=>by cases h
 |_::_,[],_,_,_,_,h,_,_,_=>by cases h
section
variable {P:Program} {N:Nat} {x:Lp} {S:L8} {wl:World} {M0 Ms:Mem} {ρ0:Rho} {Good:List (List V)->List (Nat×B9)->Prop} {GoodX:Code->List (Nat×B9)->Prop} {GoodP:List (Nat×B9)->Prop} {sl:Tri} {f:Nat->Value}
theorem Ei2(hfx:∃fn,P.funcs[x.fn]? =some fn)(hN:N<=1024)(hx:x.tmps=(fr N f []).tmps)(hok:sl.ok 10)(hsl:∀t,t<N->B8 Ms ρ0 (sl.get 10 t) (f t))(hbig:∀r i,ρ0 r=some i->Nat.ble 2000 r=true)
 (hnf:∀ys ob,Good ys ob->∀q z,B0 ob q≠some (.frn z))
 (hJ:∀y ys ob,Good (y::ys) ob->∃sl',Au2 N sl x.ps.toList y=some sl'/\J (some x.L) P N [] (Eo5 x Good GoodX GoodP ys) ⟨sl',rob x .ready none ob,[.code x.as,.begR x.L,.code x.bo]⟩)
 (y:List V) (ys:List (List V)) (T:Nat->Prop) (M:Mem) (w:World) (vals:List Value) (hI:Et2 x S wl M0 ρ0 Ms Good (y::ys) T M w) (hs:Af8 M w) (hr:B2 M noR y vals) (hT0:∀b,T b->b<w.heap.size):
 Em4 P x.L vals w (fun e w'=>∃M',M.le M'/\Af8 M' w'/\Sz w'/\w.heap.size<=w'.heap.size/\(∀k,T k->w'.heap[k]? =w.heap[k]?/\M' k=M k)/\
  ((e= .returned (.bool true)/\Et2 x S wl M0 ρ0 Ms Good ys T M' w')\/(e= .returned (.bool false)/\Cw6 x S wl M0 ρ0 Ms GoodX T M' w')\/(Gd2 e/\Gl9 x S wl M0 ρ0 Ms GoodP T M' w'))):=by
 obtain⟨hle,ρ,ob,hg,ho,hT⟩:=hI;obtain⟨sl',hset,hj⟩:=hJ y ys ob hg;have hnf':∀(st:LoopState) (pe:Option Code) (ob:List (Nat×B9)),(∀q z,B0 ob q≠some (.frn z))->∀q z,B0 (rob x st pe ob) q≠some (.frn z):=fun st pe ob h q z=>by
  simp only[rob,B0];split
  .intro e;cases e
  .split
   .intro e;cases e
   .exact h q z
 have h1:B0 (rob x .ready none ob) 3001=some (.raw x.L (.loop (G2 x .ready none))):=rfl;have hR:Rle Ms M ρ0 ρ:=⟨hle,fun r i hi=>ho.held r i (hbig r i hi) hi⟩
 obtain⟨a1,a2,a3⟩:=Cb0 hN (f:=f) hset hok (B2.mono (ρ':=ρ) ⟨M.le_refl,fun r i hi=>by cases hi⟩ _ hr) (fun t ht=>B8.mono hR _ (hsl t ht));have hy:=run_yield (P:=P) (args:=vals.toArray) (ho.raw h1 (.loop (G2 x .ready none))).1 (by simp[G2,a3]);refine⟨x.fn,_,x.as,x.bo,hy,Ca1 hfx ?_⟩;have hb:=ho.base (r0:=ρ) M.le_refl hs (ad_ _) (fun k hk=>⟨rfl,rfl⟩) (fun q i hq _=>absurd hq (hnf' _ _ _ (hnf _ _ hg) q q)) (fun q z hq=>absurd hq (hnf' _ _ _ (hnf _ _ hg) q z)) (fun _ _ _ h=>h) ho.szw;have hw:=hj.2 ⟨TA ρ (B0 (rob x .ready none ob)),ρ⟩ w M trivial M ρ (Fh6 f (x.ps.toList.zip vals)) w ⟨hb,a1,a2⟩;have hfr:({tmps:=((G2 x .ready none).params.zip vals.toArray).foldl (fun t (p,v)=>t.setIfInBounds p v) (G2 x .ready none).tmps,defers:=[]}:Act)=fr N (Fh6 f (x.ps.toList.zip vals)) []:=by
  have e:((G2 x .ready none).params.zip vals.toArray).foldl (fun t (p,v)=>t.setIfInBounds p v) (G2 x .ready none).tmps=(fr N (Fh6 f (x.ps.toList.zip vals)) []).tmps:=by
   rw[<-Bw4,<-Array.foldl_toList];simp[G2,hx]
  rw[e];rfl
 rw[hfr];simp only[Wk,Exit.then]at hw;have hup:∀(st st':LoopState) (pe pe':Option Code) (ob:List (Nat×B9)),H6 (B0 (rob x st pe ob)) 3001 (.raw x.L (.loop (G2 x st' pe')))=B0 (rob x st' pe' ob):=fun st st' pe pe' ob=>by
  funext q;by_cases e:q=3001
  .subst e;rw[B3];rfl
  .rw[C5 _ _ e];simp only[rob,B0];split
   .rfl
   .have:Nat.beq q 3001=false:=I3 e;simp only[this]
 have hLTA:TA ρ (B0 (rob x .ready none ob)) x.L:=by
  obtain⟨i,hi,_,hib,_⟩:=ho.own 3001 _ h1;exact⟨3001,i,_,hi,h1,.inl ⟨trivial,hib⟩⟩
 have fin:∀(st':LoopState) (pe':Option Code) (ρ2:Rho) (M2:Mem) (ob2:List (Nat×B9)) (w3:World),Ow ⟨TA ρ (B0 (rob x .ready none ob)),ρ⟩ w M M2 ρ2 (B0 (rob x .busy none ob2)) w3->(∀q z,B0 ob2 q≠some (.frn z))->
  w3.heap[x.L]? =some (.loop (G2 x .busy none))/\M.le M2/\Af8 M2 (w3.putObj x.L (.loop (G2 x st' pe')))/\w.heap.size<=(w3.putObj x.L (.loop (G2 x st' pe'))).heap.size/\(∀k,T k->(w3.putObj x.L (.loop (G2 x st' pe'))).heap[k]? =w.heap[k]?/\M2 k=M k)/\
  Ow ⟨S.s,ρ0⟩ wl M0 M2 ρ2 (B0 (rob x st' pe' ob2)) (w3.putObj x.L (.loop (G2 x st' pe')))/\∀b,T b->¬TA ρ2 (B0 (rob x st' pe' ob2)) b/\(S b\/wl.heap.size<=b):=fun st' pe' ρ2 M2 ob2 w3 h2 hn2=>by
  have hc:=ho.comp h2 (hnf' _ _ _ hn2);have h3:B0 (rob x .busy none ob2) 3001=some (.raw x.L (.loop (G2 x .busy none))):=rfl;obtain⟨hh,h4⟩:=hc.raw h3 (.loop (G2 x st' pe'));obtain⟨_,h5⟩:=h2.raw h3 (.loop (G2 x st' pe'));rw[hup]at h4 h5;refine⟨hh,h2.le,h5.sits,h5.size,fun k hk=>⟨h5.old k (hT0 k hk) (hT k hk).1,?_⟩,h4,fun b hb=>⟨fun hta=> ?_,(hT b hb).2⟩⟩
  .cases hm:M2 k with
   |none=>
    cases hm0:M k with
    |none=>rfl
    |some c=>obtain⟨c',h3,_⟩:=h2.le _ _ hm0;rw[hm]at h3;cases h3
   |some c=>
    rcases h2.new k c hm (hT0 k hk) with h6|h6
    .exact h6.symm
    .exact absurd h6 (hT k hk).1
  .rcases(M6 h5 hta).1 with h6|h6
   .exact(hT b hb).1 h6
   .have:=hT0 b hb;omega
 have pan:∀(r1 ρ2:Rho) (M2:Mem) (ob2:List (Nat×B9)) (w3:World),Ow ⟨TA ρ (B0 (rob x .ready none ob)),r1⟩ w M M2 ρ2 (B0 (rob x .busy none ob2)) w3->(∀q i,ρ q=some i->(∃o,B0 (rob x .busy none ob2) q=some o)->r1 q=some i)->(∀q z,B0 ob2 q≠some (.frn z))->
  M.le M2/\Af8 M2 w3/\w.heap.size<=w3.heap.size/\(∀k,T k->w3.heap[k]? =w.heap[k]?/\M2 k=M k)/\
  ∃r2,(∀q i,ρ0 q=some i->(∃o,B0 ob2 q=some o)->r2 q=some i)/\Ow ⟨S.s,r2⟩ wl M0 M2 ρ2 (B0 (rob x .busy none ob2)) w3/\∀b,T b->¬TA ρ2 (B0 (rob x .busy none ob2)) b/\(S b\/wl.heap.size<=b):=fun r1 ρ2 M2 ob2 w3 h2 hr1 hn2=>by
  have hob:∀q,(∃o,B0 ob2 q=some o)->∃o,B0 (rob x .busy none ob2) q=some o:=fun q ⟨o,ho⟩=>by
   simp only[rob,B0];split
   .exact⟨_,rfl⟩
   .split
    .exact⟨_,rfl⟩
    .exact⟨o,ho⟩
  have hc:=ho.compP h2 (hnf' _ _ _ hn2) (r2:=Bf3 (F8 ob2) ρ0) (fun q i hb hq=>by
   obtain⟨hm,hq⟩:=Bj6 hq;obtain⟨j,h3,h4⟩:=ho.held q i hb hq;obtain⟨k,h5,h6⟩:=h2.held q j hb (hr1 q j h3 (hob q (I4.1 hm)));exact⟨k,h5,h4.trans h6⟩)
  refine⟨h2.le,h2.sits,h2.size,fun k hk=>⟨h2.old k (hT0 k hk) (hT k hk).1,?_⟩,_,fun q i hq ho'=> ?_,hc,fun b hb=>⟨fun hta=> ?_,(hT b hb).2⟩⟩
  .cases hm:M2 k with
   |none=>
    cases hm0:M k with
    |none=>rfl
    |some c=>obtain⟨c',h3,_⟩:=h2.le _ _ hm0;rw[hm]at h3;cases h3
   |some c=>
    rcases h2.new k c hm (hT0 k hk) with h6|h6
    .exact h6.symm
    .exact absurd h6 (hT k hk).1
  .unfold Bf3;rw[I4.2 ho'];exact hq
  .rcases(M6 h2 hta).1 with h6|h6
   .exact(hT b hb).1 h6
   .have:=hT0 b hb;omega
 refine Bt5 hw (fun e a1 w1 hq=> ?_);cases e with
 |normal=>
  obtain⟨w2,hbr,hbo⟩:=hq;refine⟨w2,hbr,Bt5 hbo (fun e2 a2 w3 hfin=> ?_)⟩;obtain⟨hdf,hfin⟩:=hfin;rcases hfin with⟨ρ2,M2,ob2,h2,hn2,hcase⟩|⟨⟨t,u,rfl⟩,r1,ρ2,M2,ob2,h2,hr1,hn2,hgp⟩
  .rcases hcase with⟨rfl,hgd⟩|⟨rfl,hgx⟩|⟨id,rfl,hgx⟩|⟨id,rfl,hgx⟩
   .obtain⟨b1,b2,b3,b4,b5,b6,b7⟩:=fin .ready none ρ2 M2 ob2 w3 h2 hn2;exact⟨_,_,run_endRound (P:=P) none b1,M2,b2,b3,b6.szw,b4,b5,.inl ⟨rfl,Mem.le_trans hle b2,ρ2,ob2,hgd,b6,b7⟩⟩
   .obtain⟨b1,b2,b3,b4,b5,b6,b7⟩:=fin .done (some .ret) ρ2 M2 ob2 w3 h2 hn2;exact⟨_,_,run_endRound (P:=P) (some .ret) b1,M2,b2,b3,b6.szw,b4,b5,.inr (.inl ⟨rfl,Mem.le_trans hle b2,ρ2,ob2,.ret,hgx,b6,b7⟩)⟩
   .obtain⟨b1,b2,b3,b4,b5,b6,b7⟩:=fin .done (some (.exit id)) ρ2 M2 ob2 w3 h2 hn2;exact⟨_,_,run_endRound (P:=P) (some (.exit id)) b1,M2,b2,b3,b6.szw,b4,b5,.inr (.inl ⟨rfl,Mem.le_trans hle b2,ρ2,ob2,.exit id,hgx,b6,b7⟩)⟩
   .obtain⟨b1,b2,b3,b4,b5,b6,b7⟩:=fin .done (some (.goto id)) ρ2 M2 ob2 w3 h2 hn2;exact⟨_,_,run_endRound (P:=P) (some (.goto id)) b1,M2,b2,b3,b6.szw,b4,b5,.inr (.inl ⟨rfl,Mem.le_trans hle b2,ρ2,ob2,.goto id,hgx,b6,b7⟩)⟩
  .obtain⟨b2,b3,b4,b5,r2,b8,b6,b7⟩:=pan r1 ρ2 M2 ob2 w3 h2 hr1 hn2;exact⟨hdf,M2,b2,b3,b6.szw,b4,b5,.inr (.inr ⟨⟨t,u,rfl⟩,Mem.le_trans hle b2,r2,ρ2,ob2,hgp,b8,b6,b7⟩)⟩
 |_=>exact hq
end
end
section
def Ai6(K:List Nat):Tri->Bool
 | .e=>true
 | .lf v=>Q6 K v
 | .nd l r=>match Ai6 K l with|true=>Ai6 K r|false=>false
theorem U5{K:List Nat}:∀(d:Nat) (t:Tri) (n:Nat),Ai6 K t=true->Q6 K (t.get d n)=true
 |_,.e,_,_=>by rw[Tri.get_e];rfl
 |0,.lf v,_,h=>h
 |d+1,.lf v,_,h=>h
 |0,.nd _ _,_,_=>rfl
 |d+1,.nd l r,n,h=>by
  simp only[Ai6]at h;split at h
  .rename_i hl;simp only[Tri.get];split
   .exact U5 d l _ hl
   .exact U5 d r _ h
  .cases h
def Ap9:List Nat->Bool
 |[]=>true
 |k::l=>match Nat.ble 2000 k with|true=>Ap9 l|false=>false
theorem As7:∀{l:List Nat} {r:Nat},Ap9 l=true->D7 r l=true->Nat.ble 2000 r=true
 |[],_,_,h=>by cases h
 |k::l,r,hb,h=>by
  unfold Ap9 at hb;split at hb
  .rename_i h1;unfold D7 at h;split at h
   .rename_i he;rw[nB_ he];exact h1
   .exact As7 hb h
  .cases hb
def Bc4(N:Nat)(c:Cfg):Option (FuncId×List V×List V):=match c.td with
 | .code (.rangeFunc g _ _ _)::_=>match G3 N c.sl g with
   | .fn gf first cap=>some (gf,first,cap)
   | .d (.fnc gf)=>some (gf,[],[])
   |_=>none
 |_=>none
theorem Bz7{N:Nat}{c:Cfg}{gf:FuncId}{first cap:List V}(h:Bc4 N c=some (gf,first,cap)):∃g ps as bo k,c.td= .code (.rangeFunc g ps as bo)::k/\∀{S:L8} {wl w:World} {M0 M:Mem} {ρ:Rho} {f:Nat->Value} {ds:List Deferred},Abs S wl M0 M ρ N c f w->∃fs cs,(fr N f ds).eval g= .func (.func gf) fs.toArray cs.toArray/\B2 M ρ first fs/\B2 M ρ cap cs:=by
 unfold Bc4 at h;split at h
 .rename_i g ps as bo k ht;refine⟨g,ps,as,bo,k,ht,?_⟩;intro S wl w M0 M ρ f ds ha;have hr:=G1 (ds:=ds) ha g;split at h
  .rename_i gf' first' cap' hv;cases h;rw[hv]at hr;simp only[B8]at hr;exact hr
  .rename_i gf' hv;cases h;rw[hv]at hr;have hr:=I6 hr;generalize (fr N f ds).eval g=u at hr⊢;cases hr;exact⟨[],[],rfl,by simp only[B2],by simp only[B2]⟩
  .cases h
 .cases h
def Bd9(base:List Deferred):List Nat->List Deferred
 |[]=>base
 |D::Ds=>{target:= .collected D,args:= #[]}::Bd9 base Ds
abbrev dfs(Ds:List Nat):List Deferred:=Bd9 [] Ds
structure Bas where
 w:World
 s:Nat->Prop
abbrev Bas.of(w:World):Bas:=⟨w,fun _=>False⟩
structure Ge2(s0:Nat->Prop)(M0 M:Mem)(w0 w:World):Prop where
 os:w.os=w0.os
 tape:w.tape=w0.tape
 output:w.output=w0.output
 size:w0.heap.size<=w.heap.size
 block:∀k,k<w0.heap.size->¬s0 k->w.heap[k]? =w0.heap[k]?
 le:Mem.le M0 M
 sits:Af8 M w
 new:∀b c,M b=some c->b<w0.heap.size->M0 b=some c\/s0 b
theorem toS{s0:Nat->Prop}{M0 M:Mem}{w0 w:World}(h:Ext M0 M w0 w):Ge2 s0 M0 M w0 w:=
 ⟨h.below.os,h.below.tape,h.below.output,h.below.size,fun k hk _=>h.below.block k hk,h.le,h.sits,fun b c hb hlt=> .inl (h.new b c hb hlt)⟩
def Gn1(wl:World)(M0:Mem):Option V->Ending->World->Prop
 |some v=>Fr0 wl M0 v
 |none=>Gm9 wl M0
def HM(w0:Bas)(M00:Mem)(Ds:List Nat)(S:L8)(wl:World)(M0:Mem):Prop:=
 Ge2 w0.s M00 M0 w0.w wl/\(∀b,S.s b->w0.s b\/w0.w.heap.size<=b)/\(∀D,D∈Ds->w0.w.heap.size<=D/\D<wl.heap.size/\¬S.s D/\M0 D=none/\wl.heap[D]? =some (.deferred (some [])))/\Ds.Nodup
def Bi8(P:Program)(fn:Func)(R:Ending->World->Prop)(w0:Bas)(M00:Mem)(hr:Rho)(Ds:List Nat):Fin where
 H:=fun S wl M0=>S.r0=hr/\HM w0 M00 Ds S wl M0
 post:=fun _ _ _ e a w=>bodyPostM (WF none) 0 P fn R e a w
abbrev Gc5(P:Program)(fn:Func)(v:Option V)(w0:World)(M00:Mem)(hr:Rho)(Ds:List Nat):Fin:=Bi8 P fn (Gn1 w0 M00 v) (.of w0) M00 hr Ds
abbrev Gq2(P:Program)(fn:Func)(v:V)(w0:World)(M00:Mem)(Ds:List Nat):Fin:=Gc5 P fn (some v) w0 M00 noR Ds
section
variable {P:Program} {N:Nat} {fn:Func} {v:V} {w0:World} {M00:Mem} {b0:Bas} {Ds:List Nat} {c:Cfg} {S:L8} {wl w:World} {M0 M:Mem} {ρ:Rho} {ob:Nat->Option B9} {f:Nat->Value}
theorem Ce2(hH:HM b0 M00 Ds S wl M0)(h:Ow S wl M0 M ρ ob w)(hn:∀q z,ob q≠some (.frn z)):
 HM b0 M00 Ds ⟨TA ρ ob,noR⟩ w M/\Ow ⟨TA ρ ob,noR⟩ w M M ρ ob w:=by
 obtain⟨h1,h2,h3,h4⟩:=hH;refine⟨⟨⟨h.os.trans h1.os,h.tape.trans h1.tape,h.output.trans h1.output,ah_ h1.size h.size,fun k hk hs0=> ?_,Mem.le_trans h1.le h.le,h.sits,fun b c hb hlt=> ?_⟩,fun b hb=> ?_,fun D hD=> ?_,h4⟩,h.base M.le_refl h.sits (ad_ _) (fun k hk=>⟨rfl,rfl⟩) (fun q i hq _=>absurd hq (hn q q)) (fun q z hq=>absurd hq (hn q z)) (fun _ _ _ h=>(by cases h)) h.szw⟩
 .rw[h.old k (a0_ hk h1.size) (fun hs=>by rcases h2 k hs with h5|h5;exact hs0 h5;omega)];exact h1.block k hk hs0
 .rcases h.new b c hb (a0_ hlt h1.size) with h5|h5
  .exact h1.new b c h5 hlt
  .rcases h2 b h5 with h6|h6
   .exact .inr h6
   .omega
 .rcases(M6 h hb).1 with h5|h5
  .exact h2 b h5
  .exact .inr (ah_ h1.size h5)
 .obtain⟨a1,a2,a3,a4,a5⟩:=h3 D hD;refine⟨a1,a0_ a2 h.size,fun ht=> ?_,?_,by rw[h.old D a2 a3];exact a5⟩
  .rcases(M6 h ht).1 with h5|h5
   .exact a3 h5
   .omega
  .cases hm:M D with
   |none=>rfl
   |some c=>
    rcases h.new D c hm a2 with h5|h5
    .rw[a4]at h5;cases h5
    .exact absurd h5 a3
theorem Bc0{tmps:Array Value}{R:Ending->World->Prop}{base:List Deferred}{u:FrameMode}(hu:u≠ .run)(hn:∀q z,ob q≠some (.frn z))(hbase:∀S w,HM b0 M00 [] S w M->Ow S w M M ρ ob w->LeavesInM (WF none) 0 P fn tmps R base u w):
 ∀(Ds:List Nat) (S:L8) (wl w:World) (M0:Mem),HM b0 M00 Ds S wl M0->Ow S wl M0 M ρ ob w->LeavesInM (WF none) 0 P fn tmps R (Bd9 base Ds) u w
 |[],S,wl,w,M0,hH,h=>by
  obtain⟨h1,h2⟩:=Ce2 hH h hn;exact hbase _ _ h1 h2
 |D::Ds,S,wl,w,M0,hH,h=>by
  obtain⟨⟨h1,h2,h3,h4⟩,h5⟩:=Ce2 hH h hn;obtain⟨a1,a2,a3,a4,a5⟩:=h3 D ab_;refine⟨hu,.inl ⟨D,w.putObj D (.deferred none),rfl,run_takeDeferred a5,?_⟩⟩;have hoth:∀k,k≠D->(w.putObj D (.deferred none)).heap[k]? =w.heap[k]? :=fun k hk=>World.putObj_heap_other hk
  have hsits:Af8 M (w.putObj D (.deferred none)):=fun b c hb=>by
   have:b≠D:=fun e=>by rw[e,a4]at hb;cases hb
   rw[hoth b this];exact h5.sits b c hb
  refine Bc0 hu hn hbase Ds ⟨TA ρ ob,noR⟩ (w.putObj D (.deferred none)) (w.putObj D (.deferred none)) M ⟨⟨h1.os,h1.tape,h1.output,by simpa using h1.size,fun k hk hs0=> ?_,h1.le,hsits,h1.new⟩,h2,fun D' hD'=> ?_,(nodup_cons.1 h4).2⟩ ?_
  .rw[hoth k (by omega)];exact h1.block k hk hs0
  .obtain⟨b1,b2,b3,b4,b5⟩:=h3 D' (mem_cons_of_mem _ hD');refine⟨b1,by simpa using b2,b3,b4,?_⟩;rw[hoth D' (fun e=>(nodup_cons.1 h4).1 (e▸hD'))];exact b5
  .exact h.base M.le_refl hsits (by simp) (fun k hk=>⟨hoth k (fun e=>a3 (e▸hk)),rfl⟩) (fun q i hq _=>absurd hq (hn q q)) (fun q z hq=>absurd hq (hn q z)) (fun _ _ _ h=>(by cases h)) (h.szw.frame fun k _ ⟨cs,e⟩=>hoth k fun e'=>by
   obtain⟨us,⟨c,hc,_⟩,_⟩:=h.gl.ok.d k cs e;rw[e',a4]at hc;cases hc)
theorem F4{l:List (Nat×B9)}(h:V4 l=true):∀q z,B0 l q≠some (.frn z):=Eq7 h
theorem Eh8{rs:List ResultVar}{vs xs ys:List V}{wr:Wr}(hfn:fn.results=rs.toArray)(hv:Du8 P N c rs=some vs)(hx:M7 (B0 c.ob) vs=some (xs,wr))(hre:R1 xs ys)(he:Dc3 ys=v)
 (hH:HM (.of w0) M00 [] S wl M0) (h:Abs S wl M0 M ρ N c f w):LeavesInM (WF none) 0 P fn (fr N f []).tmps (Fr0 w0 M00 v) [] .returning w:=by
 obtain⟨us,h3,h4⟩:=Ai5 h hv;obtain⟨M',r1,o1,d1⟩:=F1 h.ow h4 hx;obtain⟨h1,h2,_⟩:=hH;refine⟨Cv6 us,O5 (ds:=[]) hfn h3,Cv6 us,M',rfl,⟨⟨o1.os.trans h1.os,o1.tape.trans h1.tape,o1.output.trans h1.output,ah_ h1.size o1.size,fun k hk=> ?_⟩,Mem.le_trans h1.le o1.le,o1.sits,fun b c hb hlt=> ?_⟩,?_⟩
 .rw[o1.old k (a0_ hk h1.size) (fun hs=>by rcases h2 k hs with h5|h5;exact h5;exact absurd hk (Nat.not_lt.2 h5))];exact h1.block k hk id
 .rcases o1.new b c hb (a0_ hlt h1.size) with h5|h5
  .exact(h1.new b c h5 hlt).resolve_right id
  .rcases h2 b h5 with h6|h6
   .exact h6.elim
   .exact absurd hlt (Nat.not_lt.2 h6)
 .rw[<-he];exact Am8 (hre.rel (d1 noR))
theorem Em0{rs:List ResultVar}{xs:List V}(ys:List V)(hfn:fn.results=rs.toArray)(hN:Nat.ble N 1024=true)(hv:Du6 P N c rs=some xs)(hre:R1 xs ys)(he:Dc3 ys=v)(hn:V4 c.ob=true):J none P N (dfs Ds) (Gq2 P fn v w0 M00 Ds) c:=by
 refine⟨I1 hN,fun S wl M0 hH M ρ f w h=> ?_⟩;unfold Du6 at hv;split at hv
 .rename_i hat;split at hv
  .rename_i vs hvs;split at hv
   .rename_i xs' wr hx;cases hv;have key:bodyPostM (WF none) 0 P fn (Fr0 w0 M00 v) .ret (fr N f (dfs Ds)) w:=Bc0 (tmps:=(fr N f []).tmps) (by intro e;cases e) (F4 hn) (fun S w h1 h2=>Eh8 hfn hvs hx hre he h1 ⟨h2,h.ok,h.sl⟩) Ds S wl w M0 hH.2 h.ow;unfold Be2 at hat;split at hat
    .rename_i ht;rw[ht];exact Ce7 (Z4 _ hat key)
    .rename_i ht;rw[ht];exact key
    .cases hat
   .cases hv
  .cases hv
 .cases hv
theorem Eo4{g:FuncId}{c:Code}{vs:List Value}{R:Ending->World->Prop}(hf:P.funcs[g]? =some fn)(hb:fn.body=some c)(hN:fn.ntmps=N)(hv:vs.length<=N)
 (h:W none P c (bodyPostM (WF none) 0 P fn R) (fr N (Cc2 vs) []) w):Calls P g vs.toArray w R:=by
 refine CallsIn.calls (F:=WF none) (n:=0) ⟨trivial,fun cs hr=> ?_⟩ (X9 none)
 let b:Frame:={(default:Frame) with fn:=g,kind:= .normal,roundOf:=none}
 have henter:Frame.enter P g vs.toArray .normal=b.atR (fr N (Cc2 vs) []) [.code c]:=by
  rw[<-Cq3 N vs hv,<-hN];simp[Frame.enter,Frame.atR,hf,hb,b]
 obtain⟨e,a',w',hq,harr⟩:=Cx4 h b [] cs rfl ⟨fn,hf⟩;rw[<-henter]at harr;cases e with
 |normal=>
  obtain⟨e',w'',fr',hR,hs,hfn,hl⟩:=leaves_stepsInM (F:=WF none) a'.defers .returning w' {b.atR a' [] with mode:= .returning} cs rfl rfl rfl hf rfl trivial hr hq;exact⟨e',w'',fr',hR,ComesIn.of_steps (StepsIn.trans harr (.one (L1 (fr:=b.atR a' []) rfl) (stepR_end rfl))) hs,hfn,hl⟩
 |ret=>
  obtain⟨todo,hs₀⟩:=harr.1 rfl;obtain⟨e',w'',fr',hR,hs,hfn,hl⟩:=leaves_stepsInM (F:=WF none) a'.defers .returning w' {b.atR a' todo with mode:= .returning} cs rfl rfl rfl hf rfl trivial hr hq;exact⟨e',w'',fr',hR,ComesIn.of_steps hs₀ hs,hfn,hl⟩
 |panic chain=>
  obtain⟨todo,hs₀⟩:=harr;obtain⟨e',w'',fr',hR,hs,hfn,hl⟩:=leaves_stepsInM (F:=WF none) a'.defers (.panicking chain) w' {b.atR a' todo with mode:= .panicking chain} cs rfl rfl rfl hf rfl trivial hr hq;exact⟨e',w'',fr',hR,ComesIn.of_steps hs₀ hs,hfn,hl⟩
 |exit id=>exact hq.elim
 |goto l=>exact hq.elim
 |outgrown=>exact⟨.outgrown,w',b,hq,harr.resolve_left (by simp[b]),rfl,trivial⟩
theorem Fb1{g:FuncId}{b:Code}{args:List V}{o:Option V}(hf:P.funcs[g]? =some fn)(hb:fn.body=some b)(hN:fn.ntmps=N)(hv:Nat.ble args.length N=true)(h:∀w0 M00,J none P N (dfs []) (Gc5 P fn o w0 M00 noR []) ⟨mkT (Dj0 0 args),[],[.code b]⟩):Ge0 P g args o:=by
 have key:∀M w vals,Af8 M w->GlA M w->B2 M noR args vals->Calls P g vals.toArray w (Gn1 w M o):=by
  intro M w vals hs hgl hr;have hl:=I1 hv;refine Eo4 hf hb hN (by rw[hr.len];exact hl) ?_;have h:=h w M;have:=h.2 ⟨fun _=>False,noR⟩ w M ⟨rfl,toS (Ext.refl hs),fun _ h=>h.elim,fun _ h=>(by cases h),nodup_nil⟩ M noR (Cc2 vals) w ⟨⟨ad_ _,rfl,rfl,rfl,fun _ _ _=>rfl,hs,M.le_refl,hgl.entry (fun _ _ _ h=>h),fun _ _ h _=> .inl h,fun r o h=>(by simp[B0]at h),fun r i h=>(by cases h),fun r r' o o' i i' b h=>(by simp[B0]at h),fun r i _ h=>(by cases h)⟩,Al6 _,Ac7 h.1 _ (fun t v hm=>by
   obtain⟨_,h2⟩:=Ad9 hm;rw[a8_]at h2;obtain⟨u,h3,h4⟩:=hr.get h2;exact⟨a0_ (ac_.1 h2).1 hl,by unfold Cc2;rw[h3];exact h4⟩)⟩
  simp only[Wk,Exit.then]at this;exact this
 cases o with
 |some v=>exact key
 |none=>exact key
theorem Co3{g:FuncId}{b:Code}{args:List V}(hf:P.funcs[g]? =some fn)(hb:fn.body=some b)(hN:fn.ntmps=N)(hv:Nat.ble args.length N=true)(h:∀w0 M00,J none P N (dfs []) (Gq2 P fn v w0 M00 []) ⟨mkT (Dj0 0 args),[],[.code b]⟩):C1 P g args v:=
 Fb1 (o:=some v) hf hb hN hv h
end
def okB(K:List Nat)(ob:List (Nat×B9)):Bool:=match V4 ob,J8 (B0 ob) (F8 ob) (F8 ob),Dz7 K (F8 ob),D7 3000 (F8 ob),D7 3001 (F8 ob) with
 |true,true,true,false,false=>true
 |_,_,_,_,_=>false
theorem Av3{K:List Nat}{ob:List (Nat×B9)}(h:okB K ob=true):V4 ob=true/\J8 (B0 ob) (F8 ob) (F8 ob)=true/\Dz7 K (F8 ob)=true/\D7 3000 (F8 ob)=false/\D7 3001 (F8 ob)=false:=by
 unfold okB at h;split at h
 .rename_i h1 h2 h3 h4 h5;exact⟨h1,h2,h3,h4,h5⟩
 .cases h
section
variable {P:Program} {N:Nat} {x:Lp} {Good:List (List V)->List (Nat×B9)->Prop} {GoodX:Code->List (Nat×B9)->Prop} {GoodP:List (Nat×B9)->Prop} {ys:List (List V)} {c:Cfg}
theorem Bt0(hN:Nat.ble N 1024=true)(ob:List (Nat×B9))(ht:c.td=[])(hob:c.ob=rob x .busy none ob)(hn:V4 ob=true)(hg:Good ys ob):J (some x.L) P N [] (Eo5 x Good GoodX GoodP ys) c:=by
 refine⟨I1 hN,fun S wl M0 hH M ρ f w h=> ?_⟩;rw[ht];exact⟨rfl,.inl ⟨ρ,M,ob,hob▸h.ow,F4 hn,.inl ⟨rfl,hg⟩⟩⟩
theorem Di0(hN:Nat.ble N 1024=true)(ob:List (Nat×B9)){k:List It}(ht:c.td= .code .ret::k)(hk:Bf1 k=true)(hob:c.ob=rob x .busy none ob)(hn:V4 ob=true)(hg:GoodX .ret ob):J (some x.L) P N [] (Eo5 x Good GoodX GoodP ys) c:=by
 refine⟨I1 hN,fun S wl M0 hH M ρ f w h=> ?_⟩;rw[ht];exact Ce7 (Z4 _ hk ⟨rfl,.inl ⟨ρ,M,ob,hob▸h.ow,F4 hn,.inr (.inl ⟨rfl,hg⟩)⟩⟩)
end
def P5(g:V->V):Tri->Tri
 | .e=> .e
 | .lf v=> .lf (g v)
 | .nd l r=> .nd (P5 g l) (P5 g r)
theorem W8{g:V->V}(hg:g .undef= .undef):∀(d:Nat) (t:Tri) (n:Nat),(P5 g t).get d n=g (t.get d n)
 |d,.e,n=>by simp only[P5];rw[Tri.get_e,hg]
 |0,.lf v,n=>rfl
 |d+1,.lf v,n=>by simp only[P5,Tri.get];try exact hg.symm
 |0,.nd l r,n=>by simp only[P5,Tri.get];try exact hg.symm
 |d+1,.nd l r,n=>by
  simp only[P5,Tri.get];split
  .exact W8 hg d l _
  .exact W8 hg d r _
theorem Al4{g:V->V}:∀(d:Nat) (t:Tri),t.ok d->(P5 g t).ok d
 |0,.e,_=>trivial
 |_+1,.e,_=>trivial
 |0,.lf _,_=>rfl
 |_+1,.lf _,h=>h
 |0,.nd _ _,h=>h
 |d+1,.nd l r,h=>⟨Al4 d l h.1,Al4 d r h.2⟩
def Dz6(p:List (Nat×Nat))(ob:Nat->Option B9):List (Nat×Nat)->List (Nat×B9)
 |[]=>[]
 |(a,b)::l=>match ob a with|some o=>(b,Ct4 p o)::Dz6 p ob l|none=>Dz6 p ob l
theorem Bp9{p:List (Nat×Nat)}{ob:Nat->Option B9}(q:Nat):∀l:List (Nat×Nat),(∀a b,(a,b)∈l->∃o,ob a=some o)->B0 (Dz6 p ob l) q=match lk (inv l) q with|some a=>(match ob a with|some o=>some (Ct4 p o)|none=>none)|none=>none
 |[],_=>rfl
 |(a,b)::l,h=>by
  obtain⟨o,ha⟩:=h a b ab_;have ih:=Bp9 (p:=p) q l (fun a b hm=>h a b (mem_cons_of_mem _ hm));simp only[Dz6,inv,lk,ha,B0];cases hq:Nat.beq q b with
  |true=>simp only[ha]
  |false=>exact ih
def Ce8(p:List (Nat×Nat))(ob:Nat->Option B9):List (Nat×Nat)->Bool
 |[]=>true
 |(a,_)::l=>match ob a with|some _=>Ce8 p ob l|none=>false
def Ay8(p:List (Nat×Nat)):List (Nat×B9)->Bool
 |[]=>true
 |(r,_)::l=>match Nat.ble 2000 r with
  |true=>match lk p r with|some s=>(match Nat.beq s r with|true=>Ay8 p l|false=>false)|none=>false
  |false=>Ay8 p l
theorem As8{p:List (Nat×Nat)}:∀{l:List (Nat×B9)} {r:Nat} {o:B9},Ay8 p l=true->B0 l r=some o->Nat.ble 2000 r=true->lk p r=some r
 |[],_,_,_,h,_=>by cases h
 |(q,x)::l,r,o,h,ho,hb=>by
  unfold Ay8 at h;simp only[B0]at ho;cases hq:Nat.beq r q with
  |true=>
   obtain rfl:=nB_ hq;rw[hb]at h;simp only at h;split at h
   .rename_i s hs;split at h
    .rename_i he;rw[hs,nB_ he]
    .cases h
   .cases h
  |false=>
   rw[hq]at ho;refine As8 (l:=l) ?_ ho hb;split at h
   .split at h
    .split at h
     .exact h
     .cases h
    .cases h
   .exact h
section
variable {r:Option Nat} {P:Program} {N:Nat} {ds:List Deferred} {fin:Fin} {c:Cfg}
theorem Aq0{p:List (Nat×Nat)}{ob:Nat->Option B9}:∀{l:List (Nat×Nat)},Ce8 p ob l=true->∀a b,(a,b)∈l->∃o,ob a=some o
 |[],_,a,b,h=>by cases h
 |(x,y)::l,h,a,b,hm=>by
  unfold Ce8 at h;split at h
  .rename_i o ho;rcases mem_cons.1 hm with e|hm
   .cases e;exact⟨o,ho⟩
   .exact Aq0 h a b hm
  .cases h
theorem Ay1(p:List (Nat×Nat))(hb:bij p=true)(ha:Ce8 p (B0 c.ob) p=true)(hs:Ay8 p c.ob=true)(hn:V4 c.ob=true)(hk:J r P N ds fin ⟨P5 (Av7 p) c.sl,Dz6 p (B0 c.ob) p,c.td⟩):J r P N ds fin c:=by
 refine⟨hk.1,fun S wl M0 hH M ρ f w h=> ?_⟩;have e:V6 p (B0 c.ob)=B0 (Dz6 p (B0 c.ob) p):=by
  funext q;rw[Bp9 q p (fun a b hm=>Aq0 ha a b hm)];unfold V6;cases lk (inv p) q with
  |none=>rfl
  |some a=>rfl
 have ho:=h.ow.ren (r1:=S.r0) hb (fun a o t h1 h2=>by
  cases hf:Bx4 o with
  |false=>rfl
  |true=>
   cases o with
   |frn z=>exact absurd h2 (F4 hn a z)
   |_=>cases hf) (fun t i hbt hi=>by
  obtain⟨j,h1,h2⟩:=h.ow.held t i hbt hi;obtain⟨o,h3⟩:=h.ow.dom t j h1;exact⟨j,by rw[Ad2 hb (As8 hs h3 hbt)];exact h1,h2⟩)
 rw[e]at ho;refine hk.2 S wl M0 hH M (Ar5 p ρ) f w ⟨ho,Al4 10 _ h.ok,fun t ht=> ?_⟩;dsimp only;rw[W8 rfl];exact Bq1 hb _ (h.sl t ht)
theorem El8{fn:Func}{R:Ending->World->Prop}{w0:Bas}{M00:Mem}{Ds:List Nat}{hr:Rho}(p:List (Nat×Nat))(hhr:∀t i,hr t=some i->lk (inv p) t=some t)(hb:bij p=true)(ha:Ce8 p (B0 c.ob) p=true)(hn:V4 c.ob=true)(hk:J r P N ds (Bi8 P fn R w0 M00 hr Ds) ⟨P5 (Av7 p) c.sl,Dz6 p (B0 c.ob) p,c.td⟩):J r P N ds (Bi8 P fn R w0 M00 hr Ds) c:=by
 refine⟨hk.1,fun S wl M0 hH M ρ f w h=> ?_⟩;have e:V6 p (B0 c.ob)=B0 (Dz6 p (B0 c.ob) p):=by
  funext q;rw[Bp9 q p (fun a b hm=>Aq0 ha a b hm)];unfold V6;cases lk (inv p) q with
  |none=>rfl
  |some a=>rfl
 have ho:=h.ow.ren (r1:=S.r0) hb (fun a o t h1 h2=>by
  cases hf:Bx4 o with
  |false=>rfl
  |true=>
   cases o with
   |frn z=>exact absurd h2 (F4 hn a z)
   |_=>cases hf) (fun t i hbt hi=>by
  obtain⟨j,h1,h2⟩:=h.ow.held t i hbt hi;rw[show S.r0=hr from hH.1]at hi;exact⟨j,by unfold Ar5;rw[hhr t i hi];exact h1,h2⟩)
 rw[e]at ho;refine hk.2 S wl M0 hH M (Ar5 p ρ) f w ⟨ho,Al4 10 _ h.ok,fun t ht=> ?_⟩;dsimp only;rw[W8 rfl];exact Bq1 hb _ (h.sl t ht)
theorem El9{fn:Func}{v:Option V}{w0:World}{M00:Mem}{Ds:List Nat}(p:List (Nat×Nat))(hb:bij p=true)(ha:Ce8 p (B0 c.ob) p=true)(hn:V4 c.ob=true)(hk:J r P N ds (Gc5 P fn v w0 M00 noR Ds) ⟨P5 (Av7 p) c.sl,Dz6 p (B0 c.ob) p,c.td⟩):J r P N ds (Gc5 P fn v w0 M00 noR Ds) c:=
 El8 p (fun _ _ h=>by cases h) hb ha hn hk
theorem Dp1{fin:Fin}{sl:Tri}{ps:List Tmp}{y:List V}{ob:List (Nat×B9)}{td:List It}(h1:(Au2 N sl ps y).isSome=true)(h2:J r P N ds fin ⟨(Au2 N sl ps y).getD .e,ob,td⟩):∃sl',Au2 N sl ps y=some sl'/\J r P N ds fin ⟨sl',ob,td⟩:=by
 cases h:Au2 N sl ps y with
 |none=>rw[h]at h1;cases h1
 |some sl'=>rw[h]at h2;exact⟨sl',rfl,h2⟩
end
theorem smh{α β:Type}{l k:List α}{f:α->β}{lo:Int}(h:slc l lo (l.length:Int)=some k):slc (l.map f) lo ((l.map f).length:Int)=some (k.map f):=by
 rw[length_map];exact sm h
theorem gmd{α β:Type}{l:List α}{f:α->β}{n:Nat}{i:Int}{y:α}(h:C2 (l.drop n) i=some y):C2 ((l.map f).drop n) i=some (f y):=by
 rw[<-map_drop];exact gm h
theorem gjd{α:Type}{l:List α}{n:Nat}{i:Int}{y:α}(h:C2 (l.drop n) i=some y):l[(n+i.toNat)]? =some y:=by
 have:=(N0 h).2
 rwa [getElem?_drop]at this
end
section
theorem B2.split{M:Mem}{ρ:Rho}:∀{us vs:List Value} {xs:List V},B2 M ρ xs (us++vs)->B2 M ρ (xs.take us.length) us/\B2 M ρ (xs.drop us.length) vs
 |us,vs,xs,h=>by
  have h1:=B2.take us.length h;have h2:=B2.drop us.length h;simp at h1 h2;exact⟨h1,h2⟩
def Gd9(c:Cfg)(vs:List V):Option (List V):=match M7 (B0 c.ob) vs with|some (xs,_)=>some xs|none=>none
def obR(c:Cfg)(vs:List V):List (Nat×B9):=match M7 (B0 c.ob) vs with|some (_,wr)=>Q3 c.ob wr|none=>c.ob
theorem Ce3{r:Option Nat}{P:Program}{N:Nat}{ds:List Deferred}{fin:Fin}{c:Cfg}(q:Nat){te:TypeId}(cs:List V)(hq:B0 c.ob q=some (.box te cs))(hx:(Gd9 c [.ptr q 0]).isSome=true)(hk:J r P N ds fin ⟨c.sl,obR c [.ptr q 0],c.td⟩):J r P N ds fin c:=by
 refine⟨hk.1,fun S wl M0 hH M ρ f w ha=> ?_⟩;obtain⟨i,hi,hf,_⟩:=ha.ow.own q _ hq;have hu:B2 M ρ [.ptr q 0] [.pointer (some ⟨i.b,0,none⟩)]:=by
  simp only[B2,B8];exact⟨_,_,rfl,⟨i,hi,hf,rfl⟩,rfl⟩
 cases hx':M7 (B0 c.ob) [.ptr q 0] with
 |none=>simp[Gd9,hx']at hx
 |some p=>
  obtain⟨xs,wr⟩:=p;obtain⟨M',r0,o0,_⟩:=F1 ha.ow hu hx';rw[Cw3]at o0;have e:obR c [.ptr q 0]=Q3 c.ob wr:=by unfold obR;rw[hx']
  rw[e]at hk;exact hk.2 S wl M0 hH M' ρ f w ⟨o0,ha.ok,fun t ht=>B8.mono r0 _ (ha.sl t ht)⟩
theorem Ce6{r:Option Nat}{P:Program}{g:Operand}{ps:Array Tmp}{assign body:Code}{Q:Exit->Act->World->Prop}{a:Act}{w:World}
 (h:∀fn,(∃x,P.funcs[fn]? =some x)->∃(l:Nat) (mark:List Deferred) (w₁:World) (d:Deferred) (w₁':World) (f:FuncId) (args:Array Value) (w₂:World),
  (Instr.enterLoop fn a.tmps ps assign body r).run P w= .ok (l,mark) w₁/\
  (resolve a.eval (rangeCall g l) 0).run P w₁= .ok d w₁'/\
  (invoke d.target d.args).run P w₁'= .ok (.enter f args) w₂/\
  CallsIn (WF r) 0 P f args w₂ (fun e w₃=>match e with
   | .returned _=>∃jump w₄,(Instr.endLoop l).run P w₃= .ok jump w₄/\(match jump with|none=>Q .normal {a with defers:=mark++a.defers} w₄|some c=>W r P c Q {a with defers:=mark++a.defers} w₄)
   | .panicked chain=>Q (.panic chain) {a with defers:=mark++a.defers} w₃
   | .outgrown=>False)):
 W r P (.rangeFunc g ps assign body) Q a w:=by
 unfold W;intro b k cs hro hb;obtain⟨l,mark,w₁,d,w₁',f,args,w₂,he,hres,hinv,hF,hcall⟩:=h b.fn hb;rw[<-hro]at he;have h0:(lone (b.atR a (.code (.rangeFunc g ps assign body)::k)) cs w).fenced P (WF r):=
  fenced_lone (.inl trivial) (fun f' _=>trivial) (X9 _ _)
 have henter:=stepR_rangeFunc (P:=P) (b:=b) (a:=a) (k:=k) (cs:=cs) (w:=w) he hres hinv;obtain⟨e,w₃,fr,hR,hsteps,hfn,hleave⟩:=hcall (b.atR {a with defers:=mark++a.defers} (.inRangeFunc l::k)::cs) (X9 _ _);cases e with
 |outgrown=>exact hR.elim
 |returned v=>
  have hl:(lone fr (b.atR {a with defers:=mark++a.defers} (.inRangeFunc l::k)::cs) w₃).fenced P (WF r):=fenced_leaving (n:=0) trivial (X9 _ _) hleave;obtain⟨jump,w₄,hend,hj⟩:=hR;have sback:StepsIn (Machine.fenced P (WF r)) P (lone (b.atR a (.code (.rangeFunc g ps assign body)::k)) cs w) (lone (b.atR {a with defers:=mark++a.defers} ((jump.map Item.code).toList++k)) cs w₄):=by
   refine .head h0 henter (StepsIn.trans hsteps (.head hl ?_ (.one (L1 (fr:=b.atR {a with defers:=mark++a.defers} (.endRangeFunc l::k)) rfl) (stepR_endRangeFunc hend))));rw[<-finish_atR_inRangeFunc l v];exact step_leave_returned hleave
  cases jump with
  |none=>exact⟨.normal,_,w₄,hj,sback⟩
  |some c=>
   obtain⟨e',a'',w₅,hq,harr⟩:=Cx4 hj b k cs hro hb;exact⟨e',a'',w₅,hq,.of_steps sback harr⟩
 |panicked chain=>
  have hl:(lone fr (b.atR {a with defers:=mark++a.defers} (.inRangeFunc l::k)::cs) w₃).fenced P (WF r):=fenced_leaving (n:=0) trivial (X9 _ _) hleave;refine⟨.panic chain,_,w₃,hR,.inRangeFunc l::k,.head h0 henter (StepsIn.trans hsteps (.one hl ?_))⟩;rw[<-Frame.raise_atR];exact step_leave_panicked hleave
def Ei0(N:Nat)(c:Cfg)(p:List (Nat×Nat))(vs:List V)(keep ids:List Nat):Option (List (Nat×B9)×List V×List (Nat×V)×List (Nat×B9)):=match Al0 (B0 c.ob) p vs with
 |some (os,xs,wr)=>match pos ids (B0 (Q3 c.ob wr)) ids,Bx7 ids (Q3 c.ob wr),V4 (Q3 c.ob wr),Be0 ids (H3 p),V4 os,B0 os 2000 with
  |some obs,true,true,true,true,none=>some (os,xs,Bx6 N ids (B0 (Q3 c.ob wr)) c.sl keep,obs)
  |_,_,_,_,_,_=>none
 |none=>none
def By9(K:List Nat)(v:V):V:=match Q6 K v with|true=>v|false=> .undef
theorem Cj3(K:List Nat):By9 K .undef= .undef:=by unfold By9;split<;>rfl
theorem Cf7{ob3:List (Nat×B9)}{ob':Nat->Option B9}(hids:∀r,D7 r (F8 ob3)=true->ob' r=B0 ob3 r):S3 (F8 ob3) (F8 ob3) ob'=B0 ob3:=funext fun r=>by
 cases hm:D7 r (F8 ob3) with
 |true=>rw[O7 hm hm,hids r hm]
 |false=>
  have:B0 ob3 r=none:=by
   cases ho:B0 ob3 r with
   |none=>rfl
   |some o=>rw[I4.2 ⟨o,ho⟩]at hm;cases hm
  simp only[S3,hm,this]
theorem Eb5{P:Program}{N:Nat}{fn0:Func}{R0:Ending->World->Prop}{w00:Bas}{M00:Mem}{hr:Rho}{base:List Deferred}{Ds:List Nat}{c:Cfg}{g:Operand}{ps:Array Tmp}{asg bo:Code}{k:List It}{gf:FuncId}{first cap xs:List V}{os:List (Nat×B9)}{S1:List (Nat×V)}{ob0:List (Nat×B9)}(p:List (Nat×Nat))(keep ids:List Nat)(yl:List V){ysAll:List (List V)}{fl:Bool}(K KP:List Nat)(Good:List (List V)->List (Nat×B9)->Prop)(GoodX:Code->List (Nat×B9)->Prop)(GoodP:List (Nat×B9)->Prop)
 (hN:Nat.ble N 1024=true) (ht:c.td= .code (.rangeFunc g ps asg bo)::k) (hk:Bf1 k=true) (hv:Bc4 N c=some (gf,first,cap)) (hl:Bl8 N keep=true) (hx:Ei0 N c p (first++cap) keep ids=some (os,xs,S1,ob0)) (hre:R1 xs yl) (he:G7 P gf)
 (hit:Cx1 P gf ((2000,.frn 2000)::os) (yl.take first.length++ .yl 2000::yl.drop first.length) ysAll fl\/(Gg4 P gf ((2000,.frn 2000)::os) (yl.take first.length++ .yl 2000::yl.drop first.length) ysAll fl/\∀ob,¬Good [] ob)) (hK:Ap9 K=true) (hkept:Bx7 K ob0=true) (hslots:Ai6 K (mkT S1)=true) (hKP:Dz7 KP K=true) (hg0:Good ysAll ob0) (hnf:∀ys ob,Good ys ob->okB K ob=true) (hnfX:∀j ob,GoodX j ob->okB K ob=true) (hnfP:∀ob,GoodP ob->okB KP ob=true) (hnfP0:fl=true->∀ob,Good [] ob->okB KP ob=true)
 (hfree:B0 ob0 3000=none/\B0 ob0 3001=none)
 (hJ:∀x:Lp,x.as=asg->x.bo=bo->x.ps=ps->∀y ys ob,Good (y::ys) ob->∃sl',Au2 N (mkT S1) ps.toList y=some sl'/\J (some x.L) P N [] (Eo5 x Good GoodX GoodP ys) ⟨sl',rob x .ready none ob,[.code asg,.begR x.L,.code bo]⟩)
 (hdone:fl=false->∀D ob,Good [] ob->J none P N (Bd9 base (D::Ds)) (Bi8 P fn0 R0 w00 M00 hr (D::Ds)) ⟨mkT S1,ob,k⟩)
 (hstop:∀D ob j,GoodX j ob->J none P N (Bd9 base (D::Ds)) (Bi8 P fn0 R0 w00 M00 hr (D::Ds)) ⟨mkT S1,ob,.code j::k⟩)
 (hdie:fl=true->∀D ob,Good [] ob->JP N (Bd9 base (D::Ds)) (Bi8 P fn0 R0 w00 M00 hr (D::Ds)) (P5 (By9 KP) (mkT S1)) ob)
 (hpan:∀D ob,GoodP ob->JP N (Bd9 base (D::Ds)) (Bi8 P fn0 R0 w00 M00 hr (D::Ds)) (P5 (By9 KP) (mkT S1)) ob):J none P N (Bd9 base Ds) (Bi8 P fn0 R0 w00 M00 hr Ds) c:=by
 have hN:=I1 hN;unfold Ei0 at hx;split at hx
 case h_2=>cases hx
 rename_i os' xs' wr hh;split at hx
 case h_2=>cases hx
 rename_i obs hpos hkeptI hnfw hdj hnfos h2000;cases hx;refine⟨hN,fun S wl M0 hH Mo ρo f w hao=> ?_⟩;obtain⟨g',ps',as',bo',k',ht',hf⟩:=Bz7 hv;rw[ht]at ht';cases ht';obtain⟨fs,cs,hge,hfs,hcs⟩:=hf (ds:=Bd9 base Ds) hao;rw[ht];simp only[Wk,Exit.then];refine Ce6 (fun fn hfn=> ?_)
 unfold Al0 at hh;split at hh
 case h_2=>cases hh
 rename_i xs0 wr0 hargs0 hbij hbig;split at hh
 case h_2=>cases hh
 rename_i hcl;cases hh;obtain⟨M,r0,o1,d1⟩:=Y1 hao.ow (hfs.append hcs) hargs0;have hp:=o1.part (H3 p) (H3 p) (fun x o hm hx=>E6 hcl x o hm hx);have eR:Ar5 p (N5 (H3 p) ρo)=Ar5 p ρo:=by
  funext t;unfold Ar5;split
  .rename_i q hq;exact F3 (F0.2 ⟨t,Af9 hbij hq⟩)
  .rfl
 have eO:V6 p (S3 (H3 p) (H3 p) (wrO (B0 c.ob) wr))=V6 p (wrO (B0 c.ob) wr):=by
  funext t;unfold V6;split
  .rename_i q hq;rw[O7 (F0.2 ⟨t,Af9 hbij hq⟩) (F0.2 ⟨t,Af9 hbij hq⟩)]
  .rfl
 have hq:=hp.ren (r1:=Ar5 p ρo) hbij (fun q o t hq ho=>by
  have hm:=F0.2 ⟨t,hq⟩;rw[O7 hm hm]at ho;have:=E6 hcl q o hm ho;cases o<;>first|rfl|cases this) (fun t i _ hi=>⟨i,by rw[eR];exact hi,Ile.refl i⟩)
 rw[eR,eO,<-Cj5 hbij]at hq;have hargs:=hre.rel (P1 hbij _ d1);have hlen:fs.length=first.length:=hfs.len
 rw[Cw3]at o1 hq h2000 hnfos hit;have hosE:B0 (Bz1 p (B0 (Q3 c.ob wr)) p)=V6 p (B0 (Q3 c.ob wr)):=Cj5 hbij _
 have o0:=o1.prune (ids:=ids) (fun q o hb hq=>Ae6 hkeptI hq hb) hpos;have hsl:∀t,t<N->B8 M (Ct5 ids ρo) ((mkT (Bx6 N ids (B0 (Q3 c.ob wr)) c.sl keep)).get 10 t) (f t):=fun t ht=>Ac7 hN _ (fun t v hm=>by
  obtain⟨rfl,h7⟩:=Bb0 hm;have hlt:=Ad8 hl t h7;refine⟨hlt,Dt9 o1 _ ?_⟩;have:=B8.mono r0 _ (hao.sl t hlt);simp only[G3,show Nat.blt t N=true by simpa[Nat.blt_eq] using hlt];exact this) t ht
 have hTA0:∀b,TA (Ar5 p ρo) (V6 p (B0 (Q3 c.ob wr))) b->¬TA (Ct5 ids ρo) (B0 ob0) b/\(S b\/wl.heap.size<=b)/\b<w.heap.size:=fun b hb=>by
  obtain⟨q,i,o,hi,ho,hlv⟩:=hb;obtain⟨r',o',h1,h2,rfl⟩:=Ae9 ho;unfold Ar5 at hi;rw[h1]at hi;dsimp only at hi;have hlv:=Bq0 hlv;have hta:TA ρo (B0 (Q3 c.ob wr)) b:=⟨r',i,o',hi,h2,hlv⟩
  refine⟨fun hta'=> ?_,M6 o1 hta⟩;obtain⟨q',i',o2,hi',ho',hl'⟩:=hta';obtain⟨hm',x,hx,hlx⟩:=Da6 hpos ho';unfold Ct5 at hi';rw[hm']at hi';dsimp only at hi';cases hρ:ρo q' with
  |none=>rw[hρ]at hi';cases hi'
  |some j=>
   rw[hρ]at hi';cases hi';have:=o1.inj q' r' x o' j i _ hx h2 hρ hi (hlx j _ hl') hlv;subst this;have:=W5 hdj _ (W9 hm');rw[F0.2 ⟨q,Af9 hbij h1⟩]at this;cases this
 have ha:Abs S wl M0 M (Ct5 ids ρo) N ⟨mkT (Bx6 N ids (B0 (Q3 c.ob wr)) c.sl keep),ob0,[]⟩ f w:=⟨o0,Al6 _,hsl⟩
 generalize Bx6 N ids (B0 (Q3 c.ob wr)) c.sl keep=S1 at*;generalize Ct5 ids ρo=ρ at*;have hargs':=hargs.split;rw[hlen]at hargs'
 let x:Lp:=⟨w.heap.size,w.heap.size+1,fn,(fr N f []).tmps,ps,asg,bo⟩
 have hdisj:∀r,B0 (rob x .ready none ob0) r=H6 (H6 (B0 ob0) 3000 (.raw x.D (.deferred (some [])))) 3001 (.raw x.L (.loop (G2 x .ready none))) r:=fun r=>by
  simp only[rob,B0,H6];by_cases e:r=3001
  .subst e;rfl
  .rw[I3 e]<;>dsimp only<;>cases Nat.beq r 3000<;>rfl
 have hM:∀b,w.heap.size<=b->M b=none:=fun b hb=>by
  cases hm:M b with
  |none=>rfl
  |some c=>exact absurd (ha.ow.sits.lt hm) (by omega)
 let w1:=(w.alloc (.deferred (some []))).alloc (.loop {state:= .ready,pending:=none,fn,tmps:=(fr N f (Bd9 base Ds)).tmps,params:=ps,assign:=asg,body:=bo,defers:=w.heap.size})
 have hs1:(w.alloc (.deferred (some []))).heap.size=w.heap.size+1:=by simp
 obtain⟨r1,o1'⟩:=ha.ow.alloc (d:=3000) hfree.1 (.deferred (some [])) ⟨w.heap.size,0,0,0,0,0,true,[]⟩ (.raw x.D (.deferred (some []))) rfl (fun ρ' _ hm=>⟨rfl,rfl,⟨.inr ha.ow.size,hm⟩,World.alloc_heap_new _ _⟩);obtain⟨r2,o2⟩:=o1'.alloc (d:=3001) (by rw[C5 _ _ (by omega)];exact hfree.2) (.loop (G2 x .ready none)) ⟨w.heap.size+1,0,0,0,0,0,true,[]⟩ (.raw x.L (.loop (G2 x .ready none))) hs1.symm (fun ρ' _ hm=>⟨rfl,rfl,⟨.inr (Nat.le_succ_of_le ha.ow.size),by rw[hs1]at hm;exact hm⟩,by show((w.alloc (.deferred (some []))).alloc (.loop (G2 x .ready none))).heap[w.heap.size+1]? =some (.loop (G2 x .ready none));rw[<-hs1];exact World.alloc_heap_new _ _⟩);have hob:H6 (H6 (B0 ob0) 3000 (.raw x.D (.deferred (some [])))) 3001 (.raw x.L (.loop (G2 x .ready none)))=B0 (rob x .ready none ob0):=funext fun r=>(hdisj r).symm
 rw[hob]at o2;have r12:=r1.trans r2;generalize hρ2:H6 (H6 ρ 3000 (⟨w.heap.size,0,0,0,0,0,true,[]⟩:Inf)) 3001 (⟨w.heap.size+1,0,0,0,0,0,true,[]⟩:Inf)=ρ2 at o2 r12 r2;have o2:Ow S wl M0 M ρ2 (B0 (rob x .ready none ob0)) w1:=o2;have hw1:∀b,b<w.heap.size->w1.heap[b]? =w.heap[b]? :=fun b hb=>by
  show((w.alloc (.deferred (some []))).alloc (.loop (G2 x .ready none))).heap[b]? =w.heap[b]?;rw[Below.heap_alloc _ _ _ (by rw[hs1];omega),Below.heap_alloc _ _ _ hb]
 have hbig':∀r i,N5 K ρ r=some i->Nat.ble 2000 r=true:=fun r i h=>As7 hK (E9 h).1
 have hhr:∀r i,hr r=some i->Nat.ble 2000 r=true->∃j,N5 K ρ r=some j/\Ile i j:=fun r i hi hb=>by
  obtain⟨j,h1,h2⟩:=ha.ow.held r i hb (by rw[show S.r0=hr from hH.1];exact hi);obtain⟨o,ho⟩:=ha.ow.dom r j h1;exact⟨j,by rw[F3 (Ae6 hkept ho hb)];exact h1,h2⟩
 have hnfr:∀(st:LoopState) (pe:Option Code) (ob:List (Nat×B9)),(∀q z,B0 ob q≠some (.frn z))->∀q z,B0 (rob x st pe ob) q≠some (.frn z):=fun st pe ob h q z=>by
  simp only[rob,B0];split
  .intro e;cases e
  .split
   .intro e;cases e
   .exact h q z
 have hS:∀{r0 r0':Rho} {M:Mem} {ρ:Rho} {ob:Nat->Option B9} {w:World},Ow ⟨S.s,r0⟩ wl M0 M ρ ob w->(∀q z,ob q≠some (.frn z))->(∀r i,Nat.ble 2000 r=true->r0' r=some i->∃j,ρ r=some j/\Ile i j)->Ow ⟨S.s,r0'⟩ wl M0 M ρ ob w:=fun{r0 r0' M ρ ob w} h hn hh=>by
  refine⟨h.size,h.os,h.tape,h.output,h.old,h.sits,h.le,h.gl,h.new,fun q o hq=> ?_,h.dom,h.inj,hh⟩;obtain⟨i,hi,hok⟩:=h.own q o hq;refine⟨i,hi,?_⟩;cases o with
  |frn z=>exact absurd hq (hn q z)
  |tree g e sz shs es hh=>exact hok
  |box te cs=>exact hok
  |buf g e sz es=>exact hok
  |fzs g sz es=>exact hok
  |fzb cs=>exact hok
  |mapo kk ag sz es=>exact hok
  |raw b x=>exact hok
 have o3:Ow ⟨S.s,N5 K ρ⟩ wl M0 M ρ2 (B0 (rob x .ready none ob0)) w1:=hS (r0:=S.r0) o2 (hnfr _ _ _ (F4 (Av3 (hnf _ _ hg0)).1)) (fun r i hb hi=>r12.ext r i (E9 hi).2);have hR:Ad6 P (w.heap.size+1) (Et2 x S wl M0 (N5 K ρ) M Good) (Cw6 x S wl M0 (N5 K ρ) M GoodX) (Gl9 x S wl M0 (N5 K ρ) M GoodP):=
  ⟨Et2.it,Cw6.it,fun y ys T M w vals h1 h2 h3 h4=>Ei2 (f:=f) (sl:=mkT S1) hfn hN rfl ha.ok (fun t ht=>Al9 _ (U5 10 (mkT S1) t hslots) (ha.sl t ht)) hbig' (fun ys ob h=>F4 (Av3 (hnf ys ob h)).1) (hJ x rfl rfl rfl) y ys T M w vals h1 h2 h3 h4⟩
 let ρq:=Ar5 p ρo
 let ρI:Rho:=fun r=>match Nat.beq r 2000 with|true=>some ⟨w.heap.size+1,0,0,0,0,0,true,[]⟩|false=>ρq r
 have hρI:∀r,r≠2000->ρI r=ρq r:=fun r e=>by simp only[ρI,I3 e]
 have hq2000:ρq 2000=none:=by
  cases h:ρq 2000 with
  |none=>rfl
  |some i=>
   obtain⟨o,ho⟩:=hq.dom 2000 i h;rw[h2000]at ho;cases ho
 have hnfos':=Eq7 hnfos;have rI:Rle M M ρq ρI:=⟨M.le_refl,fun r i hi=>⟨i,by rw[hρI r (fun e=>by rw[e,hq2000]at hi;cases hi)];exact hi,Ile.refl i⟩⟩
 have hqb:=hq.base (w':=w1) (r0:=noR) M.le_refl o2.sits (by show w.heap.size<=((w.alloc (.deferred (some []))).alloc (.loop (G2 x .ready none))).heap.size;rw[World.size_alloc,World.size_alloc];omega) (fun b hb=>⟨hw1 b (M6 hq hb).2,rfl⟩) (fun q i hq' _=>absurd hq' (hnfos' q q)) (fun q z hq'=>absurd hq' (hnfos' q z)) (fun _ _ _ h=>by cases h) (hq.szw.frame fun k hk _=>hw1 k hk);have hI:Ow ⟨TA ρq (B0 (Bz1 p (B0 (Q3 c.ob wr)) p)),ρI⟩ w1 M M ρI (B0 ((2000,.frn 2000)::Bz1 p (B0 (Q3 c.ob wr)) p)) w1:=by
  refine⟨ad_ _,rfl,rfl,rfl,fun _ _ _=>rfl,o2.sits,M.le_refl,hqb.gl,fun _ _ hb _=> .inl hb,fun r o h=> ?_,fun r i h=> ?_,fun r r' o o' i i' b h1 h2 h3 h4 l1 l2=> ?_,fun r i _ hi=>⟨i,hi,Ile.refl i⟩⟩
  .simp only[B0]at h;split at h
   .rename_i e;cases h;obtain rfl:=nB_ e;exact⟨_,rfl,rfl⟩
   .rename_i e;have hne:r≠2000:=fun e'=>by subst e';simp at e
    obtain⟨i,hi,hok⟩:=hqb.own r o h;refine⟨i,by rw[hρI r hne];exact hi,?_⟩;have hok:=hok.mono rI (fun _ _=>rfl) (fun _ _=>rfl);cases o with
    |frn z=>exact absurd h (hnfos' r z)
    |tree g e sz shs es hh=>exact hok
    |box te cs=>exact hok
    |buf g e sz es=>exact hok
    |fzs g sz es=>exact hok
    |fzb cs=>exact hok
    |mapo kk ag sz es=>exact hok
    |raw b x=>exact hok
  .by_cases e:r=2000
   .subst e;exact⟨_,rfl⟩
   .rw[hρI r e]at h;obtain⟨o,ho⟩:=hqb.dom r i h;exact⟨o,by simp only[B0,I3 e];exact ho⟩
  .have hne:∀{r o i b},B0 ((2000,B9.frn 2000)::Bz1 p (B0 (Q3 c.ob wr)) p) r=some o->blk i o b->r≠2000:=fun{r o i b} h hl e=>by
    subst e;simp only[B0]at h;cases h;exact Aj8 rfl rfl hl
   have e1:=hne h1 l1;have e2:=hne h2 l2;simp only[B0,I3 e1]at h1;simp only[B0,I3 e2]at h2;rw[hρI r e1]at h3;rw[hρI r' e2]at h4;exact hqb.inj r r' o o' i i' b h1 h2 h3 h4 l1 l2
 have hT0:∀b,TA ρq (B0 (Bz1 p (B0 (Q3 c.ob wr)) p)) b->¬TA ρ2 (B0 (rob x .ready none ob0)) b/\(S b\/wl.heap.size<=b):=fun b hb=>by
  rw[hosE]at hb;obtain⟨h1,h2,h3⟩:=hTA0 b hb;refine⟨fun hta=> ?_,h2⟩;obtain⟨q,i,o,hi,ho,hlv⟩:=hta;rw[<-hρ2]at hi;simp only[rob,B0]at ho;by_cases e1:q=3001
  .subst e1;rw[B3]at hi;cases hi;have hbb:=(J4 hlv (by rw[<-ax_ ho];rfl)).2;dsimp only at hbb;omega
  .rw[C5 _ _ e1]at hi;by_cases e0:q=3000
   .subst e0;rw[B3]at hi;cases hi;have hbb:=(J4 hlv (by rw[<-ax_ ho];rfl)).2;dsimp only at hbb;omega
   .rw[C5 _ _ e0]at hi;simp only[I3 e0,I3 e1]at ho;exact h1 ⟨q,i,o,hi,ho,hlv⟩
 have hcall:=(hit.elim (fun h=>h (w.heap.size+1) _ _ _ hR) (fun h=>h.1 (w.heap.size+1) _ _ _ hR (fun T M w ⟨_,_,ob,hg,_⟩=>h.2 ob hg))) _ M ρI w1 (fs++ .func (.yield (w.heap.size+1)) #[] #[]::cs) ⟨w.heap.size+1,0,0,0,0,0,true,[]⟩ hI
  ⟨M.le_refl,ρ2,ob0,hg0,o3,hT0⟩ rfl rfl
  ((B2.mono rI _ hargs'.1).append (by
   simp only[B2];exact⟨_,_,rfl,⟨⟨w.heap.size+1,0,0,0,0,0,true,[]⟩,rfl,rfl,rfl⟩,B2.mono rI _ hargs'.2⟩))
 refine⟨w.heap.size+1,[{target:= .collected w.heap.size,args:= #[]}],w1,{target:= .fn (.func gf) cs.toArray,args:=fs.toArray++ #[.func (.yield (w.heap.size+1)) #[] #[]]},w1,gf,(fs++ .func (.yield (w.heap.size+1)) #[] #[]::cs).toArray,w1,run_enterLoop_outer _ _ _ _ _,?_,?_,CallsIn.mono (Co5 (r:=none) hcall) ?_⟩
 .have:(fr N f (Bd9 base Ds)).eval g= .func (.func gf) fs.toArray cs.toArray:=hge;have h2:(fr N f (Bd9 base Ds)).eval (.const (.func (.yield (w.heap.size+1)) #[] #[]))= .func (.yield (w.heap.size+1)) #[] #[]:=rfl;simp[resolve,Deferred.ofValue,this,h2]
 .have:=he (fs++ .func (.yield (w.heap.size+1)) #[] #[]::cs).toArray w1;simpa[invoke] using this
 .rintro e w3 ⟨T',M',hend⟩
  have hup:∀(st st':LoopState) (pe:Option Code) (ob:List (Nat×B9)),H6 (B0 (rob x st pe ob)) 3001 (.raw x.L (.loop (G2 x st' pe)))=B0 (rob x st' pe ob):=fun st st' pe ob=>by
   funext q;by_cases e:q=3001
   .subst e;rw[B3];rfl
   .rw[C5 _ _ e];simp only[rob,B0];split
    .rfl
    .have:Nat.beq q 3001=false:=I3 e;simp only[this]
  have key:∀(st:LoopState) (pe:Option Code) (M':Mem) (rr ρ3:Rho) (ob3:List (Nat×B9)) (w4:World) (KK:List Nat),M.le M'->okB KK ob3=true->(∀r,D7 r KK=true->D7 r K=true)->(∀q i,N5 K ρ q=some i->(∃o,B0 ob3 q=some o)->rr q=some i)->Ow ⟨S.s,rr⟩ wl M0 M' ρ3 (B0 (rob x st pe ob3)) w4->
   ∃S' ρ4,HM w00 M00 (w.heap.size::Ds) ⟨S',hr⟩ w4 M'/\Ow ⟨S',Bf3 (F8 ob3) hr⟩ w4 M' M' ρ4 (B0 ob3) w4/\∀q i,D7 q KK=true->ρ q=some i->∃j,ρ4 q=some j/\Ile i j:=fun st pe M' rr ρ3 ob3 w4 KK hle hok hKK hrr h3=>by
   obtain⟨k1,k2,k3,k4,k5⟩:=Av3 hok;have hids:∀r,D7 r (F8 ob3)=true->B0 (rob x st pe ob3) r=B0 ob3 r:=fun r hr=>by
    have e1:Nat.beq r 3000=false:=I3 (fun e=>by subst e;rw[hr]at k4;cases k4);have e2:Nat.beq r 3001=false:=I3 (fun e=>by subst e;rw[hr]at k5;cases k5);simp only[rob,B0,e1,e2]
   have hpart:=h3.part (F8 ob3) (F8 ob3) (fun r o hr ho=>E6 k2 r o hr (by rw[<-hids r hr];exact ho));rw[Cf7 hids]at hpart;have hheld:∀q i,Nat.ble 2000 q=true->D7 q (F8 ob3)=true->N5 K ρ q=some i->∃j,ρ3 q=some j/\Ile i j:=fun q i hb hm hi=>h3.held q i hb (hrr q i hi (I4.1 hm))
   have hpart':Ow ⟨SK (F8 ob3) ρ3 (B0 (rob x st pe ob3)),Bf3 (F8 ob3) hr⟩ w4 M' M' (N5 (F8 ob3) ρ3) (B0 ob3) w4:=⟨hpart.size,hpart.os,hpart.tape,hpart.output,hpart.old,hpart.sits,hpart.le,hpart.gl,hpart.new,fun q o hq=>by
    obtain⟨i,hi,hok⟩:=hpart.own q o hq;refine⟨i,hi,?_⟩;cases o with
    |frn z=>exact absurd hq (F4 k1 q z)
    |tree g e sz shs es hh=>exact hok
    |box te cs=>exact hok
    |buf g e sz es=>exact hok
    |fzs g sz es=>exact hok
    |fzb cs=>exact hok
    |mapo kk ag sz es=>exact hok
    |raw b x=>exact hok,hpart.dom,hpart.inj,fun r i hb hi=>by
    obtain⟨hm,hi⟩:=Bj6 hi;obtain⟨j,h1,h2⟩:=hhr r i hi hb;obtain⟨l,h4,h5⟩:=hheld r j hb hm h1;exact⟨l,by rw[F3 hm];exact h4,h2.trans h5⟩⟩
   have h3':=hS (r0':=noR) h3 (hnfr _ _ _ (F4 k1)) (fun r i hb hi=>by cases hi);obtain⟨⟨h1,h2,h5,h6⟩,_⟩:=Ce2 (S:=⟨S.s,noR⟩) (b0:=w00) (M00:=M00) (Ds:=Ds) hH.2 h3' (hnfr _ _ _ (F4 k1));have hSK:∀b,SK (F8 ob3) ρ3 (B0 (rob x st pe ob3)) b->TA ρ3 (B0 (rob x st pe ob3)) b:=fun b ⟨r,i,o,_,a1,a2,a3⟩=>⟨r,i,o,a1,a2,a3⟩
   obtain⟨iD,hiD,_,hDb,hDm,hDw⟩:=h3.own 3000 (.raw x.D (.deferred (some []))) rfl;refine⟨SK (F8 ob3) ρ3 (B0 (rob x st pe ob3)),N5 (F8 ob3) ρ3,⟨h1,fun b hb=>h2 b (hSK b hb),fun D hD=> ?_,?_⟩,hpart',fun q i hm hi=> ?_⟩
   .rcases mem_cons.1 hD with rfl|hD
    .refine⟨ah_ hH.2.1.size ha.ow.size,?_,?_,?_,hDw⟩
     .exact(aq_.1 hDw).1
     .rintro ⟨r,i,o,b1,b2,b3,b4⟩
      have:r=3000:=h3.inj r 3000 o _ i iD _ b3 rfl b2 hiD b4 (.inl ⟨trivial,hDb⟩);subst this;rw[b1]at k4;cases k4
     .have:=hDm.2;rw[hDb]at this;exact this
    .obtain⟨a1,a2,a3,a4,a5⟩:=h5 D hD;exact⟨a1,a2,fun h=>a3 (hSK D h),a4,a5⟩
   .refine nodup_cons.2 ⟨fun hm=> ?_,h6⟩;have:=(hH.2.2.2.1 _ hm).2.1;have:=ha.ow.size;omega
   .have hmi:=Ad3 k3 _ hm;obtain⟨j,b1,b2⟩:=hheld q i (hbig' q i (by rw[F3 (hKK q hm)];exact hi)) hmi (by rw[F3 (hKK q hm)];exact hi);exact⟨j,by rw[F3 hmi];exact b1,b2⟩
  have pan:∀(st:LoopState) (pe:Option Code) (M':Mem) (rr ρ3:Rho) (ob3:List (Nat×B9)) (w4:World) (t:TypeId) (u:Value),M.le M'->okB KP ob3=true->(∀q i,N5 K ρ q=some i->(∃o,B0 ob3 q=some o)->rr q=some i)->Ow ⟨S.s,rr⟩ wl M0 M' ρ3 (B0 (rob x st pe ob3)) w4->
   JP N (Bd9 base (w.heap.size::Ds)) (Bi8 P fn0 R0 w00 M00 hr (w.heap.size::Ds)) (P5 (By9 KP) (mkT S1)) ob3->(Bi8 P fn0 R0 w00 M00 hr Ds).post S wl M0 (.panic [{v:= .iface t u,recovered:=false}]) (fr N f (Bd9 base (w.heap.size::Ds))) w4:=fun st pe M' rr ρ3 ob3 w4 t u hle hok hrr h3 hjp=>by
   obtain⟨S',ρ4,h5,h6,h7⟩:=key st pe M' rr ρ3 ob3 w4 KP hle hok (fun r h=>Ad3 hKP r h) hrr h3;refine hjp ⟨S',hr⟩ w4 M' ⟨rfl,h5⟩ (Bf3 (F8 ob3) hr) M' ρ4 w4 f t u (fun q i hi ho=> ?_) h6 (fun t ht=> ?_)
   .unfold Bf3;rw[I4.2 ho];exact hi
   .rw[W8 (Cj3 KP)];unfold By9;split
    .rename_i hrf;exact B8.mono ⟨hle,fun r i hi=>h7 r i (E9 hi).1 (E9 hi).2⟩ _ (Al9 _ hrf (ha.sl t ht))
    .exact C4 _
  have norm:∀(st:LoopState) (pe:Option Code) (M':Mem) (ρ3:Rho) (ob3:List (Nat×B9)) (w4:World),M.le M'->okB K ob3=true->Ow ⟨S.s,N5 K ρ⟩ wl M0 M' ρ3 (B0 (rob x st pe ob3)) w4->
   ∃S' wl' M0' ρ4,(Bi8 P fn0 R0 w00 M00 hr (w.heap.size::Ds)).H S' wl' M0'/\Abs S' wl' M0' M' ρ4 N ⟨mkT S1,ob3,[]⟩ f w4:=fun st pe M' ρ3 ob3 w4 hle hok h3=>by
   obtain⟨S',ρ4,h5,h6,h7⟩:=key st pe M' (N5 K ρ) ρ3 ob3 w4 K hle hok (fun _ h=>h) (fun _ _ h _=>h) h3;obtain⟨k1,k2,k3,k4,k5⟩:=Av3 hok;refine⟨⟨S',hr⟩,w4,M',ρ4,⟨rfl,h5⟩,⟨h6.size,h6.os,h6.tape,h6.output,h6.old,h6.sits,h6.le,h6.gl,h6.new,fun q o hq=> ?_,h6.dom,h6.inj,fun r i hb hi=> ?_⟩,ha.ok,fun t ht=> ?_⟩
   .obtain⟨i,hi,hok⟩:=h6.own q o hq;refine⟨i,hi,?_⟩;cases o with
    |frn z=>exact absurd hq (F4 k1 q z)
    |tree g e sz shs es hh=>exact hok
    |box te cs=>exact hok
    |buf g e sz es=>exact hok
    |fzs g sz es=>exact hok
    |fzb cs=>exact hok
    |mapo kk ag sz es=>exact hok
    |raw b x=>exact hok
   .obtain⟨j,h1,_⟩:=hhr r i hi hb;exact h6.held r i hb (by show Bf3 (F8 ob3) hr r=some i;unfold Bf3;rw[Ad3 k3 _ (E9 h1).1];exact hi)
   .exact B8.mono ⟨hle,fun r i hi=>h7 r i (E9 hi).1 (E9 hi).2⟩ _ (Al9 _ (U5 10 (mkT S1) t hslots) (ha.sl t ht))
  rcases hend with⟨v,rfl,⟨hfl,hle,ρ3,ob3,hg3,ho3,_⟩|⟨hle,ρ3,ob3,j,hg3,ho3,_⟩⟩|⟨⟨t,u,rfl⟩,⟨hfl,hle,ρ3,ob3,hg3,ho3,_⟩|⟨hle,rr,ρ3,ob3,hg3,hrr,ho3,_⟩⟩
  .obtain⟨hh,o4⟩:=ho3.raw (q:=3001) rfl (.loop (G2 x .exhausted none));rw[hup]at o4;refine⟨none,_,run_endLoop hh (by simp[G2]),?_⟩;obtain⟨S',wl',M0',ρ4,h5,h6⟩:=norm _ _ _ _ _ _ hle (hnf _ _ hg3) o4;exact(hdone hfl w.heap.size ob3 hg3).2 S' wl' M0' h5 M' ρ4 f _ ⟨h6.ow,h6.ok,h6.sl⟩
  .obtain⟨hh,o4⟩:=ho3.raw (q:=3001) rfl (.loop (G2 x .exhausted (some j)));rw[hup]at o4;refine⟨some j,_,run_endLoop hh (by simp[G2]),?_⟩;obtain⟨S',wl',M0',ρ4,h5,h6⟩:=norm _ _ _ _ _ _ hle (hnfX _ _ hg3) o4;have:=(hstop w.heap.size ob3 j hg3).2 S' wl' M0' h5 M' ρ4 f _ ⟨h6.ow,h6.ok,h6.sl⟩;simp only[Wk,Exit.then]at this;exact this
  .exact As6 k hk (pan _ _ _ _ _ _ _ t u hle (hnfP0 hfl ob3 hg3) (fun _ _ h _=>h) ho3 (hdie hfl w.heap.size ob3 hg3))
  .exact As6 k hk (pan _ _ _ _ _ _ _ t u hle (hnfP _ hg3) hrr ho3 (hpan w.heap.size ob3 hg3))
theorem Eb6{P:Program}{N:Nat}{fn0:Func}{R0:Ending->World->Prop}{w00:Bas}{M00:Mem}{hr:Rho}{base:List Deferred}{Ds:List Nat}{c:Cfg}{g:Operand}{ps:Array Tmp}{asg bo:Code}{k:List It}{gf:FuncId}{first cap xs:List V}{os:List (Nat×B9)}{S1:List (Nat×V)}{ob0:List (Nat×B9)}(p:List (Nat×Nat))(keep ids:List Nat)(yl:List V){ysAll:List (List V)}{fl:Bool}(K KP:List Nat)(Good:List (List V)->List (Nat×B9)->Prop)(GoodX:Code->List (Nat×B9)->Prop)(GoodP:List (Nat×B9)->Prop)
 (hN:Nat.ble N 1024=true) (ht:c.td= .code (.rangeFunc g ps asg bo)::k) (hk:Bf1 k=true) (hv:Bc4 N c=some (gf,first,cap)) (hl:Bl8 N keep=true) (hx:Ei0 N c p (first++cap) keep ids=some (os,xs,S1,ob0)) (hre:R1 xs yl) (he:G7 P gf)
 (hit:Cx1 P gf ((2000,.frn 2000)::os) (yl.take first.length++ .yl 2000::yl.drop first.length) ysAll fl) (hK:Ap9 K=true) (hkept:Bx7 K ob0=true) (hslots:Ai6 K (mkT S1)=true) (hKP:Dz7 KP K=true) (hg0:Good ysAll ob0) (hnf:∀ys ob,Good ys ob->okB K ob=true) (hnfX:∀j ob,GoodX j ob->okB K ob=true) (hnfP:∀ob,GoodP ob->okB KP ob=true) (hnfP0:fl=true->∀ob,Good [] ob->okB KP ob=true)
 (hfree:B0 ob0 3000=none/\B0 ob0 3001=none)
 (hJ:∀x:Lp,x.as=asg->x.bo=bo->x.ps=ps->∀y ys ob,Good (y::ys) ob->∃sl',Au2 N (mkT S1) ps.toList y=some sl'/\J (some x.L) P N [] (Eo5 x Good GoodX GoodP ys) ⟨sl',rob x .ready none ob,[.code asg,.begR x.L,.code bo]⟩)
 (hdone:fl=false->∀D ob,Good [] ob->J none P N (Bd9 base (D::Ds)) (Bi8 P fn0 R0 w00 M00 hr (D::Ds)) ⟨mkT S1,ob,k⟩)
 (hstop:∀D ob j,GoodX j ob->J none P N (Bd9 base (D::Ds)) (Bi8 P fn0 R0 w00 M00 hr (D::Ds)) ⟨mkT S1,ob,.code j::k⟩)
 (hdie:fl=true->∀D ob,Good [] ob->JP N (Bd9 base (D::Ds)) (Bi8 P fn0 R0 w00 M00 hr (D::Ds)) (P5 (By9 KP) (mkT S1)) ob)
 (hpan:∀D ob,GoodP ob->JP N (Bd9 base (D::Ds)) (Bi8 P fn0 R0 w00 M00 hr (D::Ds)) (P5 (By9 KP) (mkT S1)) ob):J none P N (Bd9 base Ds) (Bi8 P fn0 R0 w00 M00 hr Ds) c:=
 Eb5 p keep ids yl K KP Good GoodX GoodP hN ht hk hv hl hx hre he (.inl hit) hK hkept hslots hKP hg0 hnf hnfX hnfP hnfP0 hfree hJ hdone hstop hdie hpan
theorem Ay0{P:Program}{N:Nat}{fn0:Func}{R0:Ending->World->Prop}{w00:Bas}{M00:Mem}{hr:Rho}{base:List Deferred}{Ds:List Nat}{c:Cfg}{g:Operand}{ps:Array Tmp}{asg bo:Code}{k:List It}{gf:FuncId}{first cap xs:List V}{os:List (Nat×B9)}{S1:List (Nat×V)}{ob0:List (Nat×B9)}(p:List (Nat×Nat))(keep ids:List Nat)(yl:List V){ysAll:List (List V)}(K:List Nat)(Good:List (List V)->List (Nat×B9)->Prop)(GoodX:Code->List (Nat×B9)->Prop)
 (hN:Nat.ble N 1024=true) (ht:c.td= .code (.rangeFunc g ps asg bo)::k) (hk:Bf1 k=true) (hv:Bc4 N c=some (gf,first,cap)) (hl:Bl8 N keep=true) (hx:Ei0 N c p (first++cap) keep ids=some (os,xs,S1,ob0)) (hre:R1 xs yl) (he:G7 P gf)
 (hit:Cx1 P gf ((2000,.frn 2000)::os) (yl.take first.length++ .yl 2000::yl.drop first.length) ysAll false) (hK:Ap9 K=true) (hkept:Bx7 K ob0=true) (hslots:Ai6 K (mkT S1)=true) (hg0:Good ysAll ob0) (hnf:∀ys ob,Good ys ob->okB K ob=true) (hnfX:∀j ob,GoodX j ob->okB K ob=true)
 (hfree:B0 ob0 3000=none/\B0 ob0 3001=none)
 (hJ:∀x:Lp,x.as=asg->x.bo=bo->x.ps=ps->∀y ys ob,Good (y::ys) ob->∃sl',Au2 N (mkT S1) ps.toList y=some sl'/\J (some x.L) P N [] (Eo5 x Good GoodX (fun _=>False) ys) ⟨sl',rob x .ready none ob,[.code asg,.begR x.L,.code bo]⟩)
 (hdone:∀D ob,Good [] ob->J none P N (Bd9 base (D::Ds)) (Bi8 P fn0 R0 w00 M00 hr (D::Ds)) ⟨mkT S1,ob,k⟩)
 (hstop:∀D ob j,GoodX j ob->J none P N (Bd9 base (D::Ds)) (Bi8 P fn0 R0 w00 M00 hr (D::Ds)) ⟨mkT S1,ob,.code j::k⟩):J none P N (Bd9 base Ds) (Bi8 P fn0 R0 w00 M00 hr Ds) c:=
 Eb6 p keep ids yl K [] Good GoodX (fun _=>False) hN ht hk hv hl hx hre he hit hK hkept hslots rfl hg0 hnf hnfX (fun _ h=>h.elim) (fun h=>by cases h) hfree hJ (fun _=>hdone) hstop (fun h=>by cases h) (fun _ _ h=>h.elim)
end
section
section
variable {P:Program} {N:Nat}
end
section
variable {P:Program} {N:Nat} {fn:Func} {g:FuncId} {id:Nat} {o0:Oper} {rest:List Oper} {y:Code} {cap:List V}
def Gj3:List Nat->List (Nat×B9)
 |[]=>[]
 |q::l=>(q,.frn q)::Gj3 l
theorem Ee8:∀(K:List Nat) (q:Nat),B0 (Gj3 K) q=match D7 q K with|true=>some (.frn q)|false=>none
 |[],q=>rfl
 |k::K,q=>by
  have ih:=Ee8 K q;simp only[Gj3,B0,D7];cases h:Nat.beq q k with
  |true=>obtain rfl:=nB_ h;rfl
  |false=>exact ih
end
section
variable {P:Program} {N:Nat} {fn:Func} {v:Option V} {w0:World} {M00:Mem} {Ds:List Nat} {c:Cfg} {hr:Rho} {base:List Deferred} {g:FuncId} {cap:List V}
def Cr7(p:List (Nat×Nat)):List Nat->Bool
 |[]=>true
 |q::l=>match lk (inv p) q with|some t=>(match Nat.beq t q with|true=>Cr7 p l|false=>false)|none=>false
theorem Bb1{p:List (Nat×Nat)}:∀{l:List Nat} {q:Nat},Cr7 p l=true->D7 q l=true->lk (inv p) q=some q
 |[],_,_,h=>by cases h
 |k::l,q,hb,h=>by
  unfold Cr7 at hb;split at hb
  .rename_i t ht;split at hb
   .rename_i he;unfold D7 at h;split at h
    .rename_i h1;obtain rfl:=nB_ h1;rw[ht,nB_ he]
    .exact Bb1 hb h
   .cases hb
  .cases hb
end
end
section
section
variable (q g:Nat)
end
section
variable {M:Mem} {ρ:Rho} {q g:Nat} {i:Inf}
end
section
variable {S:L8} {wl w:World} {M0 M:Mem} {ρ:Rho} {ob:Nat->Option B9} {q g sz:Nat} {e:TypeId} {es:List (List Dat)}
end
section
variable {r:Option Nat} {P:Program} {N:Nat} {ds:List Deferred} {fin:Fin} {c:Cfg}
theorem Dh7(t:Nat)(ht:Nat.blt t N=true)(hx:(Gd9 c [c.sl.get 10 t]).isSome=true)(hk:J r P N ds fin ⟨c.sl,obR c [c.sl.get 10 t],c.td⟩):J r P N ds fin c:=by
 refine⟨hk.1,fun S wl M0 hH M ρ f w ha=> ?_⟩;have hu:B2 M ρ [c.sl.get 10 t] [f t]:=by
  simp only[B2];exact⟨_,_,rfl,ha.sl t (Ac8 ht),rfl⟩
 cases hx':M7 (B0 c.ob) [c.sl.get 10 t] with
 |none=>simp[Gd9,hx']at hx
 |some p=>
  obtain⟨xs,wr⟩:=p;obtain⟨M',r0,o0,_⟩:=F1 ha.ow hu hx';rw[Cw3]at o0;have e:obR c [c.sl.get 10 t]=Q3 c.ob wr:=by unfold obR;rw[hx']
  rw[e]at hk;exact hk.2 S wl M0 hH M' ρ f w ⟨o0,ha.ok,fun t ht=>B8.mono r0 _ (ha.sl t ht)⟩
end
def toI(b:UInt8):Int:=(b.toNat:Int)
theorem By4{f:Int->List Dat}(hf:∀x,f x=[.int .u8 x])(s:List UInt8):(s.map toI).map f=s.map Aj9:=by
 rw[List.map_map];refine b8_ fun b _=> ?_
 simp only[Function.comp,hf];rfl
theorem ams{f:Int->List Dat}(hf:∀x,f x=[.int .u8 x]){l k:List Int}{s:List UInt8}(h:app l (s.map toI)=some k):app (l.map f) (s.map Aj9)=some (k.map f):=by
 rw[<-By4 hf];exact am h
theorem bym{s:List UInt8}{f:Int->List Dat}(hf:∀x,f x=[.int .u8 x]):some (s.map Aj9)=some ((s.map toI).map f):=by
 rw[<-By4 hf]
def Fz0(l:List Int)(j:Nat)(m:Int):Option (List UInt8):=bif decide (0<m)&&decide (j+m.toNat<=l.length)&&decide (m<=2147483648) then some (((l.drop j).take m.toNat).map fun x=>x.toNat.toUInt8) else none
theorem Bq6{f:Int->List Dat}(hf:∀x,f x=[.int .u8 x]):∀(l:List Int),Es2 (l.map f)=some (l.map fun x=>x.toNat.toUInt8)
 |[]=>rfl
 |x::l=>by rw[map_cons,hf,Es2,Bq6 hf l];rfl
def toB(x:Int):UInt8:=x.toNat.toUInt8
theorem Gr0{f:Int->List Dat}(hf:∀x,f x=[.int .u8 x])(l:List Int):Fl5 (l.map f)=some [.str (l.map toB)]:=by
 unfold Fl5;rw[Bq6 hf];rfl
theorem usm{f:Int->List Dat}(hf:∀x,f x=[.int .u8 x]){l:List Int}{j:Nat}{m:Int}{s:List UInt8}(h:Fz0 l j m=some s):usd (l.map f) j m=some [.str s]:=by
 unfold Fz0 at h;unfold usd;rw[length_map];cases hb:(decide (0<m)&&decide (j+m.toNat<=l.length)&&decide (m<=2147483648)) with
 |false=>rw[hb]at h;cases h
 |true=>
  rw[hb,cond_true]at h;cases h;rw[cond_true,<-map_drop,<-map_take,Bq6 hf]
theorem Be4{P:Program}{g:FuncId}{fn:Func}(hf:P.funcs[g]? =some fn)(hn:(fn.name== "runtime.NumGoroutine")=false)(hb:fn.body.isNone=true)(hx:(Extern.findNext fn).isNone=true)(he:Extern.find fn=some Extern.AbiNoEscape.same)(v:V):Fl7 P g [v] v:=by
 intro M ρ vals hr;simp only[B2]at hr;obtain⟨u,us,rfl,h1,rfl⟩:=hr;have hx':Extern.findNext fn=none:=by simpa using hx
 refine⟨u,h1,fun w=> ?_⟩;rw[run_callFunc_extern hf hn hb hx' he];rfl
end
section
section
variable {s0 s1:Nat->Prop} {r0 r1:Rho} {w0 w1 w:World} {M00 M1 M:Mem} {ρ:Rho} {ob:Nat->Option B9}
theorem Ow.under(h:Ow ⟨s1,r1⟩ w1 M1 M ρ ob w)(hx:Ge2 s0 M00 M1 w0 w1)(h2:∀b,s1 b->s0 b\/w0.heap.size<=b)(hq:Sz w0/\∀n cs,Kx.gl n=some cs->¬s0 n)(hn:∀q z,ob q≠some (.frn z))(hh:∀t i,Nat.ble 2000 t=true->r0 t=some i->∃i',ρ t=some i'/\Ile i i'):Ow ⟨s0,r0⟩ w0 M00 M ρ ob w:=by
 have mine:∀b,(s1 b\/w1.heap.size<=b)->(s0 b\/w0.heap.size<=b):=fun b hb=>hb.elim (h2 b) (fun h=> .inr (ah_ hx.size h))
 refine⟨ah_ hx.size h.size,h.os.trans hx.os,h.tape.trans hx.tape,h.output.trans hx.output,fun k hk hs=> ?_,h.sits,Mem.le_trans hx.le h.le,⟨h.gl.ok,hq.2,hq.1⟩,fun b c hb hlt=> ?_,fun r o ho=> ?_,h.dom,h.inj,hh⟩
 .rw[h.old k (a0_ hk hx.size) (fun hs'=>by rcases h2 k hs' with h5|h5;exact hs h5;exact absurd hk (Nat.not_lt.2 h5))];exact hx.block k hk hs
 .rcases h.new b c hb (a0_ hlt hx.size) with h5|h5
  .exact hx.new b c h5 hlt
  .rcases h2 b h5 with h6|h6
   .exact .inr h6
   .exact absurd hlt (Nat.not_lt.2 h6)
 .obtain⟨i,hi,hok⟩:=h.own r o ho;refine⟨i,hi,?_⟩;cases o with
  |tree g e sz shs es hh=>exact J0.tree hok (fun b hb=>mine _ (E0 hok hb).1) (fun _ _ _ _ h=>h)
  |box te cs=>
   obtain⟨h0,h1,rest⟩:=hok;exact⟨h0,⟨mine _ h1.1,h1.2⟩,rest⟩
  |buf g e sz es=>
   obtain⟨h0,hg,hss,hn,ht,hx,h1⟩:=hok;refine⟨h0,hg,hss,hn,ht,hx,fun hp=> ?_⟩;obtain⟨h1,rest⟩:=h1 hp;exact⟨⟨mine _ h1.1,h1.2⟩,rest⟩
  |fzs g sz es=>exact hok
  |fzb cs=>exact hok
  |mapo kk ag sz es=>
   obtain⟨h0,h1,rest⟩:=hok;exact⟨h0,⟨mine _ h1.1,h1.2⟩,rest⟩
  |raw b x=>
   obtain⟨h0,e,h1,rest⟩:=hok;exact⟨h0,e,⟨mine _ h1.1,h1.2⟩,rest⟩
  |frn q=>exact absurd ho (hn r q)
end
def Gg6(s:Nat->Prop)(r0:Rho)(w0:World)(M00:Mem)(H:List (Nat×B9))(v:V):Ending->World->Prop:=fun e w'=>
 ∃u M' ρ',e= .returned u/\Ow ⟨s,r0⟩ w0 M00 M' ρ' (B0 H) w'/\B8 M' ρ' v u
def Eb2(K:List Nat)(s:Nat->Prop)(r0:Rho)(w0:World):Prop:=(Sz w0/\∀n cs,Kx.gl n=some cs->¬s n)/\∀r i,r0 r=some i->D7 r K=true
abbrev Gc6(P:Program)(fn:Func)(H:List (Nat×B9))(v:V)(s:Nat->Prop)(r0:Rho)(w0:World)(M00:Mem)(Ds:List Nat):Fin:=Bi8 P fn (Gg6 s r0 w0 M00 H v) ⟨w0,s⟩ M00 r0 Ds
section
variable {P:Program} {N:Nat} {fn:Func} {v:V} {s:Nat->Prop} {r0:Rho} {w0:World} {M00:Mem} {Ds:List Nat} {c:Cfg} {K:List Nat}
theorem Bu6{l:List (Nat×B9)}(hc:J8 (B0 l) (F8 (L4 l)) (F8 (L4 l))=true):∀q z,B0 (L4 l) q≠some (.frn z):=fun q z hq=>by
 have hm:D7 q (F8 (L4 l))=true:=I4.2 ⟨_,hq⟩;rw[Ac2]at hq;split at hq
 .have:=E6 hc q _ hm hq;cases this
 .cases hq
theorem Bh8{rs:List ResultVar}{xs:List V}{H:List (Nat×B9)}(hst:Eb2 K s r0 w0)(ys:List V)(hfn:fn.results=rs.toArray)(hN:Nat.ble N 1024=true)(hv:Ca0 P N c rs=some (xs,H))(hre:R1 xs ys)(he:Dc3 ys=v)(hn:V4 c.ob=true):J none P N (dfs Ds) (Gc6 P fn H v s r0 w0 M00 Ds) c:=by
 refine⟨I1 hN,fun S wl M0 hH M ρ f w h=> ?_⟩;unfold Ca0 at hv;split at hv
 case h_2=>cases hv
 rename_i hat;split at hv
 case h_2=>cases hv
 rename_i vs hvs;split at hv
 case h_2=>cases hv
 rename_i xs' wr hx;split at hv
 case h_2=>cases hv
 rename_i hcl;cases hv;have hheld:∀t i,Nat.ble 2000 t=true->r0 t=some i->∃i',ρ t=some i'/\Ile i i':=fun t i hb hi=>h.ow.held t i hb (by rw[show S.r0=r0 from hH.1];exact hi)
 have hbase:∀S2 w2,HM ⟨w0,s⟩ M00 [] S2 w2 M->Ow S2 w2 M M ρ (B0 c.ob) w2->LeavesInM (WF none) 0 P fn (fr N f []).tmps (Gg6 s r0 w0 M00 (L4 (Q3 c.ob wr)) v) [] .returning w2:=fun S2 w2 h1 h2=>by
  have ha:Abs S2 w2 M M ρ N c f w2:=⟨h2,h.ok,h.sl⟩
  obtain⟨us,h3,h4⟩:=Ai5 ha hvs;obtain⟨M',r1,o1,d1⟩:=F1 h2 h4 hx;rw[<-U2]at o1;have o2:=o1.onlyH hcl;refine⟨Cv6 us,O5 (ds:=[]) hfn h3,Cv6 us,M',_,rfl,o2.under h1.1 h1.2.1 hst.1 (Bu6 hcl) (fun t i hb hi=> ?_),by rw[<-he];exact Am8 (hre.rel (d1 _))⟩;obtain⟨i',h5,h6⟩:=hheld t i hb hi;obtain⟨o,ho⟩:=o1.dom t i' h5;have hm:D7 t (F8 (L4 (Q3 c.ob wr)))=true:=I4.2 ⟨o,by rw[Ac2,hb];exact ho⟩;exact⟨i',by rw[F3 hm];exact h5,h6⟩
 have key:bodyPostM (WF none) 0 P fn (Gg6 s r0 w0 M00 (L4 (Q3 c.ob wr)) v) .ret (fr N f (dfs Ds)) w:=Bc0 (tmps:=(fr N f []).tmps) (by intro e;cases e) (F4 hn) hbase Ds S wl w M0 hH.2 h.ow;unfold Be2 at hat;split at hat
 .rename_i ht;rw[ht];exact Ce7 (Z4 _ hat key)
 .rename_i ht;rw[ht];exact key
 .cases hat
theorem Bh7{r:Option Nat}{ds:List Deferred}{H:List (Nat×B9)}(hst:Eb2 K s r0 w0)(p:List (Nat×Nat))(hkk:Cr7 p K=true)(hb:bij p=true)(ha:Ce8 p (B0 c.ob) p=true)(hn:V4 c.ob=true)(hk:J r P N ds (Gc6 P fn H v s r0 w0 M00 Ds) ⟨P5 (Av7 p) c.sl,Dz6 p (B0 c.ob) p,c.td⟩):J r P N ds (Gc6 P fn H v s r0 w0 M00 Ds) c:=
 El8 p (fun t i hi=>Bb1 hkk (hst.2 t i hi)) hb ha hn hk
theorem Bm2{g:FuncId}{b:Code}{os H:List (Nat×B9)}{args:List V}(hf:P.funcs[g]? =some fn)(hb:fn.body=some b)(hN:fn.ntmps=N)(hv:Nat.ble args.length N=true)(hno:V4 os=true)(h:∀s r0 w0 M00,Eb2 (F8 os) s r0 w0->J none P N (dfs []) (Gc6 P fn H v s r0 w0 M00 []) ⟨mkT (Dj0 0 args),os,[.code b]⟩):M4 P g os args H v:=by
 intro s wl M0 M ρ w vals ho hr;have hl:=I1 hv;refine Eo4 hf hb hN (by rw[hr.len];exact hl) ?_;have hst:Eb2 (F8 os) s ρ wl:=⟨⟨ho.gl.sz,ho.gl.off⟩,fun r i hi=>I4.2 (ho.dom r i hi)⟩
 have h:=h s ρ wl M0 hst;have hbs:=ho.base (r0:=ρ) M.le_refl ho.sits (ad_ _) (fun k hk=>⟨rfl,rfl⟩) (fun q i hq _=>absurd hq (F4 hno q q)) (fun q z hq=>absurd hq (F4 hno q z)) (fun _ _ _ h=>h) ho.szw;have:=h.2 ⟨TA ρ (B0 os),ρ⟩ w M ⟨rfl,⟨ho.os,ho.tape,ho.output,ho.size,ho.old,ho.le,ho.sits,ho.new⟩,fun b hb=>(M6 ho hb).1,fun _ h=>(by cases h),nodup_nil⟩ M ρ (Cc2 vals) w ⟨hbs,Al6 _,Ac7 h.1 _ (fun t v hm=>by
  obtain⟨_,h2⟩:=Ad9 hm;rw[a8_]at h2;obtain⟨u,h3,h4⟩:=hr.get h2;exact⟨a0_ (ac_.1 h2).1 hl,by unfold Cc2;rw[h3];exact h4⟩)⟩
 simp only[Wk,Exit.then]at this;exact this
end
end
section
section
variable {S:L8} {wl w:World} {M0 M:Mem} {ρ:Rho} {ob:Nat->Option B9}
theorem Ow.two(h:Ow S wl M0 M ρ ob w){r d:Nat}(hne:r≠d){o o' od:B9}{i i' id:Inf}(hr:ob r=some o)(hi:ρ r=some i)(hg:Ile i i')(hgd:∀k,ρ d=some k->Ile k id)
 (hb:∀b,blk i' o' b->blk i o b\/∃x k,ob d=some x/\ρ d=some k/\blk k x b) (hbd:∀b,blk id od b->blk i o b\/∃x k,ob d=some x/\ρ d=some k/\blk k x b) (hdj:∀b,blk i' o' b->blk id od b->False)
 (hx:∀ρ',Rle M M ρ ρ'->ρ' d=some id->J0 S wl M ρ' w i' o') (hxd:∀ρ',Rle M M ρ ρ'->J0 S wl M ρ' w id od):
 Rle M M ρ (H6 (H6 ρ r i') d id)/\Ow S wl M0 M (H6 (H6 ρ r i') d id) (H6 (H6 ob r o') d od) w:=by
 have hρ:∀q,q≠r->q≠d->H6 (H6 ρ r i') d id q=ρ q:=fun q h1 h2=>by rw[C5 _ _ h2,C5 _ _ h1]
 have hob:∀q,q≠r->q≠d->H6 (H6 ob r o') d od q=ob q:=fun q h1 h2=>by rw[C5 _ _ h2,C5 _ _ h1]
 have hρr:H6 (H6 ρ r i') d id r=some i':=by rw[C5 _ _ hne,B3]
 have hobr:H6 (H6 ob r o') d od r=some o':=by rw[C5 _ _ hne,B3]
 have hle:Rle M M ρ (H6 (H6 ρ r i') d id):=⟨M.le_refl,fun q j hj=>by
  by_cases e:q=d
  .subst e;exact⟨id,B3 _ _ _,hgd j hj⟩
  .by_cases e':q=r
   .subst e';rw[hi]at hj;cases hj;exact⟨i',hρr,hg⟩
   .exact⟨j,by rw[hρ q e' e];exact hj,Ile.refl j⟩⟩
 have other:∀q y j b,q≠r->q≠d->ob q=some y->ρ q=some j->blk j y b->¬(blk i' o' b\/blk id od b):=fun q y j b e e' hy hj hl hb'=>by
  have:blk i o b\/∃x k,ob d=some x/\ρ d=some k/\blk k x b:=hb'.elim (hb b) (hbd b);rcases this with h1|⟨x,k,h1,h2,h3⟩
  .exact e (h.inj q r y o j i b hy hr hj hi hl h1)
  .exact e' (h.inj q d y x j k b hy h1 hj h2 hl h3)
 refine⟨hle,h.size,h.os,h.tape,h.output,h.old,h.sits,h.le,h.gl,h.new,fun q y hy=> ?_,fun q j hj=> ?_,fun q q' y y' j j' b h1 h2 h3 h4 l1 l2=> ?_,fun q j hb hj=> ?_⟩
 .by_cases e:q=d
  .subst e;rw[B3]at hy;cases hy;exact⟨id,B3 _ _ _,hxd _ hle⟩
  .by_cases e':q=r
   .subst e';rw[hobr]at hy;cases hy;exact⟨i',hρr,hx _ hle (B3 _ _ _)⟩
   .rw[hob q e' e]at hy;obtain⟨j,h1,h2⟩:=h.own q y hy;exact⟨j,by rw[hρ q e' e];exact h1,h2.mono hle (fun _ _=>rfl) (fun _ _=>rfl)⟩
 .by_cases e:q=d
  .subst e;exact⟨od,B3 _ _ _⟩
  .by_cases e':q=r
   .subst e';exact⟨o',hobr⟩
   .rw[hρ q e' e]at hj;rw[hob q e' e];exact h.dom q j hj
 .have key:∀q y j,H6 (H6 ob r o') d od q=some y->H6 (H6 ρ r i') d id q=some j->blk j y b->(q=d/\blk id od b)\/(q=r/\blk i' o' b)\/(q≠r/\q≠d/\ob q=some y/\ρ q=some j):=fun q y j hy hj hl=>by
   by_cases e:q=d
   .subst e;rw[B3]at hy hj;cases hy;cases hj;exact .inl ⟨rfl,hl⟩
   .by_cases e':q=r
    .subst e';rw[hobr]at hy;rw[hρr]at hj;cases hy;cases hj;exact .inr (.inl ⟨rfl,hl⟩)
    .rw[hob q e' e]at hy;rw[hρ q e' e]at hj;exact .inr (.inr ⟨e',e,hy,hj⟩)
  rcases key q y j h1 h3 l1 with⟨e1,k1⟩|⟨e1,k1⟩|⟨n1,n2,k1,k2⟩<;>rcases key q' y' j' h2 h4 l2 with⟨e2,k3⟩|⟨e2,k3⟩|⟨n3,n4,k3,k4⟩
  .rw[e1,e2]
  .exact(hdj b k3 k1).elim
  .exact(other q' y' j' b n3 n4 k3 k4 l2 (.inr k1)).elim
  .exact(hdj b k1 k3).elim
  .rw[e1,e2]
  .exact(other q' y' j' b n3 n4 k3 k4 l2 (.inl k1)).elim
  .exact(other q y j b n1 n2 k1 k2 l1 (.inr k3)).elim
  .exact(other q y j b n1 n2 k1 k2 l1 (.inl k3)).elim
  .exact h.inj q q' y y' j j' b k1 k3 k2 k4 l1 l2
 .obtain⟨k,h1,h2⟩:=h.held q j hb hj;obtain⟨k',h3,h4⟩:=hle.ext q k h1;exact⟨k',h3,h2.trans h4⟩
theorem Cl6:∀{k:Nat} {ds:List Dat} {us:List Value} {bs:List Nat},F7 w M (List.replicate k .z) ds us bs->bs=[]/\C9 M ds us
 |0,_,_,_,h=>by
  simp only[List.replicate_zero,F7]at h;obtain⟨rfl,rfl,rfl⟩:=h;exact⟨rfl,rfl⟩
 |k+1,_,_,_,h=>by
  simp only[List.replicate_succ,F7,Ad5]at h;obtain⟨d,ds',u,us',b1,b2,rfl,rfl,rfl,⟨rfl,h1⟩,h2⟩:=h;obtain⟨rfl,h3⟩:=Cl6 h2;exact⟨rfl,u,us',rfl,h1,h3⟩
theorem Cw5:∀{ds:List Dat} {us:List Value},C9 M ds us->F7 w M (List.replicate ds.length .z) ds us []
 |[],us,h=>by
  simp only[length_nil,List.replicate_zero,F7];exact⟨trivial,h,trivial⟩
 |d::ds,us,⟨u,us',e,h1,h2⟩=>by
  simp only[length_cons,List.replicate_succ,F7,Ad5];exact⟨d,ds,u,us',[],[],rfl,e,rfl,⟨rfl,h1⟩,Cw5 h2⟩
theorem Fj2{n:Nat}:∀{es:List (List Dat)} {us:List Value} {bs:List Nat} {j:Nat},J1 (fun _ x u b=>x.length=n/\F7 w M (List.replicate n .z) x u b) n j es us bs->bs=[]/\rL (rDs n) M us es
 |[],_,_,_,h=>⟨h.2,h.1⟩
 |x::es,_,_,j,⟨u,us',b1,b2,e1,e2,e3,⟨e4,e5⟩,e6⟩=>by
  obtain⟨rfl,h1⟩:=Cl6 e5;obtain⟨rfl,h2⟩:=Fj2 e6;exact⟨e2,u,us',e1,⟨e4,h1⟩,h2⟩
theorem Cb9{n:Nat}:∀{es:List (List Dat)} {us:List Value} {j:Nat},rL (rDs n) M us es->J1 (fun _ x u b=>x.length=n/\F7 w M (List.replicate n .z) x u b) n j es us []
 |[],_,_,h=>⟨h,rfl⟩
 |x::es,_,j,⟨u,us',e1,⟨e4,e5⟩,e6⟩=>by
  refine⟨u,us',[],[],e1,rfl,(rDs n).len ⟨e4,e5⟩,⟨e4,?_⟩,Cb9 e6⟩;have:=Cw5 (w:=w) e5
  rwa [e4]at this
end
def Au3(w:World)(M M':Mem)(bs:List Nat):Prop:=M.le M'/\(∀b,b∉bs->M' b=M b)/\∀b,b∈bs->∃c e z,M' b=some c/\w.heap[b]? =some (.cells c e z)
theorem Au3.nil{w:World}{M:Mem}:Au3 w M M []:=⟨M.le_refl,fun _ _=>rfl,fun _ h=>by cases h⟩
theorem Au3.app{w:World}{M M1 M2:Mem}{a b:List Nat}(h:Au3 w M M1 a)(k:Au3 w M1 M2 b):Au3 w M M2 (a++b):=by
 refine⟨Mem.le_trans h.1 k.1,fun y hy=> ?_,fun y hy=> ?_⟩
 .rw[k.2.1 y (fun h'=>hy (al_ _ h')),h.2.1 y (fun h'=>hy (am_ _ h'))]
 .by_cases hb:y∈b
  .exact k.2.2 y hb
  .rcases List.mem_append.1 hy with h'|h'
   .obtain⟨c,e,z,h1,h2⟩:=h.2.2 y h';exact⟨c,e,z,by rw[k.2.1 y hb];exact h1,h2⟩
   .exact absurd h' hb
mutual
theorem Ad5.hold{w:World}:∀(s:Sh) {M:Mem} {d:Dat} {v:Value} {bs:List Nat},Ad5 w M s d v bs->bs.Nodup->(∀b,b∈bs->M b=none)->∃M',Au3 w M M' bs/\T7 M' d v
 | .z,M,d,v,bs,h,_,_=>by
   simp only[Ad5]at h;obtain⟨rfl,h⟩:=h;exact⟨M,Au3.nil,h⟩
 | .o e sz cs,M,d,v,bs,h,hnd,hM=>by
   simp only[Ad5]at h;obtain⟨es,a,cap,rfl,rfl,h3,h4,h5⟩:=h;rcases h5 with⟨h0,rfl⟩|⟨h0,b,base,bs',pre,us,sp,h6,rfl,h8,h9,h10,h11⟩
   .have:es=[]:=b7_.1 (by omega);subst this;exact⟨M,Au3.nil,Am0⟩
   .have hnd:=nodup_cons.1 hnd;have hM':∀y,y∈bs'->M y=none:=fun y hy=>hM y (mem_cons_of_mem _ hy)
    have key:∀(es:List (List Dat)) (us:List Value) (bs':List Nat) (j:Nat) (M:Mem),J1 (fun _ x u b=>x.length=sz/\F7 w M cs x u b) sz j es us bs'->bs'.Nodup->(∀y,y∈bs'->M y=none)->∃M',Au3 w M M' bs'/\rL (rDs sz) M' us es:=by
     intro es
     induction es with
     |nil=>intro us bs' j M h _ _;obtain⟨rfl,rfl⟩:=h;exact⟨M,Au3.nil,Bc3⟩
     |cons x es ih=>
      rintro us bs' j M ⟨u,us',b1,b2,rfl,rfl,e3,⟨e4,e5⟩,e6⟩ hnd hM
      obtain⟨n1,n2,n3⟩:=aw_.1 hnd;obtain⟨M1,g1,g2⟩:=F7.hold cs e5 n1 (fun y hy=>hM y (am_ _ hy));have e6':J1 (fun _ x u b=>x.length=sz/\F7 w M1 cs x u b) sz (j+1) es us' b2:=e6.mono (fun _ x u b _ h=>⟨h.1,h.2.mono g1.1 _ (fun _ _=>rfl)⟩);obtain⟨M2,g3,g4⟩:=ih us' b2 (j+1) M1 e6' n2 (fun y hy=>by rw[g1.2.1 y (fun h'=>n3 y h' y hy rfl)];exact hM y (al_ _ hy));exact⟨M2,g1.app g3,u,us',rfl,⟨e4,g2.mono g3.1⟩,g4⟩
    obtain⟨M1,g1,g2⟩:=key es us bs' 0 M h11 hnd.2 hM';have hMb:M1 b=none:=by rw[g1.2.1 b hnd.1];exact hM b ab_
    let M2:Mem:=fun y=>if y=b then some (pre++(us++sp)).toArray else M1 y
    have hM2b:M2 b=some (pre++(us++sp)).toArray:=if_pos rfl;have hle:M1.le M2:=fun y c hc=>by
     have hne:y≠b:=fun e=>by rw[e,hMb]at hc;cases hc
     exact⟨c,by simp only[M2,if_neg hne];exact hc,Pre.refl c⟩
    have hh:Au3 w M1 M2 [b]:=⟨hle,fun y hy=>by simp only[M2];rw[if_neg (by simpa using hy)],fun y hy=>by
     have:y=b:=by simpa using hy
     subst this;exact⟨_,_,_,hM2b,h8⟩⟩
    refine⟨M2,?_,Ck0 (off:=0) hM2b (Pre.refl _) h9 (Bc2 hle g2) h3 (fun _=>by rw[h6,Nat.add_zero]) (fun j _=>by rw[Nat.zero_add])⟩;have:=g1.app hh;refine⟨this.1,fun y hy=>this.2.1 y (fun h'=>hy (by simp at h'⊢;exact h'.symm)),fun y hy=>this.2.2 y (by simp at hy⊢;exact hy.symm)⟩
theorem F7.hold{w:World}:∀(cs:List Sh) {M:Mem} {ds:List Dat} {us:List Value} {bs:List Nat},F7 w M cs ds us bs->bs.Nodup->(∀b,b∈bs->M b=none)->∃M',Au3 w M M' bs/\C9 M' ds us
 |[],M,ds,us,bs,h,_,_=>by
  simp only[F7]at h;obtain⟨rfl,rfl,rfl⟩:=h;exact⟨M,Au3.nil,rfl⟩
 |s::cs,M,ds,us,bs,h,hnd,hM=>by
  simp only[F7]at h;obtain⟨d,ds',u,us',b1,b2,rfl,rfl,rfl,h4,h5⟩:=h;obtain⟨n1,n2,n3⟩:=aw_.1 hnd;obtain⟨M1,g1,g2⟩:=Ad5.hold s h4 n1 (fun y hy=>hM y (am_ _ hy));obtain⟨M2,g3,g4⟩:=F7.hold cs (h5.mono g1.1 _ (fun _ _=>rfl)) n2 (fun y hy=>by rw[g1.2.1 y (fun h'=>n3 y h' y hy rfl)];exact hM y (al_ _ hy));exact⟨M2,g1.app g3,u,us',rfl,g2.mono g3.1,g4⟩
end
theorem J1.hold{w:World}{ρ:Rho}{sz:Nat}{cs:List Sh}:∀{es:List (List Dat)} {us:List Value} {bs:List Nat} {j:Nat} {M:Mem},J1 (R5 w M ρ sz cs none) sz j es us bs->bs.Nodup->(∀y,y∈bs->M y=none)->∃M',Au3 w M M' bs/\rL (rDs sz) M' us es
 |[],us,bs,j,M,h,_,_=>by obtain⟨rfl,rfl⟩:=h;exact⟨M,Au3.nil,Bc3⟩
 |x::es,us,bs,j,M,⟨u,us',b1,b2,e1,e2,e3,⟨e4,e5⟩,e6⟩,hnd,hM=>by
  subst e1 e2;obtain⟨n1,n2,n3⟩:=aw_.1 hnd;obtain⟨M1,g1,g2⟩:=F7.hold cs e5 n1 (fun y hy=>hM y (am_ _ hy));have e6':J1 (R5 w M1 ρ sz cs none) sz (j+1) es us' b2:=e6.mono (fun _ x u b _ h=>⟨h.1,h.2.mono g1.1 _ (fun _ _=>rfl)⟩);obtain⟨M2,g3,g4⟩:=J1.hold e6' n2 (fun y hy=>by rw[g1.2.1 y (fun h'=>n3 y h' y hy rfl)];exact hM y (al_ _ hy));exact⟨M2,g1.app g3,u,us',rfl,⟨e4,g2.mono g3.1⟩,g4⟩
section
variable {rr:Option Nat} {P:Program} {N:Nat} {dfr:List Deferred} {fin:Fin} {c:Cfg}
theorem U0{g sz:Nat}{e:TypeId}{shs:List Sh}{es:List (List Dat)}(r:Nat)(hr:B0 c.ob r=some (.tree g e sz shs es none))(hk:J rr P N dfr fin ⟨c.sl,O3 c.ob r (.buf g e sz es),c.td⟩):J rr P N dfr fin c:=by
 refine⟨hk.1,fun S wl M0 hH M ρ f w ha=> ?_⟩;have h:=ha.ow;obtain⟨i,hi,hok⟩:=h.own r _ hr;obtain⟨a1,a2,a3,a4,a5,a6,a7,a8,a9,a10⟩:=hok;obtain⟨M',hM',hbuf⟩:∃M',Au3 w M M' i.subs/\(0<i.tot->Bt2 S wl M i g/\∃pre us sp,w.heap[i.b]? =some (.cells (pre++(us++sp)).toArray e (0,0))/\pre.length=i.base*sz/\(us++sp).length=i.tot*sz/\rL (rDs sz) M' us es):=by
  by_cases ht:0<i.tot
  .obtain⟨b1,b2,pre,us,sp,b3,b4,b5,b6⟩:=a10 ht;obtain⟨M',g1,g2⟩:=b6.hold (nodup_cons.1 a8).2 (fun y hy=>(a9 y hy).2.1);exact⟨M',g1,fun _=>⟨b1,pre,us,sp,b3,b4,b5,g2⟩⟩
  .have:=a7 (by omega);exact⟨M,by rw[this];exact Au3.nil,fun h=>absurd h ht⟩
 have hib:i.b∉i.subs:=(nodup_cons.1 a8).1
 let i':Inf:={i with subs:=[]}
 have hR:Rle M M' ρ (H6 ρ r i'):=⟨hM'.1,fun q j hj=>by
  by_cases e:q=r
  .subst e;rw[hi]at hj;cases hj;exact⟨i',B3 _ _ _,ad_ _,fun _=>rfl,fun h=>by rw[a1]at h;cases h⟩
  .exact⟨j,by rw[C5 _ _ e];exact hj,Ile.refl j⟩⟩
 have hsub:∀b,blk i' (.buf g e sz es) b->blk i (.tree g e sz shs es none) b:=fun b hb=> .inl (show Aj1 i (.buf g e sz es)/\i.b=b from J4 (i:=i') hb rfl)
 have ow:Ow S wl M0 M' (H6 ρ r i') (H6 (B0 c.ob) r (.buf g e sz es)) w:=by
  refine⟨h.size,h.os,h.tape,h.output,h.old,fun b cc hb=> ?_,Mem.le_trans h.le hM'.1,h.gl.mono hM'.1,fun b cc hb hlt=> ?_,fun q y hy=> ?_,fun q j hj=> ?_,fun q q' y y' j j' b h1 h2 h3 h4 l1 l2=> ?_,fun q j hb hj=> ?_⟩
  .by_cases hm:b∈i.subs
   .obtain⟨c1,e1,z1,q1,q2⟩:=hM'.2.2 b hm;rw[q1]at hb;cases hb;exact⟨_,_,_,q2,Pre.refl _⟩
   .rw[hM'.2.1 b hm]at hb;exact h.sits b cc hb
  .by_cases hm:b∈i.subs
   .rcases(a9 b hm).1 with hs|hs
    .exact .inr hs
    .omega
   .rw[hM'.2.1 b hm]at hb;exact h.new b cc hb hlt
  .by_cases e:q=r
   .subst e;rw[B3]at hy;cases hy;refine⟨i',B3 _ _ _,a1,a2,a3,a4,a5,a6,fun hp=> ?_⟩;obtain⟨m,rest⟩:=hbuf hp;exact⟨⟨m.1,fun hg=>by rw[show i'.b=i.b from rfl,hM'.2.1 _ hib];exact m.2.1 hg,fun cc hc=>m.2.2 cc (by rw[<-hM'.2.1 _ hib];exact hc)⟩,rest⟩
   .rw[C5 _ _ e]at hy;obtain⟨j,h1,h2⟩:=h.own q y hy;exact⟨j,by rw[C5 _ _ e];exact h1,h2.mono hR (fun b hb=>hM'.2.1 b (fun hm=>e (h.inj q r y _ j i b hy hr h1 hi hb (.inr ⟨rfl,hm⟩)))) (fun _ _=>rfl)⟩
  .by_cases e:q=r
   .subst e;exact⟨_,B3 _ _ _⟩
   .rw[C5 _ _ e]at hj⊢;exact h.dom q j hj
  .have key:∀q y j,H6 (B0 c.ob) r (.buf g e sz es) q=some y->H6 ρ r i' q=some j->blk j y b->∃y0 j0,B0 c.ob q=some y0/\ρ q=some j0/\blk j0 y0 b:=fun q y j hy hj hl=>by
    by_cases e:q=r
    .subst e;rw[B3]at hy hj;cases hy;cases hj;exact⟨_,i,hr,hi,hsub b hl⟩
    .rw[C5 _ _ e]at hy hj;exact⟨y,j,hy,hj,hl⟩
   obtain⟨y0,j0,k1,k2,k3⟩:=key q y j h1 h3 l1;obtain⟨y1,j1,k4,k5,k6⟩:=key q' y' j' h2 h4 l2;exact h.inj q q' y0 y1 j0 j1 b k1 k4 k2 k5 k3 k6
  .obtain⟨k,h1,h2⟩:=h.held q j hb hj;obtain⟨k',h3,h4⟩:=hR.ext q k h1;exact⟨k',h3,h2.trans h4⟩
 exact hk.2 S wl M0 hH M' _ f w ⟨by dsimp only;rw[D9];exact ow,ha.ok,fun t ht=>B8.mono hR _ (ha.sl t ht)⟩
theorem W0{g e sz:Nat}{es:List (List Dat)}(r:Nat)(hr:B0 c.ob r=some (.buf g e sz es))(hk:J rr P N dfr fin ⟨c.sl,O3 c.ob r (.fzs g sz es),c.td⟩):J rr P N dfr fin c:=by
 refine⟨hk.1,fun S wl M0 hH M ρ f w ha=> ?_⟩;obtain⟨M',h1,h2⟩:=ha.ow.freeze hr;exact hk.2 S wl M0 hH M' ρ f w ⟨by dsimp only;rw[D9];exact h2,ha.ok,fun t ht=>B8.mono h1 _ (ha.sl t ht)⟩
theorem Bh5{g:Nat}{e e2:TypeId}{n:Nat}{es:List (List Dat)}(r d j:Nat)(ds:List (List Dat))(hne:Nat.beq r d=false)(hr:B0 c.ob r=some (.tree g e 1 [.o e2 n (List.replicate n .z)] es none))(hd:B0 c.ob d=none)(hj:es[j]? =some [.sl n ds])
 (hk:J rr P N dfr fin ⟨c.sl,O3 (O3 c.ob r (.tree g e 1 [.o e2 n (List.replicate n .z)] es (some (j,[.suf d 0 0])))) d (.buf 0 e2 n ds),c.td⟩):J rr P N dfr fin c:=by
 have hne:r≠d:=fun h=>by subst h;rw[Nat.beq_refl]at hne;cases hne
 refine⟨hk.1,fun S wl M0 hH M ρ f w ha=> ?_⟩;obtain⟨i,hi,hok⟩:=ha.ow.own r _ hr;obtain⟨a1,a2,a3,a4,a5,a6,a7,a8,a9,a10⟩:=hok;obtain⟨hjl,hje⟩:=ac_.1 hj;have htp:0<i.tot:=by omega
 obtain⟨b1,b2,pre,us,sp,hw,hpre,hlen,b6⟩:=a10 htp;obtain⟨b,g1,hu,c1,c2,hbs,hset⟩:=b6.get hjl;rw[Nat.zero_add]at g1 hset;rw[hje]at g1;obtain⟨_,g2⟩:=g1;simp only[F7,Ad5]at g2;obtain⟨_,_,v,_,bA,_,e1,hv,hbA,⟨ds',ad,cap,e3,rfl,hcap,hcm,hcase⟩,rfl,rfl,rfl⟩:=g2;cases e1;cases e3;rw[append_nil]at hbA;subst hbA;have hρd:=ha.ow.ob_none hd
 obtain⟨k,hk0,hkg,hkn,hkt,hkok,hkb,hkp⟩:∃k:Inf,k.subs=[]/\k.g=0/\k.n=ds.length/\k.tot=cap/\(∀ρ',J0 S wl M ρ' w k (.buf 0 e2 n ds))/\(∀y,blk k (.buf 0 e2 n ds) y->y∈b)/\(0<cap->ad=some ⟨k.b,k.base*k.sz,none⟩):=by
  rcases hcase with⟨h0,rfl⟩|⟨h0,bb,base,bs',pre2,us2,sp2,h1,h2,h3,h4,h5,h6⟩
  .have hds:ds=[]:=b7_.1 (by omega);subst hds;subst h0;exact⟨⟨0,0,0,n,0,0,false,[]⟩,rfl,rfl,rfl,rfl,fun _=>⟨rfl,rfl,rfl,rfl,ad_ _,at_ _,fun h=>absurd h (ay_ _)⟩,fun y hy=>absurd (J4 hy rfl).1 (ay_ _),fun h=>absurd h (ay_ _)⟩
  .obtain⟨rfl,h7⟩:=Fj2 h6;have hm:=a9 bb (by rw[hbs,h2];simp);refine⟨⟨bb,base,cap,n,ds.length,0,false,[]⟩,rfl,rfl,rfl,rfl,fun _=>⟨rfl,rfl,rfl,rfl,hcap,hcm,fun _=>⟨⟨hm.1,fun _=>hm.2.1,fun c hc=>by rw[show M bb=none from hm.2.1]at hc;cases hc⟩,pre2,us2,sp2,h3,h4,h5,h7⟩⟩,fun y hy=>by rw[h2,<-(J4 hy rfl).2];exact ab_,fun _=>h1⟩
 have hnd:(c1++(b++c2)).Nodup:=by rw[<-hbs];exact(nodup_cons.1 a8).2
 have hsub:∀y,y∈c1++c2->y∈i.subs:=fun y hy=>by
  rw[hbs];rcases List.mem_append.1 hy with h|h
  .exact am_ _ h
  .exact al_ _ (al_ _ h)
 have hndb:∀y,y∈c1++c2->y∈b->False:=fun y hy hb=>by
  obtain⟨n1,n2,n3⟩:=aw_.1 hnd;obtain⟨n4,n5,n6⟩:=aw_.1 n2;rcases List.mem_append.1 hy with h|h
  .exact n3 y h y (am_ _ hb) rfl
  .exact n6 y hb y h rfl
 have hbsub:∀y,y∈b->y∈i.subs:=fun y hy=>by rw[hbs];simp[hy]
 obtain⟨h5,h6⟩:=ha.ow.two (d:=d) (i':={i with subs:=c1++c2}) (o':= .tree g e 1 [.o e2 n (List.replicate n .z)] es (some (j,[.suf d 0 0]))) (od:= .buf 0 e2 n ds) (id:=k) hne hr hi ⟨ad_ _,fun _=>rfl,fun h=>by rw[a1]at h;cases h⟩ (fun k hk=>by rw[hρd]at hk;cases hk)
  (fun y hy=> .inl (hy.imp id (fun h=>⟨rfl,hsub y h.2⟩))) (fun y hy=> .inl (.inr ⟨rfl,hbsub y (hkb y hy)⟩))
  (fun y hy hy'=>by
   have hb:=hkb y hy';rcases hy with⟨_,h⟩|⟨_,h⟩
   .exact(nodup_cons.1 a8).1 (by rw[show i.b=y from h];exact hbsub y hb)
   .exact hndb y h hb)
  (fun ρ' hle hρ'=>by
   refine⟨a1,a2,a3,a4,a5,a6,fun h=>absurd h (by show i.tot≠0;omega),?_,fun y hy=>a9 y (hsub y hy),fun _=>⟨b1,b2,pre,us,sp,hw,hpre,hlen,?_⟩⟩
   .refine nodup_cons.2 ⟨fun h=>(nodup_cons.1 a8).1 (hsub _ h),?_⟩;obtain⟨n1,n2,n3⟩:=aw_.1 hnd;obtain⟨n4,n5,n6⟩:=aw_.1 n2;exact aw_.2 ⟨n1,n5,fun x hx y hy=>n3 x hx y (al_ _ hy)⟩
   .have:=hset (R5 w M ρ' 1 [.o e2 n (List.replicate n .z)] (some (j,[.suf d 0 0]))) (es[j]) ((us.drop (j*1)).take 1) [] (fun i0 x u c hi0 hc0 hr0=>⟨fun e=>absurd e hi0,fun _=>hr0⟩) hu ⟨fun _=>⟨rfl,?_,?_⟩,fun e=>absurd rfl e⟩
    .rw[List.set_getElem_self]at this;have e9:D2 us (j*1) ((us.drop (j*1)).take 1)=us:=by
      have hul:=b6.len;unfold D2;rw[hu,<-az_,List.append_assoc,ao_,ao_]
     rw[e9]at this;simpa using this
    .rw[hv];simp only[B2];have:=P6 (M:=M) (ρ:=ρ') (q:=d) (g:=0) (off:=0) (p:=ad) hρ' hkg (at_ _) (fun h=>by rw[Nat.add_zero];exact hkp (by rw[hkt]at h;exact h));rw[hkn,hkt,a8_,a8_]at this;exact⟨_,[],rfl,this,rfl⟩
    .rw[hv];intro v' hv';simp only[mem_cons,mem_nil_iff,or_false]at hv';subst hv';rfl)
  (fun ρ' _=>hkok ρ')
 have:=hk.2 S wl M0 hH M _ f w ⟨by dsimp only;rw[D9,D9];exact h6,ha.ok,fun t ht=>B8.mono h5 _ (ha.sl t ht)⟩;exact this
theorem Fq6{g gd:Nat}{e e2:TypeId}{n:Nat}{es ds:List (List Dat)}(r d j:Nat)(hne:Nat.beq r d=false)(hr:B0 c.ob r=some (.tree g e 1 [.o e2 n (List.replicate n .z)] es (some (j,[.suf d gd 0]))))(hd:B0 c.ob d=some (.buf gd e2 n ds))(hgd:Nat.blt gd 1000000=true)(hj:j<es.length)
 (hk:J rr P N dfr fin ⟨c.sl,O3 (O3 c.ob r (.tree g e 1 [.o e2 n (List.replicate n .z)] (es.set j [.sl n ds]) none)) d (.buf (gd+1) e2 n []),c.td⟩):J rr P N dfr fin c:=by
 have hne:r≠d:=fun h=>by subst h;rw[Nat.beq_refl]at hne;cases hne
 refine⟨hk.1,fun S wl M0 hH M ρ f w ha=> ?_⟩;obtain⟨i,hi,hok⟩:=ha.ow.own r _ hr;obtain⟨a1,a2,a3,a4,a5,a6,a7,a8,a9,a10⟩:=hok;have htp:0<i.tot:=by omega
 obtain⟨b1,b2,pre,us,sp,hw,hpre,hlen,b6⟩:=a10 htp;obtain⟨b,g1,hu,c1,c2,hbs,hset⟩:=b6.get hj;rw[Nat.zero_add]at g1 hset;obtain⟨rfl,hrel,hone⟩:=g1.1 rfl;obtain⟨k,hkk,hkok⟩:=ha.ow.own d _ hd;obtain⟨k1,k2,k3,k4,k5,k6,k7⟩:=hkok;simp only[B2]at hrel;obtain⟨v,_,hv,hvr,rfl⟩:=hrel;obtain⟨k',hk',_,hvs⟩:=J7 hvr;rw[hkk]at hk';cases hk';obtain⟨_,p,rfl,hp⟩:=hvs k2.symm;rw[a8_,a8_]at hv;have hnd:(c1++c2).Nodup:=by
  have:=(nodup_cons.1 a8).2;rw[hbs]at this;simpa using this
 have hsub:i.subs=c1++c2:=by rw[hbs];simp
 have hkb:0<k.tot->k.b∉c1++c2/\k.b≠i.b:=fun hp=>⟨fun h=>hne (ha.ow.inj r d _ _ i k k.b hr hd hi hkk (.inr ⟨rfl,by rw[hsub];exact h⟩) (.inl ⟨hp,rfl⟩)),fun h=>hne (ha.ow.inj r d _ _ i k k.b hr hd hi hkk (.inl ⟨htp,h.symm⟩) (.inl ⟨hp,rfl⟩))⟩
 obtain⟨bd,hbd1,hbd2,hown⟩:∃bd:List Nat,(∀y,y∈bd->0<k.tot/\y=k.b)/\bd.Nodup/\F7 w M [.o e2 n (List.replicate n .z)] [.sl n ds] [.slice p k.n k.tot] bd:=by
  simp only[F7,Ad5];by_cases ht:0<k.tot
  .obtain⟨m,pre2,us2,sp2,h1,h2,h3,h4⟩:=k7 ht;have hp:=hp ht;subst hp;refine⟨[k.b],fun y hy=>⟨ht,by simpa using hy⟩,by simp,_,[],_,[],[k.b],[],rfl,rfl,by simp,⟨ds,_,k.tot,rfl,by rw[k4],k4▸k5,k6,.inr ⟨ht,k.b,k.base,[],pre2,us2,sp2,by rw[Nat.add_zero,k3],rfl,h1,h2,h3,Cb9 h4⟩⟩,rfl,rfl,rfl⟩
  .have h0:k.tot=0:=by omega
   refine⟨[],fun y hy=>(by cases hy),by simp,_,[],_,[],[],[],rfl,rfl,by simp,⟨ds,p,k.tot,rfl,by rw[k4],k4▸k5,k6,.inl ⟨h0,rfl⟩⟩,rfl,rfl,rfl⟩
 have hbdn:∀y,y∈bd->y∉c1++c2/\y≠i.b:=fun y hy=>by
  obtain⟨h1,h2⟩:=hbd1 y hy;subst h2;exact hkb h1
 have hmem:∀y,y∈c1++(bd++c2)->y∈c1++c2\/y∈bd:=fun y hy=>by
  simp only[List.mem_append]at hy⊢;rcases hy with h|h|h
  .exact .inl (.inl h)
  .exact .inr h
  .exact .inl (.inr h)
 obtain⟨h5,h6⟩:=ha.ow.two (d:=d) (i':={i with subs:=c1++(bd++c2)}) (o':= .tree g e 1 [.o e2 n (List.replicate n .z)] (es.set j [.sl n ds]) none) (od:= .buf (gd+1) e2 n []) (id:=⟨0,0,0,n,0,gd+1,false,[]⟩) hne hr hi ⟨ad_ _,fun _=>rfl,fun h=>by rw[a1]at h;cases h⟩ (fun k' hk=>by
  rw[hkk]at hk;cases hk;exact⟨by show k.g<=gd+1;omega,fun h=>absurd h (by show k.g≠gd+1;omega),fun h=>by rw[k1]at h;cases h⟩)
  (fun y hy=>by
   rcases hy with h|⟨_,h⟩
   .exact .inl (.inl h)
   .rcases hmem y h with h|h
    .exact .inl (.inr ⟨rfl,by rw[hsub];exact h⟩)
    .exact .inr ⟨_,k,hd,hkk,.inl ⟨(hbd1 y h).1,(hbd1 y h).2.symm⟩⟩)
  (fun y hy=>absurd (J4 hy rfl).1 (ay_ _)) (fun y _ hy=>absurd (J4 hy rfl).1 (ay_ _))
  (fun ρ' hle _=>by
   refine⟨a1,a2,a3,by rw[length_set];exact a4,a5,a6,fun h=>absurd h (by show i.tot≠0;omega),?_,fun y hy=> ?_,fun _=>⟨b1,b2,pre,us,sp,hw,hpre,hlen,?_⟩⟩
   .refine nodup_cons.2 ⟨fun h=> ?_,?_⟩
    .rcases hmem _ h with h|h
     .exact(nodup_cons.1 a8).1 (by rw[hsub];exact h)
     .exact(hbdn _ h).2 rfl
    .obtain⟨n1,n2,n3⟩:=aw_.1 hnd;refine aw_.2 ⟨n1,aw_.2 ⟨hbd2,n2,fun x hx y hy e=>(hbdn x hx).1 (by rw[e];exact al_ _ hy)⟩,fun x hx y hy e=> ?_⟩;rcases List.mem_append.1 hy with h|h
     .exact(hbdn y h).1 (by rw[<-e];exact am_ _ hx)
     .exact n3 x hx y h e
   .rcases hmem y hy with h|h
    .exact a9 y (by rw[hsub];exact h)
    .obtain⟨h1,rfl⟩:=hbd1 y h;obtain⟨m,pre2,us2,sp2,q1,_⟩:=k7 h1;exact⟨m.1,m.2.1 (by rw[<-k2]at hgd;rw[<-k2];exact hgd),(aq_.1 q1).1⟩
   .have:=hset (R5 w M ρ' 1 [.o e2 n (List.replicate n .z)] none) [.sl n ds] ((us.drop (j*1)).take 1) bd (fun i0 x u c hi0 hc0 hr0=>hr0.2 hi0) hu ⟨rfl,by rw[hv];exact hown⟩;have e9:D2 us (j*1) ((us.drop (j*1)).take 1)=us:=by
     have hul:=b6.len;unfold D2;rw[hu,<-az_,List.append_assoc,ao_,ao_]
    rw[e9]at this;exact this)
  (fun ρ' _=>⟨rfl,rfl,rfl,rfl,ad_ _,at_ _,fun h=>absurd h (ay_ _)⟩)
 have:=hk.2 S wl M0 hH M _ f w ⟨by dsimp only;rw[D9,D9];exact h6,ha.ok,fun t ht=>B8.mono h5 _ (ha.sl t ht)⟩;exact this
theorem Ap8{g gd:Nat}{e e2:TypeId}{n:Nat}{es ds:List (List Dat)}(r d j:Nat)(es':List (List Dat))(hne:Nat.beq r d=false)(hr:B0 c.ob r=some (.tree g e 1 [.o e2 n (List.replicate n .z)] es (some (j,[.suf d gd 0]))))(hd:B0 c.ob d=some (.buf gd e2 n ds))(hgd:Nat.blt gd 1000000=true)(hj:j<es.length)(he:es.set j [.sl n ds]=es')
 (hk:J rr P N dfr fin ⟨c.sl,O3 (O3 c.ob r (.tree g e 1 [.o e2 n (List.replicate n .z)] es' none)) d (.buf (gd+1) e2 n []),c.td⟩):J rr P N dfr fin c:=by
 subst he;exact Fq6 r d j hne hr hd hgd hj hk
end
theorem Re.pt(cs:List Dat):Re (.rp cs 0) (.d (.pt cs)):=fun M ρ u h=>by
 obtain⟨b,o,us,rfl,hc,hr⟩:=Ad1 h;exact V5 (.pt cs b o us hc hr.len (fun j c u h1 h2=>hr.get h1 h2))
theorem shm{α β:Type}{f:α->β}{l:List α}{j:Nat}{z:α}:(l.map f).set j (f z)=(l.set j z).map f:=List.map_set.symm
theorem gjo{α β:Type}{l:List α}{f:α->β}{i:Int}{y:α}(h:C2 l i=some y):(l.map f)[i.toNat]? =some (f y):=by
 rw[List.getElem?_map,(N0 h).2];rfl
theorem glt{α β:Type}{l:List α}{f:α->β}{i:Int}{y:α}(h:C2 l i=some y):i.toNat<(l.map f).length:=by
 rw[length_map];exact(ac_.1 (N0 h).2).1
theorem ckI{α β:Type}{l:List α}{f:α->β}{i:Int}{y:α}(h:C2 l i=some y):chk (decide (0<=i)&&(decide (0+i.toNat=i.toNat)&&decide (i.toNat<(l.map f).length)))=some []:=by
 have h0:0<=i:=by have:=(N0 h).1;omega
 rw[dT_ h0,dT_ (Nat.zero_add _),dT_ (glt h)];rfl
theorem ckE{α β:Type}{l:List α}{f:α->β}{i:Int}{y:α}(h:C2 l i=some y):chk (decide (i.toNat=i.toNat)&&decide (i.toNat<(l.map f).length))=some []:=by
 rw[dT_ rfl,dT_ (glt h)];rfl
end
end Go.Proofs.YtfgbhfphjmmiaaaGreatDoor.Kx
end
