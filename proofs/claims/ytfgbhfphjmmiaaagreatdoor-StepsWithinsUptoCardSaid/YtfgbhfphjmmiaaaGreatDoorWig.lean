/- StepsWithins holds: whatever the input, the call returns true, and what came in reads as it did. No condition. -/
import Derived.Test.YtfgbhfphjmmiaaaGreatDoorTie
import Derived.Test.YtfgbhfphjmmiaaaGreatDoorCards
import Derived.WalkKit
import Derived.ShutString
import Derived.ChangeOld
import Derived.Test.YtfgbhfphjmmiaaaGreatDoorWif
open List Go.Proofs.Tryz
section
namespace Go.Proofs.YtfgbhfphjmmiaaaGreatDoor
open Go Go.RowKit Kx Go.IntKind
set_option maxRecDepth 100000
section
section
variable {y:A9}
def Eh3(n:Nat)(l:List A2):Prop:=∃l0,l=eL l0/\∀c∈l0,Eh1 n c
theorem Cu7{s:Nat}{row:List A2}(hg:y.Choices[s]? =some row)(hr:row.length<=1000)(h12:y.Owner.length<=12)(hz:∀c∈row,szC c):
 ∀(l:List A2) (i:Nat),row.drop i=l->(Eh3 y.Owner.length l/\Ev fun f=>∀(k:Nat) (cL:Int->Option Bool),l.length<k->Af7 f y (s:Int) cL k (i:Int)=cL (i64.wrap ((s:Int)+1)))\/(¬Eh3 y.Owner.length l/\Ev fun f=>∀(k:Nat) (cL:Int->Option Bool),l.length<k->Af7 f y (s:Int) cL k (i:Int)=some false)
 |[],i,hd=> .inl ⟨⟨[],rfl,fun _ h=>(by cases h)⟩,Ev.of fun f k cL hk=>by
  obtain⟨k,rfl⟩:∃j,k=j+1:=⟨k-1,by omega⟩
  have:=drop_nil hd;unfold Af7;rw[D4,hg,sb,dF_ (by simp;omega)];rfl⟩
 |c::l,i,hd=>by
  obtain⟨hi,hb,hd'⟩:=K3 hd;have mc:c∈row:=by rw[<-hb];exact ae_ hi
  obtain⟨b,hbb,hE⟩:=Dl1 h12 (hz c mc);have step:∀f k (cL:Int->Option Bool),(c::l).length<k->∃j,k=j+1/\Af7 f y (s:Int) cL k (i:Int)=(Eu2 f c (y.Owner.length:Int)).bind fun y84=>bif !y84 then some false else Af7 f y (s:Int) cL j ((i+1:Nat):Int):=fun f k cL hk=>by
   obtain⟨k,rfl⟩:∃j,k=j+1:=⟨k-1,by omega⟩
   refine⟨k,rfl,?_⟩
   conv=>lhs;unfold Af7
   rw[D4,hg,sb,dT_ (by simp;omega)];simp only[cond_true];rw[sb,C3 hi,sb,hb,length_map,wi i (by omega)]
  cases hbv:b with
  |false=>
   subst hbv;refine .inr ⟨fun⟨l0,h1,h2⟩=> ?_,hE.mono fun f hf k cL hk=> ?_⟩
   .cases l0 with
    |nil=>cases h1
    |cons c0 t=>
     have h1':c::l=eC c0::eL t:=h1;cases h1';have:=hbb.2 ⟨c0,rfl,h2 c0 aa_⟩;cases this
   .obtain⟨j,_,e⟩:=step f k cL hk;rw[e,hf,sb];rfl
  |true=>
   subst hbv;obtain⟨c0,hc0,hok⟩:=hbb.1 rfl;rcases Cu7 hg hr h12 hz l (i+1) hd' with⟨⟨l0,h1,h2⟩,h3⟩|⟨h1,h3⟩
   .refine .inl ⟨⟨c0::l0,by rw[hc0,h1];rfl,fun x hx=> ?_⟩,(hE.and h3).mono fun f hf k cL hk=> ?_⟩
    .rcases mem_cons.1 hx with rfl|hx
     .exact hok
     .exact h2 x hx
    .obtain⟨j,ej,e⟩:=step f k cL hk;rw[e,hf.1,sb];exact hf.2 j cL (by simp at hk;omega)
   .refine .inr ⟨fun⟨l0,a1,a2⟩=>h1 ?_,(hE.and h3).mono fun f hf k cL hk=> ?_⟩
    .cases l0 with
     |nil=>cases a1
     |cons c1 t=>
      have a1':c::l=eC c1::eL t:=a1;cases a1';exact⟨t,rfl,fun x hx=>a2 x (mem_cons_of_mem _ hx)⟩
    .obtain⟨j,ej,e⟩:=step f k cL hk;rw[e,hf.1,sb];exact hf.2 j cL (by simp at hk;omega)
def Ca7(y:A9)(s:Nat):Prop:=(∃o,y.Owner[s]? =some o/\(o=0\/o=1))/\∃row,y.Choices[s]? =some row/\1<=row.length/\row.length<=4/\Eh3 y.Owner.length row
theorem Cu6(h12:y.Owner.length<=12)(hlen:y.Choices.length=y.Owner.length)(hz:szZ y){tb:Bool}(hT:(∀s,s<y.Owner.length->Ca7 y s)->Ev fun f=>Option.bind (F63 f y) (fun y91=>Option.bind (bif decide (y91.1>0) then some (decide (y91.2>0)) else some false) fun o5=>some o5)=some tb):
 ∀(r i:Nat),i+r=y.Owner.length->(∀s,s<i->Ca7 y s)->∃b,(b=true↔(∀s,s<y.Owner.length->Ca7 y s)/\tb=true)/\Ev fun f=>∀k,r<k->Aj5 f y k (i:Int)=some b
 |0,i,hi,hall=>by
  have hall':∀s,s<y.Owner.length->Ca7 y s:=fun s hs=>hall s (by omega)
  refine⟨tb,⟨fun h=>⟨hall',h⟩,fun h=>h.2⟩,(hT hall').mono fun f hf k hk=> ?_⟩;obtain⟨k,rfl⟩:∃j,k=j+1:=⟨k-1,by omega⟩
  unfold Aj5;rw[dF_ (by simp;omega)];exact hf
 |r+1,i,hi,hall=>by
  have hio:i<y.Owner.length:=by omega
  have hic:i<y.Choices.length:=by omega
  have hgc:=List.getElem?_eq_getElem hic;have hgo:=List.getElem?_eq_getElem hio;have hrz:=hz _ (ae_ hic);have hdiff:decide ((((y.Choices[i]).map A1).length:Int)<1)=decide (y.Choices[i].length<1):=by rw[length_map];exact decide_eq_decide.2 (by omega)
  have hdiff2:decide ((((y.Choices[i]).map A1).length:Int)>4)=decide (4<y.Choices[i].length):=by rw[length_map];exact decide_eq_decide.2 (by omega)
  let g:Bool:= !(decide (y.Owner[i]=0\/y.Owner[i]=1)&&(!decide (y.Choices[i].length<1)&& !decide (4<y.Choices[i].length)))
  have step:∀f k,r+1<k->∃j,k=j+1/\Aj5 f y k (i:Int)=bif g then some false else Af7 f y (i:Int) (Aj5 f y j) f 0:=fun f k hk=>by
   obtain⟨k,rfl⟩:∃j,k=j+1:=⟨k-1,by omega⟩
   refine⟨k,rfl,?_⟩
   conv=>lhs;unfold Aj5
   rw[dT_ (by simp;omega)];simp only[cond_true];rw[C3 hio,C3 hic];simp only[sb];rw[hdiff,hdiff2];refine sbe (x:=g) ?_ rfl;show _=some (!(decide (y.Owner[i]=0\/y.Owner[i]=1)&&(!decide (y.Choices[i].length<1)&& !decide (4<y.Choices[i].length))));by_cases h0:y.Owner[i]=0
   .rw[h0,show((0:Int) !=0)=false from rfl,dT_ (Or.inl rfl)];simp only[cond_false,Bool.true_and];cases decide (y.Choices[i].length<1)<;>cases decide (4<y.Choices[i].length)<;>rfl
   .rw[show(y.Owner[i] !=0)=true from bne_iff_ne.2 h0];simp only[cond_true];by_cases h1:y.Owner[i]=1
    .rw[h1,show((1:Int) !=1)=false from rfl,dT_ (Or.inr rfl)];simp only[cond_false,Bool.true_and];cases decide (y.Choices[i].length<1)<;>cases decide (4<y.Choices[i].length)<;>rfl
    .rw[show(y.Owner[i] !=1)=true from bne_iff_ne.2 h1,dF_ (show¬(y.Owner[i]=0\/y.Owner[i]=1) from fun h=>h.elim h0 h1)];rfl
  cases hgv:g with
  |true=>
   refine⟨false,⟨fun h=>(by cases h),fun⟨h,_⟩=> ?_⟩,Ev.of fun f k hk=> ?_⟩
   .obtain⟨⟨o,e1,e2⟩,row,e3,e4,e5,_⟩:=h i hio;rw[hgo]at e1;cases e1;rw[hgc]at e3;cases e3;have hgf:g=false:=by
     show(!(decide (y.Owner[i]=0\/y.Owner[i]=1)&&(!decide (y.Choices[i].length<1)&& !decide (4<y.Choices[i].length))))=false;rw[dT_ e2,dF_ (by omega),dF_ (by omega)];rfl
    rw[hgf]at hgv;cases hgv
   .obtain⟨j,_,e⟩:=step f k hk;rw[e,hgv];rfl
  |false=>
   have hg':(y.Owner[i]=0\/y.Owner[i]=1)/\¬y.Choices[i].length<1/\¬4<y.Choices[i].length:=by
    have h:(!(decide (y.Owner[i]=0\/y.Owner[i]=1)&&(!decide (y.Choices[i].length<1)&& !decide (4<y.Choices[i].length))))=false:=hgv;simp only[Bool.not_eq_false',Bool.and_eq_true,decide_eq_true_eq,Bool.not_eq_true',decide_eq_false_iff_not]at h;exact h
   rcases Cu7 hgc (by omega) h12 hrz.2 y.Choices[i] 0 rfl with⟨h1,h3⟩|⟨h1,h3⟩
   .obtain⟨b,hb,hE⟩:=Cu6 h12 hlen hz hT r (i+1) (by omega) fun s hs=>by
     rcases Nat.lt_or_eq_of_le (Nat.le_of_lt_succ hs) with h|rfl
     .exact hall s h
     .exact⟨⟨_,hgo,hg'.1⟩,_,hgc,by omega,by omega,h1⟩
    refine⟨b,hb,((h3.and hE).and (Ev.ge 20)).mono fun f hf k hk=> ?_⟩;obtain⟨j,ej,e⟩:=step f k hk;rw[e,hgv];simp only[cond_false];rw[show(0:Int)=((0:Nat):Int) from rfl,hf.1.1 f _ (by have:=hf.2;omega),wi i (by omega)];exact hf.1.2 j (by omega)
   .refine⟨false,⟨fun h=>(by cases h),fun⟨h,_⟩=> ?_⟩,(h3.and (Ev.ge 20)).mono fun f hf k hk=> ?_⟩
    .obtain⟨_,row,e3,_,_,e6⟩:=h i hio;rw[hgc]at e3;cases e3;exact(h1 e6).elim
    .obtain⟨j,ej,e⟩:=step f k hk;rw[e,hgv];simp only[cond_false];rw[show(0:Int)=((0:Nat):Int) from rfl];exact hf.1 f _ (by have:=hf.2;omega)
end
end
section
theorem Ct5{n:Nat}{row:List A2}(h:Eh3 n row):eL (row.map unC)=row/\∀c∈row.map unC,Eh1 n c:=by
 obtain⟨l0,rfl,h2⟩:=h;have e:(eL l0).map unC=l0:=by
  unfold eL;rw[List.map_map,show unC∘eC=id from funext Et1,bv_]
 rw[e];exact⟨rfl,h2⟩
theorem Dv6{y:A9}(hlen:y.Choices.length=y.Owner.length)(hall:∀s,s<y.Owner.length->Ca7 y s):y=eM (unM y):=by
 have hc:(y.Choices.map (·.map unC)).map eL=y.Choices:=by
  refine ext_getElem (by simp) fun s h1 h2=> ?_
  obtain⟨_,row,e3,_,_,e6⟩:=hall s (by omega);rw[List.getElem?_eq_getElem h2]at e3;cases e3;simp only[List.getElem_map];exact(Ct5 e6).1
 show y=⟨y.Owner,(y.Choices.map (·.map unC)).map eL⟩;rw[hc]
theorem Cv0{y:A9}(h12:y.Owner.length<=12)(hlen:y.Choices.length=y.Owner.length)(hall:∀s,s<y.Owner.length->Ca7 y s):Ge2 (unM y)/\∀o∈(unM y).own,o=0\/o=1:=by
 have hrow:∀l∈(unM y).ch,∃row,Ca7 y row/\(∃r,y.Choices[row]? =some r/\l=r.map unC):=fun l hl=>by
  obtain⟨r,hr,rfl⟩:=at_.1 hl;obtain⟨s,hs,rfl⟩:=List.mem_iff_getElem.1 hr;exact⟨s,hall s (by omega),_,List.getElem?_eq_getElem hs,rfl⟩
 refine⟨⟨h12,by show(y.Choices.map _).length=y.Owner.length;rw[length_map];exact hlen,fun l hl=> ?_,fun l hl c hc=> ?_⟩,fun o ho=> ?_⟩
 .obtain⟨s,⟨_,row,e3,e4,e5,_⟩,r,hr,rfl⟩:=hrow l hl;rw[hr]at e3;cases e3;rw[length_map];exact⟨e4,e5⟩
 .obtain⟨s,⟨_,row,e3,_,_,e6⟩,r,hr,rfl⟩:=hrow l hl;rw[hr]at e3;cases e3;exact(Ct5 e6).2 c hc
 .obtain⟨s,hs,rfl⟩:=List.mem_iff_getElem.1 ho;obtain⟨⟨o,e1,e2⟩,_⟩:=hall s hs;rw[List.getElem?_eq_getElem (show s<y.Owner.length from hs)]at e1;cases e1;exact e2
def tbB(m:Mdl):Bool:=(Ae8 1 (Cc8 m)).isSome&&(Ae8 1 (Cj1 m)).isSome
theorem lcm_pos{l:List Rat}:decide ((((Ae8 1 l).getD 0:Nat):Int)>0)=(Ae8 1 l).isSome:=by
 cases h:Ae8 1 l with
 |none=>rfl
 |some w=>
  have:=(Ak8 h (by decide) (by decide)).1;show decide (((w:Nat):Int)>0)=true;exact dT_ (by omega)
theorem Fg0{m:Mdl}(h1:1<=m.own.length)(h:Ge2 m)(ho:∀o∈m.own,o=0\/o=1)(ht:tbB m=true):okM m:=by
 unfold tbB at ht;rw[Bool.and_eq_true]at ht;have hch:∀c∈m.ch.flatten,Eh1 m.own.length c:=fun c hc=>by
  obtain⟨l,hl,hc⟩:=bj_.1 hc;exact h.ch l hl c hc
 exact⟨h1,h.n12,h.len,h.cl,ho,fun c hc=>(hch c hc).1,fun c hc=>(hch c hc).2.1,fun c hc=>(hch c hc).2.2,ht.2,ht.1⟩
theorem Eh2{m:Mdl}(h:okM m):∀s,s<(eM m).Owner.length->Ca7 (eM m) s:=fun s hs=>by
 have hs':s<m.own.length:=hs;have hl:s<m.ch.length:=by rw[h.len];exact hs'
 have hm:=ae_ hl;refine⟨⟨m.own[s],List.getElem?_eq_getElem hs',h.ow _ (ae_ hs')⟩,eL m.ch[s],?_,?_,?_,m.ch[s],rfl,fun c hc=> ?_⟩
 .show(m.ch.map eL)[s]? =_;rw[List.getElem?_map,List.getElem?_eq_getElem hl];rfl
 .unfold eL;rw[length_map];exact(h.cl _ hm).1
 .unfold eL;rw[length_map];exact(h.cl _ hm).2
 .have hf:=bj_.2 ⟨_,hm,hc⟩;exact⟨h.ac c hf,h.ga c hf,h.br c hf⟩
theorem Cu8{y:A9}(hz:szZ y):((∃m,okM m/\y=eM m)/\Ev fun f=>F62 f y=some true)\/((¬∃m,okM m/\y=eM m)/\Ev fun f=>F62 f y=some false):=by
 by_cases hg:y.Owner.length<1\/12<y.Owner.length\/y.Choices.length≠y.Owner.length
 .refine .inr ⟨fun⟨m,h,e⟩=> ?_,Ev.of fun f=> ?_⟩
  .have h1:=h.n1;have h12:=h.n12;have hl:=h.len;rw[e]at hg;have e1:(eM m).Owner.length=m.own.length:=rfl;have e2:(eM m).Choices.length=m.ch.length:=by show(m.ch.map eL).length=_;rw[length_map]
   omega
  .unfold F62;refine sbe (x:=true) ?_ rfl;rw[length_map,length_map];by_cases h1:(y.Owner.length:Int)<1
   .rw[dT_ h1];rfl
   .rw[dF_ h1];simp only[cond_false];by_cases h2:(y.Owner.length:Int)>12
    .rw[dT_ h2];rfl
    .rw[dF_ h2];simp only[cond_false];rw[bne_iff_ne.2 (show(y.Choices.length:Int)≠(y.Owner.length:Int) by omega)]
 .have h1:1<=y.Owner.length:=by omega
  have h12:y.Owner.length<=12:=by omega
  have hlen:y.Choices.length=y.Owner.length:=by omega
  obtain⟨b,hb,hE⟩:=Cu6 (tb:=tbB (unM y)) h12 hlen hz (fun hall=>by
   have e:=Dv6 hlen hall;refine(Bx7 (Cv0 h12 hlen hall).1).mono fun f hf=> ?_
   rw[<-e]at hf;rw[hf,sb];simp only;rw[lcm_pos,lcm_pos];unfold tbB;cases (Ae8 1 (Cc8 (unM y))).isSome<;>rfl) y.Owner.length 0 (by omega) fun s hs=>absurd hs (by omega)
  have hF:Ev fun f=>F62 f y=some b:=(hE.and (Ev.ge 20)).mono fun f hf=>by
   unfold F62;rw[length_map,length_map,dF_ (show¬(y.Owner.length:Int)<1 by omega),dF_ (show¬(y.Owner.length:Int)>12 by omega),hlen];simp only[cond_false,bne_self_eq_false,sb];exact hf.1 f (by have:=hf.2;omega)
  have hiff:b=true↔∃m,okM m/\y=eM m:=by
   rw[hb];constructor
   .rintro ⟨hall,ht⟩
    obtain⟨a1,a2⟩:=Cv0 h12 hlen hall;exact⟨unM y,Fg0 h1 a1 a2 ht,Dv6 hlen hall⟩
   .rintro ⟨m,h,e⟩
    rw[e];refine⟨Eh2 h,?_⟩;rw[Fz6];unfold tbB;rw[h.gp,h.gg];rfl
  cases hbv:b with
  |true=>subst hbv;exact .inl ⟨hiff.1 rfl,hF⟩
  |false=>subst hbv;exact .inr ⟨fun h=>(by have:=hiff.2 h;cases this),hF⟩
end
section
def ov(D:Nat)(a:Int):Rat:=Rat.divInt a (D:Int)
theorem Er7{D:Nat}(hD:0<D){a b:Int}(h:ov D a=ov D b):a=b:=by
 unfold ov at h;have:=(Rat.divInt_eq_divInt_iff (by omega) (by omega)).1 h;exact Int.eq_of_mul_eq_mul_right (by omega) this
theorem Dt9{D:Nat}(hD:0<D)(a b:Int):ov D a+ov D b=ov D (a+b):=by
 unfold ov;rw[Rat.divInt_add_divInt _ _ (by omega) (by omega),Rat.divInt_eq_divInt_iff (Int.mul_ne_zero (by omega) (by omega)) (by omega),<-Int.add_mul];rw[Int.mul_assoc]
theorem Er8{D:Nat}(hD:0<D){a b:Int}(h:a<b):ov D a<ov D b:=by
 have h1:0<ov D (b-a):=Cq6 (by omega) (by omega);have h2:=Dt9 hD a (b-a);rw[show a+(b-a)=b by omega]at h2;rw[<-h2];grind
theorem Eh4{D:Nat}(hD:0<D){a b:Int}:ov D a<ov D b↔a<b:=by
 refine⟨fun h=> ?_,Er8 hD⟩;rcases bg_ a b with h1|rfl|h1
 .exact h1
 .exact absurd h (by grind)
 .have:=Er8 hD h1;exact absurd h (by grind)
theorem Er9{D E:Nat}(a b:Int):ov D a*ov E b=ov (D*E) (a*b):=by
 unfold ov;rw[Rat.divInt_mul_divInt];push_cast;rfl
theorem Gl8(D:Nat):ov D 0=0:=by unfold ov;rw[Rat.zero_divInt]
theorem Gs2{D:Nat}(hD:0<D):ov D (D:Int)=1:=by
 unfold ov;rw[Rat.divInt_self' (by omega)]
theorem Fg1{D B:Nat}{a:Int}(h:fr D B (ov D a)):a.natAbs<=B*D:=by
 obtain⟨hD,b,e,hb⟩:=h;rw[Er7 hD e];exact hb
theorem Gk8{D B:Nat}{x:Rat}(h:fr D B x):∃a,x=ov D a:=by
 obtain⟨_,a,e,_⟩:=h;exact⟨a,e⟩
theorem Eg5{a:Int}{N L:Nat}(h:a.natAbs<=N)(hN:N<10^L):lt a<=L:=Ac3 (by
 have:((N:Nat):Int)<((10^L:Nat):Int):=by exact_mod_cast hN
 push_cast at this;omega)
theorem Fj4{g B:Nat}{p:Rat}{a:Int}(hp:fr g B p)(e:p=ov g a)(hr:rs p)(hg:lt (g:Int)<=1000000):Ev fun f=>F74 f (T p) (tx (g:Int))=some (tx a):=by
 refine Ev.from_ 2000000011 fun f hf=> ?_
 have hd:=Fu9 hp;have hp0:=p.den_pos;have hdI:((p.den:Nat):Int)∣(g:Int):=Int.natCast_dvd_natCast.2 hd;obtain⟨k,hk⟩:=hd;have hk0:0<k:=by
  rcases c5_ k with h|h
  .subst h;have:=hp.1;omega
  .exact h
 have hq:(g:Int)/(p.den:Int)=(k:Int):=by
  rw[hk];push_cast;exact bl_ _ (by omega)
 have ha:p.num*(k:Int)=a:=by
  refine Er7 hp.1 (Eq.trans ?_ e);unfold ov;rw[hk];push_cast;rw[cw_ (by omega),Rat.num_divInt_den]
 have hlk:lt (k:Int)<=lt (g:Int):=Bb1 (by
  rw[a5_,a5_,hk];exact bu_ _ hp0)
 have h1:=hr.1;have h2:=hr.2;unfold F74;rw[At1 hr (by decide) (by omega),sb];dsimp only;rw[Gj7 (by omega) hdI (by omega) (by omega) (by omega),sb,hq];dsimp only;rw[Eg8 (by omega) (by omega) (by omega),sb,ha]
def szI(g D B:Nat):Prop:=0<g/\g<=9999/\0<D/\∃p q,D<=10^p/\B<=10^q/\p+q<=400
theorem Eg4{a:Int}{N p L:Nat}(h:a.natAbs<=N)(hN:N<=10^p)(hp:p<L):lt a<=L:=Eg5 h (bz_ hN (Nat.pow_lt_pow_right (by decide) hp))
theorem Dx5{g D B i:Nat}{a:Int}(h:szI g D B)(hi:i<=12)(ha:fr (g*D) (B*i) (ov (g*D) a)):lt a<=1000:=by
 obtain⟨_,g9,_,p,q,hp,hq,hpq⟩:=h;have h2:B*i*(g*D)<=10^q*10^2*(10^4*10^p):=bh_ (bh_ hq (ah_ hi (by decide))) (bh_ (ah_ g9 (by decide)) hp);rw[<-cq_,<-cq_,<-cq_]at h2;exact Eg4 (Fg1 ha) h2 (by omega)
theorem Dx6{g D B:Nat}{a:Int}(h:szI g D B)(ha:fr D B (ov D a)):lt a<=1000:=by
 obtain⟨_,g9,_,p,q,hp,hq,hpq⟩:=h;have h2:B*D<=10^q*10^p:=bh_ hq hp;rw[<-cq_]at h2;exact Eg4 (Fg1 ha) h2 (by omega)
theorem Dx7{g D B:Nat}(h:szI g D B):lt (D:Int)<=1000:=by
 obtain⟨_,g9,_,p,q,hp,hq,hpq⟩:=h;exact Eg4 (Nat.le_of_eq (a5_ D)) hp (by omega)
theorem lt9{a:Int}(h:a.natAbs<=9999):lt a<=5:=Eg4 h (show 9999<=10^4 by decide) (by decide)
theorem Fi7{g D B:Nat}(h:szI g D B):szs g D B:=by
 obtain⟨g0,g9,hD,p,q,hp,hq,hpq⟩:=h;refine⟨g0,hD,4+p,q+2,?_,?_,by omega⟩
 .rw[cq_];exact bh_ (ah_ g9 (by decide)) hp
 .rw[cq_];have:0<10^q:=cr_ (by decide);have e:(10:Nat)^2=100:=by decide
  rw[e];omega
end
section
abbrev ovL(D:Nat)(us:List Int):List Rat:=us.map (ov D)
theorem Fx1{D:Nat}{us:List Int}{i:Nat}(h:i<us.length):(ovL D us).getD i 0=ov D us[i]:=by
 rw[getD_eq_getElem?_getD,List.getElem?_map,List.getElem?_eq_getElem h];rfl
section
variable {g D B:Nat} {us:List Int}
theorem Eq8{c:Cho}(hc:okN g us.length c)(hv:∀x∈ovL D us,fr D B x)(hs:szI g D B):
 ∀(l:List (Int×Rat)) (i:Nat) (X:Int),c.next.drop i=l->fr (g*D) (B*i) (ov (g*D) X)->
  ∃N,Ff1 (ovL D us) l (ov (g*D) X)=ov (g*D) N/\Ev fun f=>∀k,l.length<k->Bh6 f (eC c) (us.map tx) (tx (g:Int)) k (tx X) (i:Int)=some (tx N)
 |[],i,X,hd,hx=>⟨X,rfl,Ev.of fun f k hk=>by
  obtain⟨k,rfl⟩:∃j,k=j+1:=⟨k-1,by simp at hk;omega⟩
  have:=drop_nil hd;unfold Bh6;rw[dF_ (by simp[eC];omega)];rfl⟩
 |b::l,i,X,hd,hx=>by
  obtain⟨hi,hb,hd'⟩:=K3 hd;obtain⟨c1,c2⟩:=hc;obtain⟨p1,p2,p3⟩:=c2 b (by rw[<-hb];exact ae_ hi);obtain⟨a,ea⟩:=Gk8 p1;have hgD:0<g*D:=bp_ hs.1 hs.2.2.1;have hmem:ov D us[b.1.toNat]∈ovL D us:=be_ (ae_ p3);have hw:=hv _ hmem;have hm:fr (g*D) (B*1) (ov (g*D) (a*us[b.1.toNat])):=by
   have:=Dp0 p1 hw;rw[bm_,ea,Er9]at this
   rwa [ce_]
  have hadd:fr (g*D) (B*(i+1)) (ov (g*D) (X+a*us[b.1.toNat])):=by
   have:=Cr5 hx hm
   rwa [<-Nat.mul_add,Dt9 hgD]at this
  obtain⟨N,eN,hN⟩:=Eq8 ⟨c1,c2⟩ hv hs l (i+1) _ hd' hadd;have hg4:lt (g:Int)<=5:=lt9 (by rw[a5_];exact hs.2.1);have h1:=Dx6 hs hw;have h2:=Dx5 hs (i:=i) (by omega) hx;have h3:=Dx5 hs (i:=1) (by omega) hm;have h5:lt a<=5:=by
   have:=p1;rw[ea]at this;have:=Fg1 this;exact lt9 (by have:=hs.2.1;omega)
  refine⟨N,?_,((Fj4 p1 ea ((@Cb8 _ _ _ (Fi7 hs) b.2).2.1 p1) (by omega)).and (hN.and (Ev.ge 2000000011))).mono fun f hh k hk=> ?_⟩
  .rw[Ff1,Fx1 p3,ea,Er9,Dt9 hgD];exact eN
  .obtain⟨t1,t2,t3⟩:=hh;obtain⟨k,rfl⟩:∃j,k=j+1:=⟨k-1,by simp at hk;omega⟩
   unfold Bh6;rw[dT_ (by simp[eC];omega)];simp only[cond_true];have hg:C2 (eC c).Next (i:Int)=some (eB b):=by rw[show(eC c).Next=c.next.map eB from rfl,E0 hi,hb]
   have hgt:C2 (us.map tx) (eB b).To=some (tx us[b.1.toNat]):=by
    rw[show(eB b).To=((b.1.toNat:Nat):Int) by show b.1=_;omega,E0 p3]
   refine sbe hg (sbe t1 (sbe hg (sbe hgt (sbe (Eg8 (by omega) (by omega) (by omega)) (sbe (Gc7 (by omega) (by omega) (by omega)) ?_)))));rw[wi i (by have:=c1;omega)];exact t2 k (by simp at hk;omega)
theorem Ff0{c:Cho}(hc:okN g us.length c)(hv:∀x∈ovL D us,fr D B x)(hs:szI g D B):∃N,mix (ovL D us) c=ov (g*D) N/\Ev fun f=>F75 f (eC c) (us.map tx) (tx (g:Int))=some (tx N):=by
 obtain⟨N,h1,h2⟩:=Eq8 hc hv hs c.next 0 0 rfl (by rw[Gl8];exact Ba0 (bp_ hs.1 hs.2.2.1));rw[Gl8]at h1;refine⟨N,h1,(h2.and (Ev.ge 13)).mono fun f h=> ?_⟩;unfold F75;have:=h.1 f (by have:=hc.1;have:=h.2;omega);rw[show tx 0=[48] from rfl]at this;exact this
end
theorem Ck4{own:Int}{E:Nat}(hE:0<E){us:List Int}(hl:us.length<=1000)(hb:∀u∈us,lt u<=10000):
 ∀(r i j:Nat),i+r=us.length->(hj:j<us.length)->∃k,∃hk:k<us.length,Ea3 own ((ovL E us).drop i) i j (ov E us[j])=(ov E us[k],k)/\Ev fun f=>∀q,r<q->Ab5 f own (us.map tx) q (j:Int) (i:Int)=some (tx us[k],(k:Int))
 |0,i,j,hi,hj=>⟨j,hj,by rw[af_ (by simp;omega)];rfl,Ev.of fun f q hq=>by
  obtain⟨q,rfl⟩:∃j,q=j+1:=⟨q-1,by omega⟩
  unfold Ab5;rw[dF_ (by simp;omega)];simp only[cond_false];exact sbe (E0 hj) rfl⟩
 |r+1,i,j,hi,hj=>by
  have hil:i<us.length:=by omega
  have hcmp:∀f,2000000010<f->F72 f (tx us[i]) (tx us[j])=some (N9 us[i] us[j]):=fun f hf=>Fx7 (by have:=hb _ (ae_ hil);omega) (by have:=hb _ (ae_ hj);omega) hf
  have hc:(bif own==0 then(bif decide (N9 us[i] us[j]>0) then some true else bif own==1 then some (decide (N9 us[i] us[j]<0)) else some false) else bif own==1 then some (decide (N9 us[i] us[j]<0)) else some false)=some (decide (own=0/\us[j]<us[i]\/own=1/\us[i]<us[j])):=by
   have h1:(decide (N9 us[i] us[j]>0))=decide (us[j]<us[i]):=by
    unfold N9;by_cases h:us[i]<us[j]
    .rw[if_pos h,dF_ (by omega),dF_ (by omega)]
    .rw[if_neg h];by_cases h2:us[j]<us[i]
     .rw[if_pos h2,dT_ (by omega),dT_ h2]
     .rw[if_neg h2,dF_ (by omega),dF_ h2]
   have h2:(decide (N9 us[i] us[j]<0))=decide (us[i]<us[j]):=by
    unfold N9;by_cases h:us[i]<us[j]
    .rw[if_pos h,dT_ (by omega),dT_ h]
    .rw[if_neg h,dF_ h];by_cases h2:us[j]<us[i]
     .rw[if_pos h2];rfl
     .rw[if_neg h2];rfl
   rw[h1,h2];by_cases o0:own=0
   .subst o0;by_cases h:us[j]<us[i]<;>simp[h]
   .by_cases o1:own=1
    .subst o1;by_cases h:us[i]<us[j]<;>simp[h]
    .rw[beq_false_of_ne o0,beq_false_of_ne o1];simp[o0,o1]
  have step:∀f q,2000000010<f->Ab5 f own (us.map tx) (q+1) (j:Int) (i:Int)=bif decide (own=0/\us[j]<us[i]\/own=1/\us[i]<us[j]) then Ab5 f own (us.map tx) q (i:Int) ((i+1:Nat):Int) else Ab5 f own (us.map tx) q (j:Int) ((i+1:Nat):Int):=fun f q hf=>by
   conv=>lhs;unfold Ab5
   rw[dT_ (by simp;omega)];simp only[cond_true];refine sbe (E0 hil) (sbe (E0 hj) (sbe (hcmp f hf) (sbe hc ?_)));unfold Bt4;rw[wi i (by omega)]
  have hdr:(ovL E us).drop i=ov E us[i]::(ovL E us).drop (i+1):=by
   rw[ag_ (by simp;omega),List.getElem_map]
  rw[hdr,Ea3];by_cases hx:own=0/\us[j]<us[i]\/own=1/\us[i]<us[j]
  .obtain⟨k,hk,e1,e2⟩:=Ck4 hE hl hb r (i+1) i (by omega) hil;refine⟨k,hk,?_,(e2.and (Ev.ge 2000000011)).mono fun f hh q hq=> ?_⟩
   .rw[if_pos (by rw[Eh4 hE,Eh4 hE];exact hx)];exact e1
   .obtain⟨q,rfl⟩:∃j,q=j+1:=⟨q-1,by omega⟩
    rw[step f q (by omega),dT_ hx];exact hh.1 q (by omega)
  .obtain⟨k,hk,e1,e2⟩:=Ck4 hE hl hb r (i+1) j (by omega) hj;refine⟨k,hk,?_,(e2.and (Ev.ge 2000000011)).mono fun f hh q hq=> ?_⟩
   .rw[if_neg (by rw[Eh4 hE,Eh4 hE];exact hx)];exact e1
   .obtain⟨q,rfl⟩:∃j,q=j+1:=⟨q-1,by omega⟩
    rw[step f q (by omega),dF_ hx];exact hh.1 q (by omega)
theorem Eh5{own:Int}{E:Nat}(hE:0<E){us:List Int}(hl:us.length<=1000)(h0:us≠[])(hb:∀u∈us,lt u<=10000):∃k,∃hk:k<us.length,bst own (ovL E us)=(ov E us[k],k)/\Ev fun f=>F76 f own (us.map tx)=some (tx us[k],(k:Int)):=by
 have h1:0<us.length:=aq_.2 h0;obtain⟨k,hk,e1,e2⟩:=Ck4 (own:=own) hE hl hb (us.length-1) 1 0 (by omega) h1;refine⟨k,hk,?_,(e2.and (Ev.ge 2000)).mono fun f hh=> ?_⟩
 .cases us with
  |nil=>exact absurd rfl h0
  |cons u us=>exact e1
 .unfold F76;exact hh.1 f (by omega)
theorem Fv5{x i:Nat}(hx:x<18446744073709551616)(hi:i<64):F36 (x:Int) (i:Int)=some (x.testBit i):=by
 unfold F36;rw[D0 (dT_ (by omega)),Dk5 hx hi];cases x.testBit i<;>rfl
theorem Dr6{α:Type}{p:α->Int->Prop}{q:α->Int->Nat->Prop}:∀(l:List α),(∀x∈l,∃n,p x n/\Ev (q x n))->∃ns:List Int,ns.length=l.length/\(∀(i:Nat) (h:i<l.length) (h2:i<ns.length),p l[i] ns[i])/\Ev fun f=>∀(i:Nat) (h:i<l.length) (h2:i<ns.length),q l[i] ns[i] f
 |[],_=>⟨[],rfl,fun i h=>absurd h (by simp),Ev.of fun f i h=>absurd h (by simp)⟩
 |x::l,h=>by
  obtain⟨n,p1,q1⟩:=h x aa_;obtain⟨ns,e,p2,q2⟩:=Dr6 l fun y hy=>h y (mem_cons_of_mem _ hy)
  refine⟨n::ns,by simp[e],fun i h h2=> ?_,(q1.and q2).mono fun f hh i h h2=> ?_⟩
  .cases i with
   |zero=>exact p1
   |succ i=>exact p2 i (by simpa using h) (by simpa using h2)
  .cases i with
   |zero=>exact hh.1
   |succ i=>exact hh.2 i (by simpa using h) (by simpa using h2)
end
section
section
variable {m:Mdl} {g D B tg:Nat} {us:List Int}
theorem nx3{f:Nat}{row:List Cho}{Ns:List Int}{V:List (List UInt8)}{G:List UInt8}{s:Nat}{C:List Int}{O:List (List UInt8)}{cL:Int->List Int->List (List UInt8)->Option (List (List UInt8)×List Int)}(hN:Ns.length=row.length)(hr:row.length<=1000)
 (hq:∀(i:Nat) (h:i<row.length) (h2:i<Ns.length),F75 f (eC row[i]) V G=some (tx Ns[i])) (hg:C2 (eM m).Choices (s:Int)=some (eL row)):
 ∀(r i k:Nat),i+r=row.length->r<k->Ax7 f (eM m) V G C O (s:Int) cL k (i:Int) ((Ns.take i).map tx)=(C2 (eM m).Owner (s:Int)).bind fun y89=>Option.bind (F76 f y89 (Ns.map tx)) fun y90=>Option.bind (app O [y90.1]) fun l63=>Option.bind (app C [y90.2]) fun l64=>As3 (s:Int) cL l64 l63
 |0,i,k,hi,hk=>by
  obtain⟨k,rfl⟩:∃j,k=j+1:=⟨k-1,by omega⟩
  unfold Ax7;rw[hg,sb,dF_ (by unfold eL;rw[length_map,length_map];omega),an_ (by omega)];rfl
 |r+1,i,k,hi,hk=>by
  obtain⟨k,rfl⟩:∃j,k=j+1:=⟨k-1,by omega⟩
  have hil:i<row.length:=by omega
  have hin:i<Ns.length:=by omega
  unfold Ax7;rw[hg,sb,dT_ (by unfold eL;rw[length_map,length_map];omega)];simp only[cond_true];rw[sb,show C2 (eL row) (i:Int)=some (eC row[i]) from E0 hil,sb,hq i hil hin,sb,M3 (by simp;omega),sb,wi i (by omega)];have:=nx3 (C:=C) (O:=O) (cL:=cL) hN hr hq hg r (i+1) k (by omega) (by omega)
  rwa [take_add_one,List.getElem?_eq_getElem hin,Option.toList_some,List.map_append]at this
theorem Gl4(hm:okS g m)(h4:∀l∈m.ch,l.length<=4)(hl:us.length=m.ch.length)(hv:∀x∈ovL D us,fr D B x)(hs:szI g D B)(ht:tg<18446744073709551616){s:Nat}(his:s<m.own.length):
 ∃(a:Int) (kk:Nat),stp m tg (ovL D us) s=(ov (g*D) a,kk)/\Ev fun f=>∀(k:Nat) (C:List Int) (O:List (List UInt8)),C.length<=1000->O.length<=1000->
  R6 f (eM m) (tg:Int) (us.map tx) (tx (g:Int)) (tx ((g*D:Nat):Int)) (k+1) (s:Int) C O=R6 f (eM m) (tg:Int) (us.map tx) (tx (g:Int)) (tx ((g*D:Nat):Int)) k ((s+1:Nat):Int) (C++[(kk:Int)]) (O++[tx a]):=by
 have hlen:=hm.len;have hle:=hm.le;have hgD:0<g*D:=bp_ hs.1 hs.2.2.1;have head:∀f k C O,R6 f (eM m) (tg:Int) (us.map tx) (tx (g:Int)) (tx ((g*D:Nat):Int)) (k+1) (s:Int) C O=bif tg.testBit s then((app O [tx ((g*D:Nat):Int)]).bind fun l56=>Option.bind (app C [0]) fun l57=>As3 (s:Int) (R6 f (eM m) (tg:Int) (us.map tx) (tx (g:Int)) (tx ((g*D:Nat):Int)) k) l57 l56) else Ax7 f (eM m) (us.map tx) (tx (g:Int)) C O (s:Int) (R6 f (eM m) (tg:Int) (us.map tx) (tx (g:Int)) (tx ((g*D:Nat):Int)) k) f 0 []:=fun f k C O=>by
  conv=>lhs;unfold R6
  rw[show(eM m).Owner=m.own from rfl,dT_ (by rw[length_map];omega)];simp only[cond_true];rw[Fv5 ht (by omega),sb]
 cases hb:tg.testBit s with
 |true=>
  refine⟨((g*D:Nat):Int),0,?_,Ev.of fun f k C O hC hO=> ?_⟩
  .unfold stp;rw[if_pos hb,Gs2 hgD]
  .rw[head,hb];simp only[cond_true];rw[M3 (by simp;omega),sb,M3 (by simp;omega),sb];unfold As3;rw[wi s (by omega)];rfl
 |false=>
  have hsc:s<m.ch.length:=by omega
  have eg:m.ch.getD s []=m.ch[s]:=by rw[getD_eq_getElem?_getD,List.getElem?_eq_getElem hsc];rfl
  obtain⟨hne,_,hcs⟩:=hm.cs _ (ae_ hsc);have hrl:=h4 _ (ae_ hsc);obtain⟨Ns,hN,hN1,hN2⟩:=Dr6 (p:=fun c n=>mix (ovL D us) c=ov (g*D) n) (q:=fun c n f=>F75 f (eC c) (us.map tx) (tx (g:Int))=some (tx n)) m.ch[s] fun c hc=>Ff0 (by rw[hl];exact hcs c hc) hv hs
  have hov:ovL (g*D) Ns=m.ch[s].map (mix (ovL D us)):=ext_getElem (by simp[hN]) fun i h1 h2=>by
   rw[List.getElem_map,List.getElem_map];exact(hN1 i (by simpa using h2) (by simpa using h1)).symm
  have hne':Ns≠[]:=fun e=>hne (b5_.1 (by rw[<-hN,e];rfl))
  have hbN:∀u∈Ns,lt u<=10000:=fun u hu=>by
   obtain⟨i,hi,rfl⟩:=List.getElem_of_mem hu;have hi2:i<m.ch[s].length:=by omega
   have hf:=Ct1 (hcs _ (ae_ hi2)) (v:=ovL D us) (by simp[hl]) hv hs.1 hs.2.2.1;rw[hN1 i hi2 hi]at hf;have:=Dx5 hs (i:=12) (ac_ _) hf;omega
  obtain⟨k0,hk0,e1,e2⟩:=Eh5 (own:=m.own.getD s 0) hgD (us:=Ns) (by omega) hne' hbN;refine⟨Ns[k0],k0,?_,((hN2.and e2).and (Ev.ge 20)).mono fun f hh k C O hC hO=> ?_⟩
  .unfold stp;rw[if_neg (by rw[hb];decide),eg,<-hov];exact e1
  .obtain⟨⟨q1,q2⟩,q3⟩:=hh;rw[head,hb];simp only[cond_false];have hgc:C2 (eM m).Choices (s:Int)=some (eL m.ch[s]):=by rw[show(eM m).Choices=m.ch.map eL from rfl];exact E0 hsc
   have h3:=nx3 (C:=C) (O:=O) (cL:=R6 f (eM m) (tg:Int) (us.map tx) (tx (g:Int)) (tx ((g*D:Nat):Int)) k) hN (by omega) q1 hgc m.ch[s].length 0 f (by omega) (by omega);rw[take_zero,map_nil,show((0:Nat):Int)=0 from rfl]at h3;rw[h3,show C2 (eM m).Owner (s:Int)=some (m.own.getD s 0) by
    rw[show(eM m).Owner=m.own from rfl,C3 his,getD_eq_getElem?_getD,List.getElem?_eq_getElem his];rfl,sb,q2,sb,M3 (by simp;omega),sb,M3 (by simp;omega),sb]
   unfold As3;rw[wi s (by omega)]
theorem Er3(hm:okS g m)(h4:∀l∈m.ch,l.length<=4)(hl:us.length=m.ch.length)(hv:∀x∈ovL D us,fr D B x)(hs:szI g D B)(ht:tg<18446744073709551616):
 ∀(r s:Nat) (o:List Int),s+r=m.own.length->o.length=s->ovL (g*D) o=(List.range s).map (fun s=>(stp m tg (ovL D us) s).1)->∃o':List Int,o'.length=m.own.length/\ovL (g*D) o'=nxt m tg (ovL D us)/\Ev fun f=>∀k,r<k->
  R6 f (eM m) (tg:Int) (us.map tx) (tx (g:Int)) (tx ((g*D:Nat):Int)) k (s:Int) ((List.range s).map fun s=>((stp m tg (ovL D us) s).2:Int)) (o.map tx)=some (o'.map tx,cho m tg (ovL D us))
 |0,s,o,hsr,ho,he=>by
  have hlen:=hm.len;refine⟨o,by omega,?_,Ev.of fun f k hk=> ?_⟩
  .rw[he];unfold nxt;rw[show s=m.ch.length by omega]
  .obtain⟨k,rfl⟩:∃j,k=j+1:=⟨k-1,by omega⟩
   unfold R6;rw[show(eM m).Owner=m.own from rfl,dF_ (by rw[length_map];omega)];simp only[cond_false];unfold cho;rw[show s=m.ch.length by omega]
 |r+1,s,o,hsr,ho,he=>by
  have hlen:=hm.len;have hle:=hm.le;obtain⟨a,kk,e1,e2⟩:=Gl4 hm h4 hl hv hs ht (s:=s) (by omega);obtain⟨o',h1,h2,h3⟩:=Er3 hm h4 hl hv hs ht r (s+1) (o++[a]) (by omega) (by simp[ho]) (by
   rw[List.range_succ,List.map_append,<-he];simp[e1])
  refine⟨o',h1,h2,(e2.and h3).mono fun f hh k hk=> ?_⟩;obtain⟨k,rfl⟩:∃j,k=j+1:=⟨k-1,by omega⟩
  rw[hh.1 k _ _ (by simp;omega) (by simp;omega)];have:=hh.2 k (by omega);rw[List.range_succ,List.map_append,List.map_append]at this;simpa[e1] using this
theorem Fw6(hm:okS g m)(h4:∀l∈m.ch,l.length<=4)(hl:us.length=m.ch.length)(hv:∀x∈ovL D us,fr D B x)(hs:szI g D B)(ht:tg<18446744073709551616):∃o':List Int,o'.length=m.own.length/\ovL (g*D) o'=nxt m tg (ovL D us)/\Ev fun f=>F67 f (eM m) (tg:Int) (us.map tx) (tx (g:Int)) (tx ((g*D:Nat):Int))=some (o'.map tx,cho m tg (ovL D us)):=by
 have hlen:=hm.len;have hle:=hm.le;obtain⟨o',h1,h2,h3⟩:=Er3 (us:=us) hm h4 hl hv hs ht m.own.length 0 [] (by omega) rfl rfl;refine⟨o',h1,h2,(h3.and (Ev.ge 20)).mono fun f hh=> ?_⟩;unfold F67;exact hh.1 f (by omega)
end
section
variable {m:Mdl} {tg:Nat}
def Ba1(tg s:Nat):Int:=if tg.testBit s then 1 else 0
theorem Bw8(h12:m.own.length<=12)(ht:tg<18446744073709551616):∀(r s k:Nat),s+r=m.own.length->r<k->As1 (eM m) (tg:Int) k (s:Int) (((List.range s).map (Ba1 tg)).map tx)=some (((List.range m.own.length).map (Ba1 tg)).map tx)
 |0,s,k,hs,hk=>by
  obtain⟨k,rfl⟩:∃j,k=j+1:=⟨k-1,by omega⟩
  unfold As1;rw[show(eM m).Owner=m.own from rfl,dF_ (by rw[length_map];omega),show s=m.own.length by omega];rfl
 |r+1,s,k,hs,hk=>by
  obtain⟨k,rfl⟩:∃j,k=j+1:=⟨k-1,by omega⟩
  have ih:=Bw8 h12 ht r (s+1) k (by omega) (by omega);rw[List.range_succ,List.map_append,List.map_append]at ih;unfold As1;rw[show(eM m).Owner=m.own from rfl,dT_ (by rw[length_map];omega)];simp only[cond_true];rw[Fv5 ht (by omega),sb];unfold Bt3;rw[wi s (by omega)];cases hb:tg.testBit s with
  |true=>
   simp only[cond_true];rw[M3 (by simp;omega),sb];rw[show[s].map (Ba1 tg)=[1] by simp[Ba1,hb],show[(1:Int)].map tx=[[49]] by rw[List.map_singleton,tx1]]at ih;exact ih
  |false=>
   simp only[cond_false];rw[M3 (by simp;omega),sb];rw[show[s].map (Ba1 tg)=[0] by simp[Ba1,hb],show[(0:Int)].map tx=[[48]] from rfl]at ih;exact ih
theorem Fd6(h12:m.own.length<=12)(ht:tg<18446744073709551616){f:Nat}(hf:13<=f):F65 f (eM m) (tg:Int)=some (((List.range m.own.length).map (Ba1 tg)).map tx):=by
 unfold F65;exact Bw8 h12 ht m.own.length 0 f (by omega) (by omega)
theorem Dp2:ovL 1 ((List.range m.own.length).map (Ba1 tg))=bgn m tg:=by
 unfold ovL bgn;rw[List.map_map];refine b6_ fun s _=> ?_
 show ov 1 (Ba1 tg s)=_;unfold Ba1;by_cases h:tg.testBit s
 .rw[if_pos h,if_pos h];exact Gs2 (D:=1) (by decide)
 .rw[if_neg h,if_neg h];exact Gl8 1
theorem Ct8{us:List Int}{D:Nat}(hD:0<D)(hl:us.length<=1000)(hb:∀u∈us,lt u<=10000)(hd:lt (D:Int)<=10000){f:Nat}(hf:2000000010+D<f):∀(r i k:Nat),i+r=us.length->r<k->Bh3 f (us.map tx) (tx (D:Int)) k (i:Int) (((ovL D us).take i).map T)=some ((ovL D us).map T)
 |0,i,k,hi,hk=>by
  obtain⟨k,rfl⟩:∃j,k=j+1:=⟨k-1,by omega⟩
  unfold Bh3;rw[dF_ (by simp;omega),an_ (by simp;omega)];rfl
 |r+1,i,k,hi,hk=>by
  obtain⟨k,rfl⟩:∃j,k=j+1:=⟨k-1,by omega⟩
  have hil:i<us.length:=by omega
  unfold Bh3;rw[dT_ (by simp;omega)];simp only[cond_true];rw[show C2 (us.map tx) (i:Int)=some (tx us[i]) from E0 hil,sb,Fe8 (by omega) (by have:=hb _ (ae_ hil);omega) (by omega) (by rw[a5_];omega),sb,M3 (by simp;omega),sb,wi i (by omega)];have ih:=Ct8 hD hl hb hd hf r (i+1) k (by omega) (by omega);rw[take_add_one,List.getElem?_map,List.getElem?_eq_getElem hil,List.map_append]at ih;exact ih
theorem Fx2{us:List Int}{D:Nat}(hD:0<D)(hl:us.length<=1000)(hb:∀u∈us,lt u<=10000)(hd:lt (D:Int)<=10000){f:Nat}(hf:2000000010+D<f):F68 f (us.map tx) (tx (D:Int))=some ((ovL D us).map T):=by
 unfold F68;exact Ct8 hD hl hb hd hf us.length 0 f (by omega) (by omega)
end
section
variable {m:Mdl} {tg:Nat}
theorem Fz0{g:Nat}(hg:0<g)(h:g<=9999){k:Nat}(hk:k<=60):szI g (g^k) (12^k):=by
 refine⟨hg,h,cr_ hg,4*k,2*k,?_,?_,by omega⟩
 .rw[Nat.pow_mul];exact c2_ (ah_ h (by decide)) k
 .rw[Nat.pow_mul];exact c2_ (by decide) k
theorem Gy5(h:okM m):∀l∈m.ch,l.length<=4:=fun l hl=>(h.cl l hl).2
theorem Dy8(h:okM m)(ht:tg<18446744073709551616){n:Nat}(hn:n<=60):∀(r i:Nat) (us:List Int),i+r=n->us.length=m.own.length->ovL (gP m^i) us=vls m tg i->∃us':List Int,us'.length=m.own.length/\ovL (gP m^n) us'=vls m tg n/\Ev fun f=>∀k,r<k->
 Bg5 f (eM m) (tg:Int) (n:Int) (tx (gP m:Int)) k (tx ((gP m^i:Nat):Int)) (us.map tx) (i:Int) (pls m tg i)=(F68 f (us'.map tx) (tx ((gP m^n:Nat):Int))).bind fun y12=>some (y12,pls m tg n)
 |0,i,us,hi,hl,he=>by
  obtain rfl:i=n:=by omega
  refine⟨us,hl,he,Ev.of fun f k hk=> ?_⟩;obtain⟨k,rfl⟩:∃j,k=j+1:=⟨k-1,by omega⟩
  unfold Bg5;rw[dF_ (by omega)];rfl
 |r+1,i,us,hi,hl,he=>by
  obtain⟨g0,g9,_⟩:=Al5 h;have hs:=Fz0 g0 g9 (k:=i) (by omega);have hv:∀x∈ovL (gP m^i) us,fr (gP m^i) (12^i) x:=fun x hx=>by rw[he]at hx;exact Bk6 (Db3 h) g0 i x hx
  have hlc:us.length=m.ch.length:=by rw[hl,h.len]
  obtain⟨o',o1,o2,o3⟩:=Fw6 (tg:=tg) (Db3 h) (Gy5 h) hlc hv hs ht;have eg:gP m*gP m^i=gP m^(i+1):=by rw[cf_,Nat.mul_comm]
  rw[eg,he]at o2;obtain⟨us',u1,u2,u3⟩:=Dy8 h ht hn r (i+1) o' (by omega) o1 (by rw[o2];rfl);have hlg:lt ((gP m:Nat):Int)<=5:=lt9 (by rw[a5_];exact g9);have hlD:lt ((gP m^i:Nat):Int)<=1000:=Dx7 hs;refine⟨us',u1,u2,(o3.and (u3.and (Ev.ge 2000000011))).mono fun f hh k hk=> ?_⟩;obtain⟨f1,f2,f3⟩:=hh;obtain⟨k,rfl⟩:∃j,k=j+1:=⟨k-1,by omega⟩
  unfold Bg5;rw[dT_ (by omega)];simp only[cond_true];have em:((gP m^i:Nat):Int)*((gP m:Nat):Int)=((gP m*gP m^i:Nat):Int):=by rw[Nat.mul_comm];push_cast;rfl
  refine sbe (Eg8 (by omega) (by omega) (by omega)) ?_;rw[em];refine sbe f1 ?_;have hpl:(pls m tg i).length=i:=Ck5 m tg i;rw[M3 (by simp;omega),sb,wi i (by omega),eg,he];exact f2 k (by omega)
theorem Gl6(h:okM m):Ge2 m:=⟨h.n12,h.len,h.cl,fun l hl c hc=>by
 have hm:=bj_.2 ⟨l,hl,hc⟩;exact⟨h.ac c hm,h.ga c hm,h.br c hm⟩⟩
theorem Ej7(h:okM m)(ht:tg<18446744073709551616){n:Nat}(hn:n<=60):Ev fun f=>F24 f (eM m) (tg:Int) (n:Int)=some ((vls m tg n).map T,pls m tg n):=by
 have h12:=h.n12;obtain⟨g0,g9,_⟩:=Al5 h;have hs:=Fz0 g0 g9 (k:=n) hn;obtain⟨us',u1,u2,u3⟩:=Dy8 h ht hn n 0 ((List.range m.own.length).map (Ba1 tg)) (by omega) (by simp) (by rw[Nat.pow_zero];exact Dp2);have hb:∀u∈us',lt u<=10000:=fun u hu=>by
  have hm:ov (gP m^n) u∈ovL (gP m^n) us':=be_ hu;rw[u2]at hm;have:=Dx6 hs (Bk6 (Db3 h) g0 n _ hm);omega
 have hlD:lt ((gP m^n:Nat):Int)<=1000:=Dx7 hs;refine((Bx7 (Gl6 h)).and (u3.and (Ev.ge (2000000011+gP m^n)))).mono fun f hh=> ?_
 obtain⟨f1,f2,f3⟩:=hh;unfold F24;refine sbe f1 (sbe (Al4 (by omega) (by have:((((Ae8 1 (Cc8 m)).getD 0:Nat)):Int)=(gP m:Int):=rfl;omega)) (sbe (Fd6 h12 ht (by omega)) ?_));have:=f2 f (by omega);rw[Nat.pow_zero,show tx ((1:Nat):Int)=[49] from tx1,show((0:Nat):Int)=0 from rfl]at this;refine this.trans ?_;rw[Fx2 (cr_ g0) (by omega) hb (by omega) (by omega),sb,u2]
end
end
section
theorem Fj8:∀k,F19 (k+200)=some true:=fun k=>by kernel_rfl
theorem Gn5(i:Int):∃x:Nat,x<18446744073709551616/\u64.wrap i=(x:Int):=by
 have e64:(2^u64.bits:Int)=18446744073709551616:=rfl;refine⟨(i%18446744073709551616).toNat,by omega,?_⟩;unfold IntKind.wrap;simp only[e64,show u64.signed=false from rfl,Bool.false_and];rw[if_neg (by decide)];omega
theorem Fe7{y:A9}(hz:szY y):(∃m,okM m/\y=eM m)\/((¬∃m,okM m/\y=eM m)/\Ev fun f=>F93 f y=some 110):=by
 rcases Dr7 hz with⟨m,h1,h2,_⟩|⟨h1,c,h2⟩
 .exact .inl ⟨m,h1,h2⟩
 .refine .inr ⟨h1,h2.mono fun f hf=> ?_⟩;unfold F93;exact sbe hf rfl
theorem Es5{l:List (List UInt8)}(hl:l.length<=1000):∀(r i k:Nat),i+r=l.length->r<k->Bg6 l l k (i:Int)=some true
 |_,_,0,_,h=>absurd h (by omega)
 |0,i,k+1,hi,_=>by
  unfold Bg6;rw[dF_ (by simp;omega)];rfl
 |r+1,i,k+1,hi,hk=>by
  have hil:i<l.length:=by omega
  unfold Bg6;rw[dT_ (by simp;omega)];simp only[cond_true];refine sbe (C3 hil) (sbe (C3 hil) ?_);simp only[beq_self_eq_true,Bool.not_true,cond_false];rw[wi i (by omega)];exact Es5 hl r (i+1) k (by omega) (by omega)
theorem Fi1{l:List (List UInt8)}{f:Nat}(hl:l.length<=1000)(hf:1000<f):F25 f l l=some true:=by
 unfold F25;simp only[bne_self_eq_false,cond_false];exact Es5 hl l.length 0 f (by omega) (by omega)
theorem Es7{l:List Int}(hl:l.length<=1000):∀(r i k:Nat),i+r=l.length->r<k->Bh4 l l k (i:Int)=some true
 |_,_,0,_,h=>absurd h (by omega)
 |0,i,k+1,hi,_=>by
  unfold Bh4;rw[dF_ (by simp;omega)];rfl
 |r+1,i,k+1,hi,hk=>by
  have hil:i<l.length:=by omega
  unfold Bh4;rw[dT_ (by simp;omega)];simp only[cond_true];refine sbe (C3 hil) (sbe (C3 hil) ?_);simp only[bne_self_eq_false,cond_false];rw[wi i (by omega)];exact Es7 hl r (i+1) k (by omega) (by omega)
theorem Fi5{l:List Int}{f:Nat}(hl:l.length<=1000)(hf:1000<f):F69 f l l=some true:=by
 unfold F69;simp only[bne_self_eq_false,cond_false];exact Es7 hl l.length 0 f (by omega) (by omega)
theorem Dw8{l:List (List Int)}(hl:l.length<=1000){f:Nat}(hr:∀r∈l,r.length<=1000)(hf:1000<f):∀(r i k:Nat),i+r=l.length->r<k->Bg7 f l l k (i:Int)=some true
 |_,_,0,_,h=>absurd h (by omega)
 |0,i,k+1,hi,_=>by
  unfold Bg7;rw[dF_ (by simp;omega)];rfl
 |r+1,i,k+1,hi,hk=>by
  have hil:i<l.length:=by omega
  unfold Bg7;rw[dT_ (by simp;omega)];simp only[cond_true];refine sbe (C3 hil) (sbe (C3 hil) (sbe (Fi5 (hr _ (ae_ hil)) hf) ?_));simp only[Bool.not_true,cond_false];rw[wi i (by omega)];exact Dw8 hl hr hf r (i+1) k (by omega) (by omega)
theorem Ej2{l:List (List Int)}{f:Nat}(hl:l.length<=1000)(hr:∀r∈l,r.length<=1000)(hf:1000<f):F26 f l l=some true:=by
 unfold F26;simp only[bne_self_eq_false,cond_false];exact Dw8 hl hr hf l.length 0 f (by omega) (by omega)
section
variable {m:Mdl}
theorem Ei2(h:okM m):Ev fun f=>F62 f (eM m)=some true:=by
 rcases Cu8 (Cj8 h) with⟨_,hE⟩|⟨h1,_⟩
 .exact hE
 .exact absurd ⟨m,h,rfl⟩ h1
theorem Cq9(h:okM m){tg:Nat}{n:Int}(ht:tg<18446744073709551616):Ev fun f=>F23 f (eM m) (tg:Int) n=some (if tg<2^m.own.length/\0<=n/\n<=60 then 0 else 2):=by
 have h12:=h.n12;refine(Ei2 h).mono fun f hf=> ?_
 unfold F23;refine sbe hf ?_;simp only[Bool.not_true,cond_false];have hW:F22 (eM m)=some ((2^m.own.length-1:Nat):Int):=by
  unfold F22;rw[length_map,show(eM m).Owner=m.own from rfl,D0 (dT_ (by omega)),Dp3 (by omega)]
 by_cases hc:tg<2^m.own.length/\0<=n/\n<=60
 .rw[if_pos hc];refine sbe (x:=false) (sbe hW ?_) rfl;rw[Fi2,(Bd2 (by omega) ht).2 hc.1];simp only[show((0:Int) !=0)=false from rfl,cond_false];rw[dF_ (by omega),dF_ (by omega)];rfl
 .rw[if_neg hc];refine sbe (x:=true) (sbe hW ?_) rfl;rw[Fi2];by_cases h1:tg<2^m.own.length
  .rw[(Bd2 (by omega) ht).2 h1];simp only[show((0:Int) !=0)=false from rfl,cond_false];by_cases h2:n<0
   .rw[dT_ h2];rfl
   .rw[dF_ h2,dT_ (by omega)];rfl
  .rw[show(((sd tg (2^m.own.length-1):Nat):Int) !=0)=true by
    rw[bne_iff_ne];exact fun e=>h1 ((Bd2 (by omega) ht).1 e)]
   rfl
theorem Cp7(h:okM m)(tg:Nat):∀k,∀r∈pls m tg k,r.length<=12
 |0,r,hr=>by cases hr
 |k+1,r,hr=>by
  have h12:=h.n12;have hl:=h.len;rw[pls]at hr;rcases mem_cons.1 hr with rfl|hr
  .rw[Fb9];omega
  .exact Cp7 h tg k r hr
end
theorem Cm0{y:A9}(hz:szZ y){t:Nat}(ht:t<18446744073709551616)(n:Int):∃l pl e,l.length<=12/\pl.length<=60/\(∀r∈pl,r.length<=12)/\(e≠0->l=[]/\pl=[])/\(Ev fun f=>F12 f y (t:Int) n=some (l,e))/\(Ev fun f=>F15 f y (t:Int) n=some (pl,e))/\(Ev fun f=>F23 f y (t:Int) n=some e)/\(e=0->Ev fun f=>F24 f y (t:Int) n=some (l,pl)):=by
 rcases Cu8 hz with⟨⟨m,hM,rfl⟩,_⟩|⟨hno,hR⟩
 .have h12:=hM.n12;have hlen:=hM.len;by_cases hc:t<2^m.own.length/\0<=n/\n<=60
  .obtain⟨k,rfl⟩:∃k:Nat,n=(k:Int):=⟨n.toNat,by omega⟩
   have hE:=Cq9 hM (n:=(k:Int)) ht;rw[if_pos hc]at hE;refine⟨_,_,0,?_,?_,Cp7 hM t k,fun h=>absurd rfl h,Dz4 hM hc.1 (by omega),Fg5 hM hc.1 (by omega),hE,fun _=>Ej7 hM ht (by omega)⟩
   .rw[length_map,Bd8 (Db3 hM)];omega
   .rw[Ck5];omega
  .have hE:=Cq9 hM (n:=n) ht;have hC:=Bc9 hM (n:=n) ht;rw[if_neg hc]at hE hC;refine⟨[],[],2,by simp,by simp,by simp,fun _=>⟨rfl,rfl⟩,hC.mono fun f hf=> ?_,hC.mono fun f hf=> ?_,hE,fun h=>by cases h⟩
   .unfold F12;exact sbe hf rfl
   .unfold F15;exact sbe hf rfl
 .have hC:Ev fun f=>F93 f y=some 110:=by
   rcases Fe7 (Gn0 hz) with h|⟨_,h⟩
   .exact absurd h hno
   .exact h
  refine⟨[],[],110,by simp,by simp,by simp,fun _=>⟨rfl,rfl⟩,hC.mono fun f hf=> ?_,hC.mono fun f hf=> ?_,hR.mono fun f hf=> ?_,fun h=>by cases h⟩
  .unfold F12 F43;exact sbe (sbe hf rfl) rfl
  .unfold F15 F43;exact sbe (sbe hf rfl) rfl
  .unfold F23;exact sbe hf rfl
theorem Et5{y:A9}(hz:szZ y){t:Nat}(ht:t<18446744073709551616){x:C8}{v:Int}:
 ∀(r i:Nat),i+r=2->Ev fun f=>∀(k:Nat) (cL:Int->Option Bool),r<k->Ce7 f x v y (t:Int) cL k (i:Int)=cL (i64.wrap (v+1))
 |0,i,hi=>Ev.of fun f k cL hk=>by
  obtain⟨k,rfl⟩:∃j,k=j+1:=⟨k-1,by omega⟩
  unfold Ce7;rw[dF_ (by omega)];rfl
 |r+1,i,hi=>by
  obtain⟨n,hg⟩:∃n:Int,C2 [x.N,Int.tmod x.N 7] (i:Int)=some n:=by
   rcases(show i=0\/i=1 by omega) with rfl|rfl
   .exact⟨_,rfl⟩
   .exact⟨_,rfl⟩
  obtain⟨l,pl,e,hl,hp,hpr,he0,sW,sP,sE,sV⟩:=Cm0 hz ht n;have sV':Ev fun f=>e=0->F24 f y (t:Int) n=some (l,pl):=by
   by_cases h:e=0
   .exact(sV h).mono fun f hf _=>hf
   .exact Ev.of fun f hx=>absurd hx h
  refine((((sW.and sP).and sE).and sV').and ((Ev.ge 2000).and (Et5 hz ht (x:=x) (v:=v) r (i+1) (by omega)))).mono fun f hh k cL hk=> ?_
  obtain⟨⟨⟨⟨s1,s2⟩,s3⟩,s4⟩,s5,s6⟩:=hh;obtain⟨k,rfl⟩:∃j,k=j+1:=⟨k-1,by omega⟩
  have hsl:F26 f pl pl=some true:=Ej2 (by omega) (fun r hr=>by have:=hpr r hr;omega) (by omega);have hsq:F25 f l l=some true:=Fi1 (by omega) (by omega);unfold Ce7;rw[dT_ (by omega)];simp only[cond_true];refine sbe hg (sbe s1 (sbe s2 (sbe s3 (sbe (x:=false) ?_ ?_))))
  .simp only[bne_self_eq_false,cond_false]
  .simp only[cond_false];by_cases h:e=0
   .rw[h];simp only[show((0:Int)==0)=true from rfl,cond_true];refine sbe (s4 h) (sbe (x:=false) (sbe hsq ?_) ?_)
    .simp only[Bool.not_true,cond_false];exact sbe hsl rfl
    .simp only[cond_false];rw[wi i (by omega)];exact s6 k cL (by omega)
   .obtain⟨e1,e2⟩:=he0 h;subst e1 e2;rw[show(e==0)=false from beq_false_of_ne h];simp only[cond_false];refine sbe (x:=false) (sbe hsq ?_) ?_
    .simp only[Bool.not_true,cond_false];exact sbe hsl rfl
    .simp only[cond_false];rw[wi i (by omega)];exact s6 k cL (by omega)
theorem Et4{y:A9}(hz:szZ y){x:C8}{tt w:Nat}(htt:tt<18446744073709551616)(hx:x.Target=(tt:Int))(hw:w<18446744073709551616){v:Nat}(hv:v<=100):
 ∀(r i:Nat),i+r=2->Ev fun f=>∀(k:Nat) (cL:Int->Option Bool),r<k->Be4 f x (v:Int) y (w:Int) cL k (i:Int)=cL ((v+1:Nat):Int)
 |0,i,hi=>Ev.of fun f k cL hk=>by
  obtain⟨k,rfl⟩:∃j,k=j+1:=⟨k-1,by omega⟩
  unfold Be4;rw[dF_ (by omega),wi v (by omega)];rfl
 |r+1,i,hi=>by
  obtain⟨t,hg,ht⟩:∃t:Nat,C2 [x.Target,u64.wrap (BitVec.ofInt u64.bits x.Target&&&BitVec.ofInt u64.bits (w:Int)).toNat] (i:Int)=some (t:Int)/\t<18446744073709551616:=by
   rcases(show i=0\/i=1 by omega) with rfl|rfl
   .exact⟨tt,by rw[hx];rfl,htt⟩
   .exact⟨tt&&&w,by rw[hx,Fs8 htt hw];rfl,bz_ Nat.and_le_left htt⟩
  refine((Et5 hz ht (x:=x) (v:=(i:Int)) 2 0 rfl).and ((Ev.ge 2000).and (Et4 hz htt hx hw hv r (i+1) (by omega)))).mono fun f hh k cL hk=> ?_
  obtain⟨s1,s2,s3⟩:=hh;obtain⟨k,rfl⟩:∃j,k=j+1:=⟨k-1,by omega⟩
  unfold Be4;rw[dT_ (by omega)];simp only[cond_true];refine sbe hg ?_;have:=s1 f (Be4 f x (v:Int) y (w:Int) cL k) (by omega);rw[show((0:Nat):Int)=0 from rfl]at this;refine this.trans ?_;rw[wi i (by omega)];exact s3 k cL (by omega)
theorem By4{d:B4}{b:C6}{x:C8}(hd:Ai4 d)(hS:u8 b.State)(hA:u8 b.At)(hQ:b.Q.length<=9000000)(hS2:b.S.length<=9000000)(x0:0<=x.Target)(x1:x.Target<18446744073709551616):∃fuel,F4 fuel d b x=some true:=by
 obtain⟨m,hD,hE⟩:=Ee0 hd;obtain⟨y,hy,hE3⟩:=Fb3 hD.ok hS hA hQ hS2;obtain⟨tt,htt⟩:∃tt:Nat,x.Target=(tt:Int):=⟨x.Target.toNat,by omega⟩
 have hW:∀q:A9,∃w:Nat,w<18446744073709551616/\F22 q=some (w:Int):=fun q=>by
  obtain⟨w,hw,e⟩:=Gn5 ((u64.wrap (1*2^(min (Int.toNat ((q.Owner.map A3).length:Int)) u64.bits)))-1);refine⟨w,hw,?_⟩;unfold F22;rw[D0 (dT_ (by omega)),e]
 have hL:∀(q:A9) (w v:Nat),v<=100->w<18446744073709551616->szZ q->Ev fun f=>∀(k':Nat) (cL:Int->Option Bool),2<k'->Be4 f x (v:Int) q (w:Int) cL k' ((0:Nat):Int)=cL ((v+1:Nat):Int):=fun q w v hv hw hq=>Et4 hq (by omega) htt hw hv 2 0 rfl
 obtain⟨w1,hw1,e1⟩:=hW (eM m);obtain⟨w2,hw2,e2⟩:=hW y;obtain⟨f,hf⟩:=(((hE.and hE3).and ((hL (eM m) w1 0 (by omega) hw1 (Cj8 hD.ok)).and (hL y w2 1 (by omega) hw2 hy))).and (Ev.ge 2000)).ex;obtain⟨⟨⟨f1,f3⟩,g1,g3⟩,f6⟩:=hf;refine⟨f,?_⟩;have hw:=Fj8 (f-200);rw[show f-200+200=f by omega]at hw;obtain⟨q,rfl⟩:∃q,f=q+3:=⟨f-3,by omega⟩
 unfold F4;refine sbe f1 (sbe f3 ?_);have step:∀(v w:Nat) (z:A9) (k':Nat),v<2->C2 [eM m,y] (v:Int)=some z->F22 z=some (w:Int)->Bm0 (q+3) x (eM m) y (k'+1) (v:Int)=Be4 (q+3) x (v:Int) z (w:Int) (Bm0 (q+3) x (eM m) y k') (q+3) ((0:Nat):Int):=fun v w z k' hv hg hwz=>by
  conv=>lhs;unfold Bm0
  rw[dT_ (by omega)];simp only[cond_true];rw[hg,sb,hwz,sb];rfl
 rw[show(0:Int)=((0:Nat):Int) from rfl,step 0 w1 (eM m) (q+2) (by omega) rfl e1,g1 _ _ (by omega),step 1 w2 y (q+1) (by omega) rfl e2,g3 _ _ (by omega)];unfold Bm0;rw[dF_ (by omega)];simp only[cond_false];rw[hw,sb]
end
end Go.Proofs.YtfgbhfphjmmiaaaGreatDoor
end
section
namespace Go.Proofs.YtfgbhfphjmmiaaaGreatDoor.stepsWithins
open Go.ChangeShapes Go.WideShapes Go.ChangeAt Go.RowKit Kx
open Go.ChangeMaps (open_string shut_string)
set_option linter.unusedVariables false
set_option maxRecDepth 100000
section
def wf5(x:Int):Prop:=(Lit.int .u8 x).wf=true
theorem Cg6{n:Nat}{ds:List Dat}(h:Fit prog (n+1) 5 ds):∃x:Int,ds=[.int .u8 x]/\wf5 x:=by
 exact Ce8 underlying5 h
def Fz9(x:Dd3):Prop:=wf5 x.a0/\wf5 x.a1/\wf5 x.a2
theorem Ft8{n:Nat}{ds:List Dat}(h:Fit prog (n+2) 115 ds):∃x:Dd3,ds=[.int .u8 x.a0,.int .u8 x.a1,.int .u8 x.a2]/\Fz9 x:=by
 have h0:=Bt5 underlying115 h;obtain⟨_,r0,rfl,g0,h1⟩:=h0;obtain⟨x0,rfl,w0⟩:=Cg6 (n:=n+0) g0;obtain⟨_,r1,rfl,g1,h2⟩:=h1;obtain⟨x1,rfl,w1⟩:=Cg6 (n:=n+0) g1;obtain⟨_,r2,rfl,g2,h3⟩:=h2;obtain⟨x2,rfl,w2⟩:=Cg6 (n:=n+0) g2;cases (show r2=[] from h3);exact⟨⟨x0,x1,x2⟩,rfl,⟨w0,w1,w2⟩⟩
def Ga0(x:Dd2):Prop:=wf5 x.a0/\wf5 x.a1
theorem Ft9{n:Nat}{ds:List Dat}(h:Fit prog (n+2) 116 ds):∃x:Dd2,ds=[.int .u8 x.a0,.int .u8 x.a1]/\Ga0 x:=by
 have h0:=Bt5 underlying116 h;obtain⟨_,r0,rfl,g0,h1⟩:=h0;obtain⟨x0,rfl,w0⟩:=Cg6 (n:=n+0) g0;obtain⟨_,r1,rfl,g1,h2⟩:=h1;obtain⟨x1,rfl,w1⟩:=Cg6 (n:=n+0) g1;cases (show r1=[] from h2);exact⟨⟨x0,x1⟩,rfl,⟨w0,w1⟩⟩
def Fj7(x:C9):Prop:=wf5 x.State/\wf5 x.Act/\wf5 x.Gain/\Fz9 x.To/\Ga0 x.Part
theorem Fu0{n:Nat}{ds:List Dat}(h:Fit prog (n+3) 118 ds):∃x:C9,ds=[.int .u8 x.State,.int .u8 x.Act,.int .u8 x.Gain,.int .u8 x.To.a0,.int .u8 x.To.a1,.int .u8 x.To.a2,.int .u8 x.Part.a0,.int .u8 x.Part.a1]/\Fj7 x:=by
 have h0:=Ad3 underlying118 h;obtain⟨_,r0,rfl,g0,h1⟩:=h0;obtain⟨x0,rfl,w0⟩:=Cg6 (n:=n+1) g0;obtain⟨_,r1,rfl,g1,h2⟩:=h1;obtain⟨x1,rfl,w1⟩:=Cg6 (n:=n+1) g1;obtain⟨_,r2,rfl,g2,h3⟩:=h2;obtain⟨x2,rfl,w2⟩:=Cg6 (n:=n+1) g2;obtain⟨_,r3,rfl,g3,h4⟩:=h3;obtain⟨x3,rfl,w3⟩:=Ft8 (n:=n+0) g3;obtain⟨_,r4,rfl,g4,h5⟩:=h4;obtain⟨x4,rfl,w4⟩:=Ft9 (n:=n+0) g4;cases (show r4=[] from h5);exact⟨⟨x0,x1,x2,x3,x4⟩,rfl,⟨w0,w1,w2,w3,w4⟩⟩
def Gs8(x:List C9):Prop:=x.length<=maxLen/\∀y∈x,Fj7 y
theorem Gj3{n:Nat}{ds:List Dat}(h:Fit prog (n+4) 51 ds):∃x:List C9,ds=[.sl 8 (x.map B6)]/\Gs8 x:=by
 obtain⟨es,rfl,hl,he⟩:=Dh8 underlying51 (sz:=8) (by kernel_rfl) h;obtain⟨l,rfl,hq⟩:=Cn9 (en:=B6) (Q:=Fj7) (fun x hx=>Fu0 hx) es he;exact⟨l,rfl,by simpa using hl,hq⟩
def Gn3(x:B4):Prop:=wf5 x.States/\wf5 x.Owners/\wf5 x.Grain/\wf5 x.Cents/\Gs8 x.Picks
theorem Gj4{n:Nat}{ds:List Dat}(h:Fit prog (n+5) 53 ds):∃x:B4,ds=[.int .u8 x.States,.int .u8 x.Owners,.int .u8 x.Grain,.int .u8 x.Cents,.sl 8 (x.Picks.map B6)]/\Gn3 x:=by
 have h0:=Ad3 underlying53 h;obtain⟨_,r0,rfl,g0,h1⟩:=h0;obtain⟨x0,rfl,w0⟩:=Cg6 (n:=n+3) g0;obtain⟨_,r1,rfl,g1,h2⟩:=h1;obtain⟨x1,rfl,w1⟩:=Cg6 (n:=n+3) g1;obtain⟨_,r2,rfl,g2,h3⟩:=h2;obtain⟨x2,rfl,w2⟩:=Cg6 (n:=n+3) g2;obtain⟨_,r3,rfl,g3,h4⟩:=h3;obtain⟨x3,rfl,w3⟩:=Cg6 (n:=n+3) g3;obtain⟨_,r4,rfl,g4,h5⟩:=h4;obtain⟨x4,rfl,w4⟩:=Gj3 (n:=n+0) g4;cases (show r4=[] from h5);exact⟨⟨x0,x1,x2,x3,x4⟩,rfl,⟨w0,w1,w2,w3,w4⟩⟩
def wf3(x:Int):Prop:=(Lit.int .i64 x).wf=true
theorem Gj1{n:Nat}{ds:List Dat}(h:Fit prog (n+1) 3 ds):∃x:Int,ds=[.int .i64 x]/\wf3 x:=by
 exact Ce8 underlying3 h
def Gn2(x:List UInt8):Prop:=x.length<=maxLen
theorem Fu1{n:Nat}{ds:List Dat}(h:Fit prog (n+1) 23 ds):∃x:List UInt8,ds=[.str x]/\Gn2 x:=by
 exact Dh9 underlying23 h
def wf9(x:List UInt8):Prop:=x.length<=maxLen
theorem Gx0{n:Nat}{ds:List Dat}(h:Fit prog (n+1) 9 ds):∃x:List UInt8,ds=[.str x]/\wf9 x:=by
 exact Dh9 underlying9 h
def Gs9(x:C6):Prop:=wf5 x.What/\wf5 x.State/\wf5 x.At/\wf3 x.N/\Gn2 x.Q/\wf9 x.S
theorem Gj5{n:Nat}{ds:List Dat}(h:Fit prog (n+2) 55 ds):∃x:C6,ds=[.int .u8 x.What,.int .u8 x.State,.int .u8 x.At,.int .i64 x.N,.str x.Q,.str x.S]/\Gs9 x:=by
 have h0:=Ad3 underlying55 h;obtain⟨_,r0,rfl,g0,h1⟩:=h0;obtain⟨x0,rfl,w0⟩:=Cg6 (n:=n+0) g0;obtain⟨_,r1,rfl,g1,h2⟩:=h1;obtain⟨x1,rfl,w1⟩:=Cg6 (n:=n+0) g1;obtain⟨_,r2,rfl,g2,h3⟩:=h2;obtain⟨x2,rfl,w2⟩:=Cg6 (n:=n+0) g2;obtain⟨_,r3,rfl,g3,h4⟩:=h3;obtain⟨x3,rfl,w3⟩:=Gj1 (n:=n+0) g3;obtain⟨_,r4,rfl,g4,h5⟩:=h4;obtain⟨x4,rfl,w4⟩:=Fu1 (n:=n+0) g4;obtain⟨_,r5,rfl,g5,h6⟩:=h5;obtain⟨x5,rfl,w5⟩:=Gx0 (n:=n+0) g5;cases (show r5=[] from h6);exact⟨⟨x0,x1,x2,x3,x4,x5⟩,rfl,⟨w0,w1,w2,w3,w4,w5⟩⟩
def Gs7(x:Int):Prop:=(Lit.int .u64 x).wf=true
theorem Gj2{n:Nat}{ds:List Dat}(h:Fit prog (n+1) 40 ds):∃x:Int,ds=[.int .u64 x]/\Gs7 x:=by
 exact Ce8 underlying40 h
def Gt0(x:C8):Prop:=Gs7 x.Target/\wf3 x.N/\wf3 x.S/\Gn2 x.P
theorem Gj6{n:Nat}{ds:List Dat}(h:Fit prog (n+2) 57 ds):∃x:C8,ds=[.int .u64 x.Target,.int .i64 x.N,.int .i64 x.S,.str x.P]/\Gt0 x:=by
 have h0:=Ad3 underlying57 h;obtain⟨_,r0,rfl,g0,h1⟩:=h0;obtain⟨x0,rfl,w0⟩:=Gj2 (n:=n+0) g0;obtain⟨_,r1,rfl,g1,h2⟩:=h1;obtain⟨x1,rfl,w1⟩:=Gj1 (n:=n+0) g1;obtain⟨_,r2,rfl,g2,h3⟩:=h2;obtain⟨x2,rfl,w2⟩:=Gj1 (n:=n+0) g2;obtain⟨_,r3,rfl,g3,h4⟩:=h3;obtain⟨x3,rfl,w3⟩:=Fu1 (n:=n+0) g3;cases (show r3=[] from h4);exact⟨⟨x0,x1,x2,x3⟩,rfl,⟨w0,w1,w2,w3⟩⟩
theorem Fw9{d:B4}(h:Gn3 d):Ai4 d:=
 ⟨Co9 h.1,Co9 h.2.1,Co9 h.2.2.1,Co9 h.2.2.2.1,fun p hp=>by
  obtain⟨h1,h2,h3,⟨h4,h5,h6⟩,h7,h8⟩:=h.2.2.2.2.2 p hp;exact⟨Co9 h1,Co9 h2,Co9 h3,Co9 h4,Co9 h5,Co9 h6,Co9 h7,Co9 h8⟩⟩
theorem law(x0:B4)(x1:C6)(x2:C8)(h0:Gn3 x0)(h1:Gs9 x1)(h2:Gt0 x2)(q1:x1.Q.length<=1048576)(s1:x1.S.length<=1048576)(p2:x2.P.length<=1048576):∃fuel,F4 fuel x0 x1 x2=some true:=
 By4 (Fw9 h0) (Co9 h1.2.1) (Co9 h1.2.2.1) (by omega) (by omega) (Ft2 h2.1).1 (Ft2 h2.1).2
theorem own:ownKnob prog.godebug=none:=by kernel_rfl
theorem Cj6:laidOutB prog=true:=by kernel_rfl
theorem Gx8{W:World}(h0:laidMetH prog Rows.stepsWithinsRow.laid W)(hs:W.ShapedOpen prog):GlA (K7 W) W:=by
 have h:laidMet prog Rows.stepsWithinsRow.laid W:=by
  rw[MakeChecks.laidMetH_plain _ _ _ (by kernel_rfl)]at h0;exact h0
 have all:∀n cs,gl n=some cs->(∃us,W0 (K7 W) n 0 us/\D2 (K7 W) cs us)/\∃c e z,W.heap[n]? =some (.cells c e z)/\c.size=cs.length:=fun n cs e=>by
  refine Cs1 (Q:=fun n cs=>(∃us,W0 (K7 W) n 0 us/\D2 (K7 W) cs us)/\∃c e z,W.heap[n]? =some (.cells c e z)/\c.size=cs.length) ?_ e;show _/\_/\_/\_/\_/\True;exact⟨Dp6 h 0 (g:=4) (t:=338) (e:=5) rfl (by kernel_rfl) (by kernel_rfl) underlying338 (by kernel_rfl) (by kernel_rfl) (by kernel_rfl) (by kernel_rfl),
   Dp6 h 1 (g:=5) (t:=339) (e:=5) rfl (by kernel_rfl) (by kernel_rfl) underlying339 (by kernel_rfl) (by kernel_rfl) (by kernel_rfl) (by kernel_rfl),
   Dp6 h 2 (g:=3) (t:=310) (e:=39) rfl (by kernel_rfl) (by kernel_rfl) underlying310 (by kernel_rfl) (by kernel_rfl) (by kernel_rfl) (by kernel_rfl),
   Eq2 h 4 (g:=1) (t:=203) rfl (by kernel_rfl) (by kernel_rfl) (by kernel_rfl) rfl,
   Eq2 h 3 (g:=2) (t:=203) rfl (by kernel_rfl) (by kernel_rfl) (by kernel_rfl) rfl,
   trivial⟩
 refine⟨⟨fun n cs e=>(all n cs e).1,fun n k e=> ?_⟩,fun n cs e=>(all n cs e).2⟩
 .simp only[gxT,mem_cons,mem_nil_iff,or_false,Prod.mk.injEq]at e;obtain⟨rfl,rfl⟩:=e;exact Gx7 hs (zero:= #[.int .i64 0]) (t:=3) (of_decide_eq_true (by kernel_rfl)) (by kernel_rfl) (by kernel_rfl) (by kernel_rfl) underlying3 (by kernel_rfl)
theorem Fw1(os:Os)(started:os.Started)(H:Type)(enc:TypeId×Value->H)(F:Stop.Interp):
 ReturnsInHanded {} Tryz.checked os 4 .any ((Rows.OpenSpec.upto Rows.stepsWithinsSpec).preRow enc prog f4 Rows.stepsWithinsUptoRow.domain false Rows.stepsWithinsUptoRow.laid)
  (((Rows.OpenSpec.upto Rows.stepsWithinsSpec).at F).post enc prog f4 false true false false):=by
 refine returnsInHanded_of_row (C:=Tryz.checked) (s:=Rows.OpenSpec.upto Rows.stepsWithinsSpec) own started (by kernel_rfl) func4
  (Ej8 (enc:=enc) (C:=Tryz.checked) (os:=os) (s:=Rows.OpenSpec.upto Rows.stepsWithinsSpec) (k:=Rows.uptoSmall) rfl (World.laidAll prog os Rows.stepsWithinsUptoRow.laid) #[.agg #[.int .u8 0,.int .u8 0,.int .u8 0,.int .u8 0,.slice none 0 0],.agg #[.int .u8 0,.int .u8 0,.int .u8 0,.int .i64 0,.string ByteArray.empty,.string ByteArray.empty],.agg #[.int .u64 0,.int .i64 0,.int .i64 0,.string ByteArray.empty]] 8 (World.laidAll_os _ _ _)
   (World.shaped_of_ZipB (by kernel_rfl) (by kernel_rfl)) (by kernel_rfl) (by kernel_rfl) (by kernel_rfl)
   (by rw[MakeChecks.laidMetH_plain _ _ _ (by kernel_rfl)];exact laidMet_laidAll _ (by kernel_rfl) (by kernel_rfl))) ?_
 intro W base args ds gs before hval0 hW hcnd hk_ _ hlaid hshape _;have hgl:GlA (K7 W) W:=Gx8 hlaid hshape;have hk_:=hk_ _ rfl;have hval:∀(j:Nat) t v,f4.params[j]? =some t->args[j]? =some v->Value.okWide prog W .any base t v:=hval0;have hW':=hW;obtain⟨p,q,hA0,hV,rfl,hfz,hnd⟩:=hW;have hA:DataW.TrodAll enc prog W 0 (fun _=>true) true f4.params.toList args.toList ds p:=hA0;rw[Tryz.params4]at hA hval;obtain⟨v0,vs0,d0,ds0,p0,q0,hargs,rfl,rfl,h0,r0⟩:=trodAll_cons hA;obtain⟨v1,vs1,d1,ds1,p1,q1,rfl,rfl,rfl,h1,r1⟩:=trodAll_cons r0;obtain⟨v2,vs2,d2,ds2,p2,q2,rfl,rfl,rfl,h2,r2⟩:=trodAll_cons r1;obtain⟨rfl,rfl,rfl⟩:=trodAll_nil r2;obtain rfl:args= #[v0,v1,v2]:=by cases args;simp_all
 obtain⟨rfl,rfl⟩:=trodVars_none hV;have k0:=h0;have lt0:∀x∈p0,x.block<W.heap.size:=by obtain⟨m,hm⟩:=k0;exact DataW.trod_lt m _ _ _ hm
 obtain⟨c0,rfl⟩:=Dt4 underlying53 (hval 0 53 v0 rfl rfl);obtain⟨m0,hm0⟩:=k0;obtain⟨ds0,hr0,hf0⟩:=Af2 5 53 m0 _ _ (by kernel_rfl) hm0;obtain⟨x0,rfl,wf0_⟩:=Gj4 (n:=0) hf0;have rel0:B8 (K7 W) noR (.agg (dV [.int .u8 x0.States,.int .u8 x0.Owners,.int .u8 x0.Grain,.int .u8 x0.Cents,.sl 8 (x0.Picks.map B6)])) _:=Bc4 hr0;have k1:=h1;have lt1:∀x∈p1,x.block<W.heap.size:=by obtain⟨m,hm⟩:=k1;exact DataW.trod_lt m _ _ _ hm
 obtain⟨c1,rfl⟩:=Dt4 underlying55 (hval 1 55 v1 rfl rfl);obtain⟨m1,hm1⟩:=k1;obtain⟨ds1,hr1,hf1⟩:=Af2 2 55 m1 _ _ (by kernel_rfl) hm1;obtain⟨x1,rfl,wf1_⟩:=Gj5 (n:=0) hf1;have Ge6:B8 (K7 W) noR (.agg (dV [.int .u8 x1.What,.int .u8 x1.State,.int .u8 x1.At,.int .i64 x1.N,.str x1.Q,.str x1.S])) _:=Bc4 hr1;have k2:=h2;have lt2:∀x∈p2,x.block<W.heap.size:=by obtain⟨m,hm⟩:=k2;exact DataW.trod_lt m _ _ _ hm
 obtain⟨c2,rfl⟩:=Dt4 underlying57 (hval 2 57 v2 rfl rfl);obtain⟨m2,hm2⟩:=k2;obtain⟨ds2,hr2,hf2⟩:=Af2 2 57 m2 _ _ (by kernel_rfl) hm2;obtain⟨x2,rfl,wf2_⟩:=Gj6 (n:=0) hf2;have Gm3:B8 (K7 W) noR (.agg (dV [.int .u64 x2.Target,.int .i64 x2.N,.int .i64 x2.S,.str x2.P])) _:=Bc4 hr2;have hbk:=of_decide_eq_true (p:=Rows.uptoBulkAll (H:=H) _<=1048576) hk_;simp only[append_nil,Rows.uptoBulkAll]at hbk;have hb1_4:x1.Q.length<=1048576:=by have:=Br8 (s:=x1.Q) 4 underlying55 hm1 hr1 rfl underlying23 (by kernel_rfl) rfl;omega
 have hb1_5:x1.S.length<=1048576:=by have:=Br8 (s:=x1.S) 5 underlying55 hm1 hr1 rfl underlying9 (by kernel_rfl) rfl;omega
 have hb2_3:x2.P.length<=1048576:=by have:=Br8 (s:=x2.P) 3 underlying57 hm2 hr2 rfl underlying23 (by kernel_rfl) rfl;omega
 obtain⟨fuel,hF⟩:=law x0 x1 x2 wf0_ wf1_ wf2_ hb1_4 hb1_5 hb2_3;clear hA0 hval0;refine(Gg3 hF (K7 W) W [_,_,_] (Cx9 W) hgl (by simp only[B2];exact⟨_,_,rfl,rel0,⟨_,_,rfl,Ge6,⟨_,_,rfl,Gm3,rfl⟩⟩⟩)).mono fun e W' hE=> ?_
 obtain⟨u,M',rfl,hext,hv⟩:=hE;have bel:=hext.below;have hv:=I8 hv;cases hv;show∃v,Ending.returned _= .returned v/\Rows.stepsWithinsSpec.post enc prog f4 false true false false W _ v W';exact⟨_,rfl,_,_,_,[],_,[],hW',trodAll_mk1 (shut_bool underlying4 _),(trodAll_cons_mk (Below.trod Cj6 (by kernel_rfl) (of_decide_eq_true (by kernel_rfl)) ⟨_,hm0⟩ bel lt0) (trodAll_cons_mk (Below.trod Cj6 (by kernel_rfl) (of_decide_eq_true (by kernel_rfl)) ⟨_,hm1⟩ bel lt1) (trodAll_cons_mk (Below.trod Cj6 (by kernel_rfl) (of_decide_eq_true (by kernel_rfl)) ⟨_,hm2⟩ bel lt2) trodAll_mk0))),rfl,bel.frame _,fun h=>by cases h⟩
theorem Dt3:(Rows.stepsWithinsUptoRow.inPlace==Tryz.pinned.checked.prog.inPlace 4)=true:=by kernel_rfl
theorem Bz3:(Rows.stepsWithinsUptoRow.unfollowed==Tryz.pinned.checked.prog.unfollowed 4)=true:=by kernel_rfl
theorem Db2:(Rows.stepsWithinsUptoRow.recurses==Tryz.pinned.checked.prog.recurses 4)=true:=by kernel_rfl
theorem Ff7:(Rows.stepsWithinsUptoRow.named==Tryz.pinned.checked.prog.varsNamed 4)=true:=by kernel_rfl
theorem Fc0:joinedFacts Tryz.pinned.checked.prog 4 f4 (Rows.OpenSpec.upto Rows.stepsWithinsSpec).bare Rows.stepsWithinsUptoRow=true:=by
 unfold joinedFacts;rw[Dt3,Bz3,Db2,Ff7];kernel_rfl
theorem Gy2:Rows.stepsWithinsUptoRow.holds Tryz.pinned (Rows.OpenSpec.upto Rows.stepsWithinsSpec):=
 OpenClaim.holds_of_cond 4 f4 rfl rfl rfl rfl rfl rfl rfl ⟨rfl,rfl,rfl,rfl,rfl⟩ rfl rfl rfl rfl rfl (by kernel_rfl) func4 Fc0
  (of_decide_eq_true (by kernel_rfl)) (by unfold Func.isWrapper;first|(rw[if_pos (by decide+kernel)];kernel_rfl)|(rw[if_neg (by decide+kernel)];exact⟨rfl,rfl⟩))
  (fun os started H enc _ F=>by rw[OpenClaim.pre_eq_preRow];exact Fw1 os started H enc F)
theorem proved:Rows.StepsWithinsUptoCardSaid:=
 Claim7.holds_tied_plain_at .later [] [.data,.data,.data,.sentinel,.sentinel] true (true, "502f4c70369b75b0d817dcaec3831be972de460fbc89e4c07d93a27f2ee98cfe") true Gy2 (fun _ h=>by cases h) (by kernel_rfl) (fun _ h=>by cases h) stepsWithinsUpto_row_tie rfl ⟨rfl,rfl⟩ (by kernel_rfl) rfl
  (fun f fn hf hfn=>by
   obtain rfl:f=4:=av_ ((show prog.funcNamed "croupier/croupierlaw21.StepsWithins" =some 4 by kernel_rfl).symm.trans hf)|>.symm;obtain rfl:fn=f4:=(av_ (func4.symm.trans hfn)).symm;exact⟨by kernel_rfl,fun j t ht=>by
    rw[Tryz.params4]at ht;have hm:t∈[53,55,57]:=by simpa using Array.mem_of_getElem? ht
    have hall:([53,55,57].all fun u=> !prog.wantsStandIn u)=true:=by kernel_rfl
    exact(show prog.wantsStandIn t=false by simpa using List.all_eq_true.1 hall t hm)⟩)
  (by kernel_rfl)
#print axioms proved
end
end Go.Proofs.YtfgbhfphjmmiaaaGreatDoor.stepsWithins
end
