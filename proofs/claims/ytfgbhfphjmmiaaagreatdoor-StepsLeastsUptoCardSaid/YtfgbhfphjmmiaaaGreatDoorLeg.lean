/- StepsLeasts holds: whatever the input, the call returns true, and what came in reads as it did. No condition. -/
import Derived.Test.YtfgbhfphjmmiaaaGreatDoorTie
import Derived.Test.YtfgbhfphjmmiaaaGreatDoorCards
import Derived.WalkKit
import Derived.ShutString
import Derived.ChangeOld
import Derived.Test.YtfgbhfphjmmiaaaGreatDoorLef
open List Go.Proofs.Tryz
section
namespace Go.Proofs.YtfgbhfphjmmiaaaGreatDoor
open Go Go.RowKit Kx Go.IntKind
set_option maxRecDepth 100000
section
section
variable {y:A9}
def Eh2(n:Nat)(l:List A2):Prop:=∃l0,l=eL l0/\∀c∈l0,Eh0 n c
theorem Ct6{s:Nat}{row:List A2}(hg:y.Choices[s]? =some row)(hr:row.length<=1000)(h12:y.Owner.length<=12)(hz:∀c∈row,szC c):
 ∀(l:List A2) (i:Nat),row.drop i=l->(Eh2 y.Owner.length l/\Ev fun f=>∀(k:Nat) (cL:Int->Option Bool),l.length<k->Ag3 f y (s:Int) cL k (i:Int)=cL (i64.wrap ((s:Int)+1)))\/(¬Eh2 y.Owner.length l/\Ev fun f=>∀(k:Nat) (cL:Int->Option Bool),l.length<k->Ag3 f y (s:Int) cL k (i:Int)=some false)
 |[],i,hd=> .inl ⟨⟨[],rfl,fun _ h=>(by cases h)⟩,Ev.of fun f k cL hk=>by
  obtain⟨k,rfl⟩:∃j,k=j+1:=⟨k-1,by omega⟩
  have:=drop_nil hd;unfold Ag3;rw[D4,hg,sb,dF_ (by simp;omega)];rfl⟩
 |c::l,i,hd=>by
  obtain⟨hi,hb,hd'⟩:=K2 hd;have mc:c∈row:=by rw[<-hb];exact af_ hi
  obtain⟨b,hbb,hE⟩:=Dk9 h12 (hz c mc);have step:∀f k (cL:Int->Option Bool),(c::l).length<k->∃j,k=j+1/\Ag3 f y (s:Int) cL k (i:Int)=(Eu0 f c (y.Owner.length:Int)).bind fun y84=>bif !y84 then some false else Ag3 f y (s:Int) cL j ((i+1:Nat):Int):=fun f k cL hk=>by
   obtain⟨k,rfl⟩:∃j,k=j+1:=⟨k-1,by omega⟩
   refine⟨k,rfl,?_⟩
   conv=>lhs;unfold Ag3
   rw[D4,hg,sb,dT_ (by simp;omega)];simp only[cond_true];rw[sb,C3 hi,sb,hb,length_map,wi i (by omega)]
  cases hbv:b with
  |false=>
   subst hbv;refine .inr ⟨fun⟨l0,h1,h2⟩=> ?_,hE.mono fun f hf k cL hk=> ?_⟩
   .cases l0 with
    |nil=>cases h1
    |cons c0 t=>
     have h1':c::l=eC c0::eL t:=h1;cases h1';have:=hbb.2 ⟨c0,rfl,h2 c0 aa_⟩;cases this
   .obtain⟨j,_,e⟩:=step f k cL hk;rw[e,hf,sb];rfl
  |true=>
   subst hbv;obtain⟨c0,hc0,hok⟩:=hbb.1 rfl;rcases Ct6 hg hr h12 hz l (i+1) hd' with⟨⟨l0,h1,h2⟩,h3⟩|⟨h1,h3⟩
   .refine .inl ⟨⟨c0::l0,by rw[hc0,h1];rfl,fun x hx=> ?_⟩,(hE.and h3).mono fun f hf k cL hk=> ?_⟩
    .rcases mem_cons.1 hx with rfl|hx
     .exact hok
     .exact h2 x hx
    .obtain⟨j,ej,e⟩:=step f k cL hk;rw[e,hf.1,sb];exact hf.2 j cL (by simp at hk;omega)
   .refine .inr ⟨fun⟨l0,a1,a2⟩=>h1 ?_,(hE.and h3).mono fun f hf k cL hk=> ?_⟩
    .cases l0 with
     |nil=>cases a1
     |cons c1 t=>
      have a1':c::l=eC c1::eL t:=a1;cases a1';exact⟨t,rfl,fun x hx=>a2 x (mem_cons_of_mem _ hx)⟩
    .obtain⟨j,ej,e⟩:=step f k cL hk;rw[e,hf.1,sb];exact hf.2 j cL (by simp at hk;omega)
def Bz8(y:A9)(s:Nat):Prop:=(∃o,y.Owner[s]? =some o/\(o=0\/o=1))/\∃row,y.Choices[s]? =some row/\1<=row.length/\row.length<=4/\Eh2 y.Owner.length row
theorem Ct5(h12:y.Owner.length<=12)(hlen:y.Choices.length=y.Owner.length)(hz:szZ y){tb:Bool}(hT:(∀s,s<y.Owner.length->Bz8 y s)->Ev fun f=>Option.bind (F63 f y) (fun y91=>Option.bind (bif decide (y91.1>0) then some (decide (y91.2>0)) else some false) fun o5=>some o5)=some tb):
 ∀(r i:Nat),i+r=y.Owner.length->(∀s,s<i->Bz8 y s)->∃b,(b=true↔(∀s,s<y.Owner.length->Bz8 y s)/\tb=true)/\Ev fun f=>∀k,r<k->Ak1 f y k (i:Int)=some b
 |0,i,hi,hall=>by
  have hall':∀s,s<y.Owner.length->Bz8 y s:=fun s hs=>hall s (by omega)
  refine⟨tb,⟨fun h=>⟨hall',h⟩,fun h=>h.2⟩,(hT hall').mono fun f hf k hk=> ?_⟩;obtain⟨k,rfl⟩:∃j,k=j+1:=⟨k-1,by omega⟩
  unfold Ak1;rw[dF_ (by simp;omega)];exact hf
 |r+1,i,hi,hall=>by
  have hio:i<y.Owner.length:=by omega
  have hic:i<y.Choices.length:=by omega
  have hgc:=List.getElem?_eq_getElem hic;have hgo:=List.getElem?_eq_getElem hio;have hrz:=hz _ (af_ hic);have hdiff:decide ((((y.Choices[i]).map A1).length:Int)<1)=decide (y.Choices[i].length<1):=by rw[length_map];exact decide_eq_decide.2 (by omega)
  have hdiff2:decide ((((y.Choices[i]).map A1).length:Int)>4)=decide (4<y.Choices[i].length):=by rw[length_map];exact decide_eq_decide.2 (by omega)
  let g:Bool:= !(decide (y.Owner[i]=0\/y.Owner[i]=1)&&(!decide (y.Choices[i].length<1)&& !decide (4<y.Choices[i].length)))
  have step:∀f k,r+1<k->∃j,k=j+1/\Ak1 f y k (i:Int)=bif g then some false else Ag3 f y (i:Int) (Ak1 f y j) f 0:=fun f k hk=>by
   obtain⟨k,rfl⟩:∃j,k=j+1:=⟨k-1,by omega⟩
   refine⟨k,rfl,?_⟩
   conv=>lhs;unfold Ak1
   rw[dT_ (by simp;omega)];simp only[cond_true];rw[C3 hio,C3 hic];simp only[sb];rw[hdiff,hdiff2];refine sbe (x:=g) ?_ rfl;show _=some (!(decide (y.Owner[i]=0\/y.Owner[i]=1)&&(!decide (y.Choices[i].length<1)&& !decide (4<y.Choices[i].length))));by_cases h0:y.Owner[i]=0
   .rw[h0,show((0:Int) !=0)=false from rfl,dT_ (Or.inl rfl)];simp only[cond_false,Bool.true_and];cases decide (y.Choices[i].length<1)<;>cases decide (4<y.Choices[i].length)<;>rfl
   .rw[show(y.Owner[i] !=0)=true from bne_iff_ne.2 h0];simp only[cond_true];by_cases h1:y.Owner[i]=1
    .rw[h1,show((1:Int) !=1)=false from rfl,dT_ (Or.inr rfl)];simp only[cond_false,Bool.true_and];cases decide (y.Choices[i].length<1)<;>cases decide (4<y.Choices[i].length)<;>rfl
    .rw[show(y.Owner[i] !=1)=true from bne_iff_ne.2 h1,dF_ (show¬(y.Owner[i]=0\/y.Owner[i]=1) from fun h=>h.elim h0 h1)];rfl
  cases hgv:g with
  |true=>
   refine⟨false,⟨fun h=>(by cases h),fun⟨h,_⟩=> ?_⟩,Ev.of fun f k hk=> ?_⟩
   .obtain⟨⟨o,e1,e2⟩,row,e3,e4,e5,_⟩:=h i hio;rw[hgo]at e1;cases e1;rw[hgc]at e3;cases e3;have hgf:g=false:=by
     show(!(decide (y.Owner[i]=0\/y.Owner[i]=1)&&(!decide (y.Choices[i].length<1)&& !decide (4<y.Choices[i].length))))=false;rw[dT_ e2,dF_ (by omega),dF_ (by omega)];rfl
    rw[hgf]at hgv;cases hgv
   .obtain⟨j,_,e⟩:=step f k hk;rw[e,hgv];rfl
  |false=>
   have hg':(y.Owner[i]=0\/y.Owner[i]=1)/\¬y.Choices[i].length<1/\¬4<y.Choices[i].length:=by
    have h:(!(decide (y.Owner[i]=0\/y.Owner[i]=1)&&(!decide (y.Choices[i].length<1)&& !decide (4<y.Choices[i].length))))=false:=hgv;simp only[Bool.not_eq_false',Bool.and_eq_true,decide_eq_true_eq,Bool.not_eq_true',decide_eq_false_iff_not]at h;exact h
   rcases Ct6 hgc (by omega) h12 hrz.2 y.Choices[i] 0 rfl with⟨h1,h3⟩|⟨h1,h3⟩
   .obtain⟨b,hb,hE⟩:=Ct5 h12 hlen hz hT r (i+1) (by omega) fun s hs=>by
     rcases Nat.lt_or_eq_of_le (Nat.le_of_lt_succ hs) with h|rfl
     .exact hall s h
     .exact⟨⟨_,hgo,hg'.1⟩,_,hgc,by omega,by omega,h1⟩
    refine⟨b,hb,((h3.and hE).and (Ev.ge 20)).mono fun f hf k hk=> ?_⟩;obtain⟨j,ej,e⟩:=step f k hk;rw[e,hgv];simp only[cond_false];rw[show(0:Int)=((0:Nat):Int) from rfl,hf.1.1 f _ (by have:=hf.2;omega),wi i (by omega)];exact hf.1.2 j (by omega)
   .refine⟨false,⟨fun h=>(by cases h),fun⟨h,_⟩=> ?_⟩,(h3.and (Ev.ge 20)).mono fun f hf k hk=> ?_⟩
    .obtain⟨_,row,e3,_,_,e6⟩:=h i hio;rw[hgc]at e3;cases e3;exact(h1 e6).elim
    .obtain⟨j,ej,e⟩:=step f k hk;rw[e,hgv];simp only[cond_false];rw[show(0:Int)=((0:Nat):Int) from rfl];exact hf.1 f _ (by have:=hf.2;omega)
end
end
section
theorem Cs4{n:Nat}{row:List A2}(h:Eh2 n row):eL (row.map unC)=row/\∀c∈row.map unC,Eh0 n c:=by
 obtain⟨l0,rfl,h2⟩:=h;have e:(eL l0).map unC=l0:=by
  unfold eL;rw[List.map_map,show unC∘eC=id from funext Et2,bu_]
 rw[e];exact⟨rfl,h2⟩
theorem Dv8{y:A9}(hlen:y.Choices.length=y.Owner.length)(hall:∀s,s<y.Owner.length->Bz8 y s):y=eM (unM y):=by
 have hc:(y.Choices.map (·.map unC)).map eL=y.Choices:=by
  refine ext_getElem (by simp) fun s h1 h2=> ?_
  obtain⟨_,row,e3,_,_,e6⟩:=hall s (by omega);rw[List.getElem?_eq_getElem h2]at e3;cases e3;simp only[List.getElem_map];exact(Cs4 e6).1
 show y=⟨y.Owner,(y.Choices.map (·.map unC)).map eL⟩;rw[hc]
theorem Cu0{y:A9}(h12:y.Owner.length<=12)(hlen:y.Choices.length=y.Owner.length)(hall:∀s,s<y.Owner.length->Bz8 y s):Ge0 (unM y)/\∀o∈(unM y).own,o=0\/o=1:=by
 have hrow:∀l∈(unM y).ch,∃row,Bz8 y row/\(∃r,y.Choices[row]? =some r/\l=r.map unC):=fun l hl=>by
  obtain⟨r,hr,rfl⟩:=at_.1 hl;obtain⟨s,hs,rfl⟩:=List.mem_iff_getElem.1 hr;exact⟨s,hall s (by omega),_,List.getElem?_eq_getElem hs,rfl⟩
 refine⟨⟨h12,by show(y.Choices.map _).length=y.Owner.length;rw[length_map];exact hlen,fun l hl=> ?_,fun l hl c hc=> ?_⟩,fun o ho=> ?_⟩
 .obtain⟨s,⟨_,row,e3,e4,e5,_⟩,r,hr,rfl⟩:=hrow l hl;rw[hr]at e3;cases e3;rw[length_map];exact⟨e4,e5⟩
 .obtain⟨s,⟨_,row,e3,_,_,e6⟩,r,hr,rfl⟩:=hrow l hl;rw[hr]at e3;cases e3;exact(Cs4 e6).2 c hc
 .obtain⟨s,hs,rfl⟩:=List.mem_iff_getElem.1 ho;obtain⟨⟨o,e1,e2⟩,_⟩:=hall s hs;rw[List.getElem?_eq_getElem (show s<y.Owner.length from hs)]at e1;cases e1;exact e2
def tbB(m:Mdl):Bool:=(Af4 1 (Cc0 m)).isSome&&(Af4 1 (Ci3 m)).isSome
theorem lcm_pos{l:List Rat}:decide ((((Af4 1 l).getD 0:Nat):Int)>0)=(Af4 1 l).isSome:=by
 cases h:Af4 1 l with
 |none=>rfl
 |some w=>
  have:=(Al7 h (by decide) (by decide)).1;show decide (((w:Nat):Int)>0)=true;exact dT_ (by omega)
theorem Fg1{m:Mdl}(h1:1<=m.own.length)(h:Ge0 m)(ho:∀o∈m.own,o=0\/o=1)(ht:tbB m=true):okM m:=by
 unfold tbB at ht;rw[Bool.and_eq_true]at ht;have hch:∀c∈m.ch.flatten,Eh0 m.own.length c:=fun c hc=>by
  obtain⟨l,hl,hc⟩:=bi_.1 hc;exact h.ch l hl c hc
 exact⟨h1,h.n12,h.len,h.cl,ho,fun c hc=>(hch c hc).1,fun c hc=>(hch c hc).2.1,fun c hc=>(hch c hc).2.2,ht.2,ht.1⟩
theorem Eh1{m:Mdl}(h:okM m):∀s,s<(eM m).Owner.length->Bz8 (eM m) s:=fun s hs=>by
 have hs':s<m.own.length:=hs;have hl:s<m.ch.length:=by rw[h.len];exact hs'
 have hm:=af_ hl;refine⟨⟨m.own[s],List.getElem?_eq_getElem hs',h.ow _ (af_ hs')⟩,eL m.ch[s],?_,?_,?_,m.ch[s],rfl,fun c hc=> ?_⟩
 .show(m.ch.map eL)[s]? =_;rw[List.getElem?_map,List.getElem?_eq_getElem hl];rfl
 .unfold eL;rw[length_map];exact(h.cl _ hm).1
 .unfold eL;rw[length_map];exact(h.cl _ hm).2
 .have hf:=bi_.2 ⟨_,hm,hc⟩;exact⟨h.ac c hf,h.ga c hf,h.br c hf⟩
theorem Ct7{y:A9}(hz:szZ y):((∃m,okM m/\y=eM m)/\Ev fun f=>F62 f y=some true)\/((¬∃m,okM m/\y=eM m)/\Ev fun f=>F62 f y=some false):=by
 by_cases hg:y.Owner.length<1\/12<y.Owner.length\/y.Choices.length≠y.Owner.length
 .refine .inr ⟨fun⟨m,h,e⟩=> ?_,Ev.of fun f=> ?_⟩
  .have h1:=h.n1;have h12:=h.n12;have hl:=h.len;rw[e]at hg;have e1:(eM m).Owner.length=m.own.length:=rfl;have e2:(eM m).Choices.length=m.ch.length:=by show(m.ch.map eL).length=_;rw[length_map]
   omega
  .unfold F62;refine sbe (x:=true) ?_ rfl;rw[length_map,length_map];by_cases h1:(y.Owner.length:Int)<1
   .rw[dT_ h1];rfl
   .rw[dF_ h1];simp only[cond_false];by_cases h2:(y.Owner.length:Int)>12
    .rw[dT_ h2];rfl
    .rw[dF_ h2];simp only[cond_false];rw[bne_iff_ne.2 (show(y.Choices.length:Int)≠(y.Owner.length:Int) by omega)]
 .have h1:1<=y.Owner.length:=by omega
  have h12:y.Owner.length<=12:=by omega
  have hlen:y.Choices.length=y.Owner.length:=by omega
  obtain⟨b,hb,hE⟩:=Ct5 (tb:=tbB (unM y)) h12 hlen hz (fun hall=>by
   have e:=Dv8 hlen hall;refine(Bw9 (Cu0 h12 hlen hall).1).mono fun f hf=> ?_
   rw[<-e]at hf;rw[hf,sb];simp only;rw[lcm_pos,lcm_pos];unfold tbB;cases (Af4 1 (Cc0 (unM y))).isSome<;>rfl) y.Owner.length 0 (by omega) fun s hs=>absurd hs (by omega)
  have hF:Ev fun f=>F62 f y=some b:=(hE.and (Ev.ge 20)).mono fun f hf=>by
   unfold F62;rw[length_map,length_map,dF_ (show¬(y.Owner.length:Int)<1 by omega),dF_ (show¬(y.Owner.length:Int)>12 by omega),hlen];simp only[cond_false,bne_self_eq_false,sb];exact hf.1 f (by have:=hf.2;omega)
  have hiff:b=true↔∃m,okM m/\y=eM m:=by
   rw[hb];constructor
   .rintro ⟨hall,ht⟩
    obtain⟨a1,a2⟩:=Cu0 h12 hlen hall;exact⟨unM y,Fg1 h1 a1 a2 ht,Dv8 hlen hall⟩
   .rintro ⟨m,h,e⟩
    rw[e];refine⟨Eh1 h,?_⟩;rw[Fz4];unfold tbB;rw[h.gp,h.gg];rfl
  cases hbv:b with
  |true=>subst hbv;exact .inl ⟨hiff.1 rfl,hF⟩
  |false=>subst hbv;exact .inr ⟨fun h=>(by have:=hiff.2 h;cases this),hF⟩
end
section
def ov(D:Nat)(a:Int):Rat:=Rat.divInt a (D:Int)
theorem Es0{D:Nat}(hD:0<D){a b:Int}(h:ov D a=ov D b):a=b:=by
 unfold ov at h;have:=(Rat.divInt_eq_divInt_iff (by omega) (by omega)).1 h;exact Int.eq_of_mul_eq_mul_right (by omega) this
theorem Dt8{D:Nat}(hD:0<D)(a b:Int):ov D a+ov D b=ov D (a+b):=by
 unfold ov;rw[Rat.divInt_add_divInt _ _ (by omega) (by omega),Rat.divInt_eq_divInt_iff (Int.mul_ne_zero (by omega) (by omega)) (by omega),<-Int.add_mul];rw[Int.mul_assoc]
theorem Es1{D:Nat}(hD:0<D){a b:Int}(h:a<b):ov D a<ov D b:=by
 have h1:0<ov D (b-a):=Cp4 (by omega) (by omega);have h2:=Dt8 hD a (b-a);rw[show a+(b-a)=b by omega]at h2;rw[<-h2];grind
theorem Dt9{D:Nat}(hD:0<D){a b:Int}:ov D a<ov D b↔a<b:=by
 refine⟨fun h=> ?_,Es1 hD⟩;rcases bf_ a b with h1|rfl|h1
 .exact h1
 .exact absurd h (by grind)
 .have:=Es1 hD h1;exact absurd h (by grind)
theorem Es2{D E:Nat}(a b:Int):ov D a*ov E b=ov (D*E) (a*b):=by
 unfold ov;rw[Rat.divInt_mul_divInt];push_cast;rfl
theorem Gl7(D:Nat):ov D 0=0:=by unfold ov;rw[Rat.zero_divInt]
theorem Gs3{D:Nat}(hD:0<D):ov D (D:Int)=1:=by
 unfold ov;rw[Rat.divInt_self' (by omega)]
theorem Fg2{D B:Nat}{a:Int}(h:fr D B (ov D a)):a.natAbs<=B*D:=by
 obtain⟨hD,b,e,hb⟩:=h;rw[Es0 hD e];exact hb
theorem Gk6{D B:Nat}{x:Rat}(h:fr D B x):∃a,x=ov D a:=by
 obtain⟨_,a,e,_⟩:=h;exact⟨a,e⟩
theorem Eg6{a:Int}{N L:Nat}(h:a.natAbs<=N)(hN:N<10^L):lt a<=L:=Ac8 (by
 have:((N:Nat):Int)<((10^L:Nat):Int):=by exact_mod_cast hN
 push_cast at this;omega)
theorem Fj1{g B:Nat}{p:Rat}{a:Int}(hp:fr g B p)(e:p=ov g a)(hr:rs p)(hg:lt (g:Int)<=1000000):Ev fun f=>F74 f (T p) (tx (g:Int))=some (tx a):=by
 refine Ev.from_ 2000000011 fun f hf=> ?_
 have hd:=Fu7 hp;have hp0:=p.den_pos;have hdI:((p.den:Nat):Int)∣(g:Int):=Int.natCast_dvd_natCast.2 hd;obtain⟨k,hk⟩:=hd;have hk0:0<k:=by
  rcases c4_ k with h|h
  .subst h;have:=hp.1;omega
  .exact h
 have hq:(g:Int)/(p.den:Int)=(k:Int):=by
  rw[hk];push_cast;exact bl_ _ (by omega)
 have ha:p.num*(k:Int)=a:=by
  refine Es0 hp.1 (Eq.trans ?_ e);unfold ov;rw[hk];push_cast;rw[cf_ (by omega),c9_]
 have hlk:lt (k:Int)<=lt (g:Int):=Bb6 (by
  rw[a5_,a5_,hk];exact bt_ _ hp0)
 have h1:=hr.1;have h2:=hr.2;unfold F74;rw[Ah1 hr (by decide) (by omega),sb];dsimp only;rw[Gj5 (by omega) hdI (by omega) (by omega) (by omega),sb,hq];dsimp only;rw[Ds1 (by omega) (by omega) (by omega),sb,ha]
def szI(g D B:Nat):Prop:=0<g/\g<=9999/\0<D/\∃p q,D<=10^p/\B<=10^q/\p+q<=400
theorem Eg5{a:Int}{N p L:Nat}(h:a.natAbs<=N)(hN:N<=10^p)(hp:p<L):lt a<=L:=Eg6 h (bx_ hN (Nat.pow_lt_pow_right (by decide) hp))
theorem Dx6{g D B i:Nat}{a:Int}(h:szI g D B)(hi:i<=12)(ha:fr (g*D) (B*i) (ov (g*D) a)):lt a<=1000:=by
 obtain⟨_,g9,_,p,q,hp,hq,hpq⟩:=h;have h2:B*i*(g*D)<=10^q*10^2*(10^4*10^p):=bg_ (bg_ hq (ad_ hi (by decide))) (bg_ (ad_ g9 (by decide)) hp);rw[<-cq_,<-cq_,<-cq_]at h2;exact Eg5 (Fg2 ha) h2 (by omega)
theorem Dx7{g D B:Nat}{a:Int}(h:szI g D B)(ha:fr D B (ov D a)):lt a<=1000:=by
 obtain⟨_,g9,_,p,q,hp,hq,hpq⟩:=h;have h2:B*D<=10^q*10^p:=bg_ hq hp;rw[<-cq_]at h2;exact Eg5 (Fg2 ha) h2 (by omega)
theorem Fi5{g D B:Nat}(h:szI g D B):lt (D:Int)<=1000:=by
 obtain⟨_,g9,_,p,q,hp,hq,hpq⟩:=h;exact Eg5 (Nat.le_of_eq (a5_ D)) hp (by omega)
theorem lt9{a:Int}(h:a.natAbs<=9999):lt a<=5:=Eg5 h (show 9999<=10^4 by decide) (by decide)
theorem Fi6{g D B:Nat}(h:szI g D B):szs g D B:=by
 obtain⟨g0,g9,hD,p,q,hp,hq,hpq⟩:=h;refine⟨g0,hD,4+p,q+2,?_,?_,by omega⟩
 .rw[cq_];exact bg_ (ad_ g9 (by decide)) hp
 .rw[cq_];have:0<10^q:=cr_ (by decide);have e:(10:Nat)^2=100:=by decide
  rw[e];omega
end
section
abbrev ovL(D:Nat)(us:List Int):List Rat:=us.map (ov D)
theorem Er9{D:Nat}{us:List Int}{i:Nat}(h:i<us.length):(ovL D us).getD i 0=ov D us[i]:=by
 rw[getD_eq_getElem?_getD,List.getElem?_map,List.getElem?_eq_getElem h];rfl
section
variable {g D B:Nat} {us:List Int}
theorem Er0{c:Cho}(hc:okN g us.length c)(hv:∀x∈ovL D us,fr D B x)(hs:szI g D B):
 ∀(l:List (Int×Rat)) (i:Nat) (X:Int),c.next.drop i=l->fr (g*D) (B*i) (ov (g*D) X)->
  ∃N,Ff2 (ovL D us) l (ov (g*D) X)=ov (g*D) N/\Ev fun f=>∀k,l.length<k->Bh5 f (eC c) (us.map tx) (tx (g:Int)) k (tx X) (i:Int)=some (tx N)
 |[],i,X,hd,hx=>⟨X,rfl,Ev.of fun f k hk=>by
  obtain⟨k,rfl⟩:∃j,k=j+1:=⟨k-1,by simp at hk;omega⟩
  have:=drop_nil hd;unfold Bh5;rw[dF_ (by simp[eC];omega)];rfl⟩
 |b::l,i,X,hd,hx=>by
  obtain⟨hi,hb,hd'⟩:=K2 hd;obtain⟨c1,c2⟩:=hc;obtain⟨p1,p2,p3⟩:=c2 b (by rw[<-hb];exact af_ hi);obtain⟨a,ea⟩:=Gk6 p1;have hgD:0<g*D:=bo_ hs.1 hs.2.2.1;have hmem:ov D us[b.1.toNat]∈ovL D us:=be_ (af_ p3);have hw:=hv _ hmem;have hm:fr (g*D) (B*1) (ov (g*D) (a*us[b.1.toNat])):=by
   have:=Do6 p1 hw;rw[bm_,ea,Es2]at this
   rwa [cg_]
  have hadd:fr (g*D) (B*(i+1)) (ov (g*D) (X+a*us[b.1.toNat])):=by
   have:=Cq3 hx hm
   rwa [<-Nat.mul_add,Dt8 hgD]at this
  obtain⟨N,eN,hN⟩:=Er0 ⟨c1,c2⟩ hv hs l (i+1) _ hd' hadd;have hg4:lt (g:Int)<=5:=lt9 (by rw[a5_];exact hs.2.1);have h1:=Dx7 hs hw;have h2:=Dx6 hs (i:=i) (by omega) hx;have h3:=Dx6 hs (i:=1) (by omega) hm;have h5:lt a<=5:=by
   have:=p1;rw[ea]at this;have:=Fg2 this;exact lt9 (by have:=hs.2.1;omega)
  refine⟨N,?_,((Fj1 p1 ea ((@Ca9 _ _ _ (Fi6 hs) b.2).2.1 p1) (by omega)).and (hN.and (Ev.ge 2000000011))).mono fun f hh k hk=> ?_⟩
  .rw[Ff2,Er9 p3,ea,Es2,Dt8 hgD];exact eN
  .obtain⟨t1,t2,t3⟩:=hh;obtain⟨k,rfl⟩:∃j,k=j+1:=⟨k-1,by simp at hk;omega⟩
   unfold Bh5;rw[dT_ (by simp[eC];omega)];simp only[cond_true];have hg:C2 (eC c).Next (i:Int)=some (eB b):=by rw[show(eC c).Next=c.next.map eB from rfl,E2 hi,hb]
   have hgt:C2 (us.map tx) (eB b).To=some (tx us[b.1.toNat]):=by
    rw[show(eB b).To=((b.1.toNat:Nat):Int) by show b.1=_;omega,E2 p3]
   refine sbe hg (sbe t1 (sbe hg (sbe hgt (sbe (Ds1 (by omega) (by omega) (by omega)) (sbe (Gc4 (by omega) (by omega) (by omega)) ?_)))));rw[wi i (by have:=c1;omega)];exact t2 k (by simp at hk;omega)
theorem Ff1{c:Cho}(hc:okN g us.length c)(hv:∀x∈ovL D us,fr D B x)(hs:szI g D B):∃N,mix (ovL D us) c=ov (g*D) N/\Ev fun f=>F75 f (eC c) (us.map tx) (tx (g:Int))=some (tx N):=by
 obtain⟨N,h1,h2⟩:=Er0 hc hv hs c.next 0 0 rfl (by rw[Gl7];exact Ba5 (bo_ hs.1 hs.2.2.1));rw[Gl7]at h1;refine⟨N,h1,(h2.and (Ev.ge 13)).mono fun f h=> ?_⟩;unfold F75;have:=h.1 f (by have:=hc.1;have:=h.2;omega);rw[show tx 0=[48] from rfl]at this;exact this
end
theorem Cj7{own:Int}{E:Nat}(hE:0<E){us:List Int}(hl:us.length<=1000)(hb:∀u∈us,lt u<=10000):
 ∀(r i j:Nat),i+r=us.length->(hj:j<us.length)->∃k,∃hk:k<us.length,Ea1 own ((ovL E us).drop i) i j (ov E us[j])=(ov E us[k],k)/\Ev fun f=>∀q,r<q->Ab9 f own (us.map tx) q (j:Int) (i:Int)=some (tx us[k],(k:Int))
 |0,i,j,hi,hj=>⟨j,hj,by rw[ag_ (by simp;omega)];rfl,Ev.of fun f q hq=>by
  obtain⟨q,rfl⟩:∃j,q=j+1:=⟨q-1,by omega⟩
  unfold Ab9;rw[dF_ (by simp;omega)];simp only[cond_false];exact sbe (E2 hj) rfl⟩
 |r+1,i,j,hi,hj=>by
  have hil:i<us.length:=by omega
  have hcmp:∀f,2000000010<f->F72 f (tx us[i]) (tx us[j])=some (M8 us[i] us[j]):=fun f hf=>Fg8 (by have:=hb _ (af_ hil);omega) (by have:=hb _ (af_ hj);omega) hf
  have hc:(bif own==0 then(bif decide (M8 us[i] us[j]>0) then some true else bif own==1 then some (decide (M8 us[i] us[j]<0)) else some false) else bif own==1 then some (decide (M8 us[i] us[j]<0)) else some false)=some (decide (own=0/\us[j]<us[i]\/own=1/\us[i]<us[j])):=by
   have h1:(decide (M8 us[i] us[j]>0))=decide (us[j]<us[i]):=by
    unfold M8;by_cases h:us[i]<us[j]
    .rw[if_pos h,dF_ (by omega),dF_ (by omega)]
    .rw[if_neg h];by_cases h2:us[j]<us[i]
     .rw[if_pos h2,dT_ (by omega),dT_ h2]
     .rw[if_neg h2,dF_ (by omega),dF_ h2]
   have h2:(decide (M8 us[i] us[j]<0))=decide (us[i]<us[j]):=by
    unfold M8;by_cases h:us[i]<us[j]
    .rw[if_pos h,dT_ (by omega),dT_ h]
    .rw[if_neg h,dF_ h];by_cases h2:us[j]<us[i]
     .rw[if_pos h2];rfl
     .rw[if_neg h2];rfl
   rw[h1,h2];by_cases o0:own=0
   .subst o0;by_cases h:us[j]<us[i]<;>simp[h]
   .by_cases o1:own=1
    .subst o1;by_cases h:us[i]<us[j]<;>simp[h]
    .rw[beq_false_of_ne o0,beq_false_of_ne o1];simp[o0,o1]
  have step:∀f q,2000000010<f->Ab9 f own (us.map tx) (q+1) (j:Int) (i:Int)=bif decide (own=0/\us[j]<us[i]\/own=1/\us[i]<us[j]) then Ab9 f own (us.map tx) q (i:Int) ((i+1:Nat):Int) else Ab9 f own (us.map tx) q (j:Int) ((i+1:Nat):Int):=fun f q hf=>by
   conv=>lhs;unfold Ab9
   rw[dT_ (by simp;omega)];simp only[cond_true];refine sbe (E2 hil) (sbe (E2 hj) (sbe (hcmp f hf) (sbe hc ?_)));unfold Bs6;rw[wi i (by omega)]
  have hdr:(ovL E us).drop i=ov E us[i]::(ovL E us).drop (i+1):=by
   rw[ah_ (by simp;omega),List.getElem_map]
  rw[hdr,Ea1];by_cases hx:own=0/\us[j]<us[i]\/own=1/\us[i]<us[j]
  .obtain⟨k,hk,e1,e2⟩:=Cj7 hE hl hb r (i+1) i (by omega) hil;refine⟨k,hk,?_,(e2.and (Ev.ge 2000000011)).mono fun f hh q hq=> ?_⟩
   .rw[if_pos (by rw[Dt9 hE,Dt9 hE];exact hx)];exact e1
   .obtain⟨q,rfl⟩:∃j,q=j+1:=⟨q-1,by omega⟩
    rw[step f q (by omega),dT_ hx];exact hh.1 q (by omega)
  .obtain⟨k,hk,e1,e2⟩:=Cj7 hE hl hb r (i+1) j (by omega) hj;refine⟨k,hk,?_,(e2.and (Ev.ge 2000000011)).mono fun f hh q hq=> ?_⟩
   .rw[if_neg (by rw[Dt9 hE,Dt9 hE];exact hx)];exact e1
   .obtain⟨q,rfl⟩:∃j,q=j+1:=⟨q-1,by omega⟩
    rw[step f q (by omega),dF_ hx];exact hh.1 q (by omega)
theorem Eh3{own:Int}{E:Nat}(hE:0<E){us:List Int}(hl:us.length<=1000)(h0:us≠[])(hb:∀u∈us,lt u<=10000):∃k,∃hk:k<us.length,bst own (ovL E us)=(ov E us[k],k)/\Ev fun f=>F76 f own (us.map tx)=some (tx us[k],(k:Int)):=by
 have h1:0<us.length:=aq_.2 h0;obtain⟨k,hk,e1,e2⟩:=Cj7 (own:=own) hE hl hb (us.length-1) 1 0 (by omega) h1;refine⟨k,hk,?_,(e2.and (Ev.ge 2000)).mono fun f hh=> ?_⟩
 .cases us with
  |nil=>exact absurd rfl h0
  |cons u us=>exact e1
 .unfold F76;exact hh.1 f (by omega)
theorem Fv3{x i:Nat}(hx:x<18446744073709551616)(hi:i<64):F36 (x:Int) (i:Int)=some (x.testBit i):=by
 unfold F36;rw[D0 (dT_ (by omega)),Dk3 hx hi];cases x.testBit i<;>rfl
theorem Dr4{α:Type}{p:α->Int->Prop}{q:α->Int->Nat->Prop}:∀(l:List α),(∀x∈l,∃n,p x n/\Ev (q x n))->∃ns:List Int,ns.length=l.length/\(∀(i:Nat) (h:i<l.length) (h2:i<ns.length),p l[i] ns[i])/\Ev fun f=>∀(i:Nat) (h:i<l.length) (h2:i<ns.length),q l[i] ns[i] f
 |[],_=>⟨[],rfl,fun i h=>absurd h (by simp),Ev.of fun f i h=>absurd h (by simp)⟩
 |x::l,h=>by
  obtain⟨n,p1,q1⟩:=h x aa_;obtain⟨ns,e,p2,q2⟩:=Dr4 l fun y hy=>h y (mem_cons_of_mem _ hy)
  refine⟨n::ns,by simp[e],fun i h h2=> ?_,(q1.and q2).mono fun f hh i h h2=> ?_⟩
  .cases i with
   |zero=>exact p1
   |succ i=>exact p2 i (by simpa using h) (by simpa using h2)
  .cases i with
   |zero=>exact hh.1
   |succ i=>exact hh.2 i (by simpa using h) (by simpa using h2)
end
section
section
variable {m:Mdl} {g D B tg:Nat} {us:List Int}
theorem nx3{f:Nat}{row:List Cho}{Ns:List Int}{V:List (List UInt8)}{G:List UInt8}{s:Nat}{C:List Int}{O:List (List UInt8)}{cL:Int->List Int->List (List UInt8)->Option (List (List UInt8)×List Int)}(hN:Ns.length=row.length)(hr:row.length<=1000)
 (hq:∀(i:Nat) (h:i<row.length) (h2:i<Ns.length),F75 f (eC row[i]) V G=some (tx Ns[i])) (hg:C2 (eM m).Choices (s:Int)=some (eL row)):
 ∀(r i k:Nat),i+r=row.length->r<k->Ay1 f (eM m) V G C O (s:Int) cL k (i:Int) ((Ns.take i).map tx)=(C2 (eM m).Owner (s:Int)).bind fun y89=>Option.bind (F76 f y89 (Ns.map tx)) fun y90=>Option.bind (app O [y90.1]) fun l63=>Option.bind (app C [y90.2]) fun l64=>As6 (s:Int) cL l64 l63
 |0,i,k,hi,hk=>by
  obtain⟨k,rfl⟩:∃j,k=j+1:=⟨k-1,by omega⟩
  unfold Ay1;rw[hg,sb,dF_ (by unfold eL;rw[length_map,length_map];omega),an_ (by omega)];rfl
 |r+1,i,k,hi,hk=>by
  obtain⟨k,rfl⟩:∃j,k=j+1:=⟨k-1,by omega⟩
  have hil:i<row.length:=by omega
  have hin:i<Ns.length:=by omega
  unfold Ay1;rw[hg,sb,dT_ (by unfold eL;rw[length_map,length_map];omega)];simp only[cond_true];rw[sb,show C2 (eL row) (i:Int)=some (eC row[i]) from E2 hil,sb,hq i hil hin,sb,O2 (by simp;omega),sb,wi i (by omega)];have:=nx3 (C:=C) (O:=O) (cL:=cL) hN hr hq hg r (i+1) k (by omega) (by omega)
  rwa [take_add_one,List.getElem?_eq_getElem hin,Option.toList_some,List.map_append]at this
theorem Gl3(hm:okS g m)(h4:∀l∈m.ch,l.length<=4)(hl:us.length=m.ch.length)(hv:∀x∈ovL D us,fr D B x)(hs:szI g D B)(ht:tg<18446744073709551616){s:Nat}(his:s<m.own.length):
 ∃(a:Int) (kk:Nat),stp m tg (ovL D us) s=(ov (g*D) a,kk)/\Ev fun f=>∀(k:Nat) (C:List Int) (O:List (List UInt8)),C.length<=1000->O.length<=1000->
  R8 f (eM m) (tg:Int) (us.map tx) (tx (g:Int)) (tx ((g*D:Nat):Int)) (k+1) (s:Int) C O=R8 f (eM m) (tg:Int) (us.map tx) (tx (g:Int)) (tx ((g*D:Nat):Int)) k ((s+1:Nat):Int) (C++[(kk:Int)]) (O++[tx a]):=by
 have hlen:=hm.len;have hle:=hm.le;have hgD:0<g*D:=bo_ hs.1 hs.2.2.1;have head:∀f k C O,R8 f (eM m) (tg:Int) (us.map tx) (tx (g:Int)) (tx ((g*D:Nat):Int)) (k+1) (s:Int) C O=bif tg.testBit s then((app O [tx ((g*D:Nat):Int)]).bind fun l56=>Option.bind (app C [0]) fun l57=>As6 (s:Int) (R8 f (eM m) (tg:Int) (us.map tx) (tx (g:Int)) (tx ((g*D:Nat):Int)) k) l57 l56) else Ay1 f (eM m) (us.map tx) (tx (g:Int)) C O (s:Int) (R8 f (eM m) (tg:Int) (us.map tx) (tx (g:Int)) (tx ((g*D:Nat):Int)) k) f 0 []:=fun f k C O=>by
  conv=>lhs;unfold R8
  rw[show(eM m).Owner=m.own from rfl,dT_ (by rw[length_map];omega)];simp only[cond_true];rw[Fv3 ht (by omega),sb]
 cases hb:tg.testBit s with
 |true=>
  refine⟨((g*D:Nat):Int),0,?_,Ev.of fun f k C O hC hO=> ?_⟩
  .unfold stp;rw[if_pos hb,Gs3 hgD]
  .rw[head,hb];simp only[cond_true];rw[O2 (by simp;omega),sb,O2 (by simp;omega),sb];unfold As6;rw[wi s (by omega)];rfl
 |false=>
  have hsc:s<m.ch.length:=by omega
  have eg:m.ch.getD s []=m.ch[s]:=by rw[getD_eq_getElem?_getD,List.getElem?_eq_getElem hsc];rfl
  obtain⟨hne,_,hcs⟩:=hm.cs _ (af_ hsc);have hrl:=h4 _ (af_ hsc);obtain⟨Ns,hN,hN1,hN2⟩:=Dr4 (p:=fun c n=>mix (ovL D us) c=ov (g*D) n) (q:=fun c n f=>F75 f (eC c) (us.map tx) (tx (g:Int))=some (tx n)) m.ch[s] fun c hc=>Ff1 (by rw[hl];exact hcs c hc) hv hs
  have hov:ovL (g*D) Ns=m.ch[s].map (mix (ovL D us)):=ext_getElem (by simp[hN]) fun i h1 h2=>by
   rw[List.getElem_map,List.getElem_map];exact(hN1 i (by simpa using h2) (by simpa using h1)).symm
  have hne':Ns≠[]:=fun e=>hne (b6_.1 (by rw[<-hN,e];rfl))
  have hbN:∀u∈Ns,lt u<=10000:=fun u hu=>by
   obtain⟨i,hi,rfl⟩:=List.getElem_of_mem hu;have hi2:i<m.ch[s].length:=by omega
   have hf:=Cr9 (hcs _ (af_ hi2)) (v:=ovL D us) (by simp[hl]) hv hs.1 hs.2.2.1;rw[hN1 i hi2 hi]at hf;have:=Dx6 hs (i:=12) (ac_ _) hf;omega
  obtain⟨k0,hk0,e1,e2⟩:=Eh3 (own:=m.own.getD s 0) hgD (us:=Ns) (by omega) hne' hbN;refine⟨Ns[k0],k0,?_,((hN2.and e2).and (Ev.ge 20)).mono fun f hh k C O hC hO=> ?_⟩
  .unfold stp;rw[if_neg (by rw[hb];decide),eg,<-hov];exact e1
  .obtain⟨⟨q1,q2⟩,q3⟩:=hh;rw[head,hb];simp only[cond_false];have hgc:C2 (eM m).Choices (s:Int)=some (eL m.ch[s]):=by rw[show(eM m).Choices=m.ch.map eL from rfl];exact E2 hsc
   have h3:=nx3 (C:=C) (O:=O) (cL:=R8 f (eM m) (tg:Int) (us.map tx) (tx (g:Int)) (tx ((g*D:Nat):Int)) k) hN (by omega) q1 hgc m.ch[s].length 0 f (by omega) (by omega);rw[take_zero,map_nil,show((0:Nat):Int)=0 from rfl]at h3;rw[h3,show C2 (eM m).Owner (s:Int)=some (m.own.getD s 0) by
    rw[show(eM m).Owner=m.own from rfl,C3 his,getD_eq_getElem?_getD,List.getElem?_eq_getElem his];rfl,sb,q2,sb,O2 (by simp;omega),sb,O2 (by simp;omega),sb]
   unfold As6;rw[wi s (by omega)]
theorem Er5(hm:okS g m)(h4:∀l∈m.ch,l.length<=4)(hl:us.length=m.ch.length)(hv:∀x∈ovL D us,fr D B x)(hs:szI g D B)(ht:tg<18446744073709551616):
 ∀(r s:Nat) (o:List Int),s+r=m.own.length->o.length=s->ovL (g*D) o=(List.range s).map (fun s=>(stp m tg (ovL D us) s).1)->∃o':List Int,o'.length=m.own.length/\ovL (g*D) o'=nxt m tg (ovL D us)/\Ev fun f=>∀k,r<k->
  R8 f (eM m) (tg:Int) (us.map tx) (tx (g:Int)) (tx ((g*D:Nat):Int)) k (s:Int) ((List.range s).map fun s=>((stp m tg (ovL D us) s).2:Int)) (o.map tx)=some (o'.map tx,cho m tg (ovL D us))
 |0,s,o,hsr,ho,he=>by
  have hlen:=hm.len;refine⟨o,by omega,?_,Ev.of fun f k hk=> ?_⟩
  .rw[he];unfold nxt;rw[show s=m.ch.length by omega]
  .obtain⟨k,rfl⟩:∃j,k=j+1:=⟨k-1,by omega⟩
   unfold R8;rw[show(eM m).Owner=m.own from rfl,dF_ (by rw[length_map];omega)];simp only[cond_false];unfold cho;rw[show s=m.ch.length by omega]
 |r+1,s,o,hsr,ho,he=>by
  have hlen:=hm.len;have hle:=hm.le;obtain⟨a,kk,e1,e2⟩:=Gl3 hm h4 hl hv hs ht (s:=s) (by omega);obtain⟨o',h1,h2,h3⟩:=Er5 hm h4 hl hv hs ht r (s+1) (o++[a]) (by omega) (by simp[ho]) (by
   rw[List.range_succ,List.map_append,<-he];simp[e1])
  refine⟨o',h1,h2,(e2.and h3).mono fun f hh k hk=> ?_⟩;obtain⟨k,rfl⟩:∃j,k=j+1:=⟨k-1,by omega⟩
  rw[hh.1 k _ _ (by simp;omega) (by simp;omega)];have:=hh.2 k (by omega);rw[List.range_succ,List.map_append,List.map_append]at this;simpa[e1] using this
theorem Fw4(hm:okS g m)(h4:∀l∈m.ch,l.length<=4)(hl:us.length=m.ch.length)(hv:∀x∈ovL D us,fr D B x)(hs:szI g D B)(ht:tg<18446744073709551616):∃o':List Int,o'.length=m.own.length/\ovL (g*D) o'=nxt m tg (ovL D us)/\Ev fun f=>F67 f (eM m) (tg:Int) (us.map tx) (tx (g:Int)) (tx ((g*D:Nat):Int))=some (o'.map tx,cho m tg (ovL D us)):=by
 have hlen:=hm.len;have hle:=hm.le;obtain⟨o',h1,h2,h3⟩:=Er5 (us:=us) hm h4 hl hv hs ht m.own.length 0 [] (by omega) rfl rfl;refine⟨o',h1,h2,(h3.and (Ev.ge 20)).mono fun f hh=> ?_⟩;unfold F67;exact hh.1 f (by omega)
end
section
variable {m:Mdl} {tg:Nat}
def Ba6(tg s:Nat):Int:=if tg.testBit s then 1 else 0
theorem Bw0(h12:m.own.length<=12)(ht:tg<18446744073709551616):∀(r s k:Nat),s+r=m.own.length->r<k->As5 (eM m) (tg:Int) k (s:Int) (((List.range s).map (Ba6 tg)).map tx)=some (((List.range m.own.length).map (Ba6 tg)).map tx)
 |0,s,k,hs,hk=>by
  obtain⟨k,rfl⟩:∃j,k=j+1:=⟨k-1,by omega⟩
  unfold As5;rw[show(eM m).Owner=m.own from rfl,dF_ (by rw[length_map];omega),show s=m.own.length by omega];rfl
 |r+1,s,k,hs,hk=>by
  obtain⟨k,rfl⟩:∃j,k=j+1:=⟨k-1,by omega⟩
  have ih:=Bw0 h12 ht r (s+1) k (by omega) (by omega);rw[List.range_succ,List.map_append,List.map_append]at ih;unfold As5;rw[show(eM m).Owner=m.own from rfl,dT_ (by rw[length_map];omega)];simp only[cond_true];rw[Fv3 ht (by omega),sb];unfold Bs5;rw[wi s (by omega)];cases hb:tg.testBit s with
  |true=>
   simp only[cond_true];rw[O2 (by simp;omega),sb];rw[show[s].map (Ba6 tg)=[1] by simp[Ba6,hb],show[(1:Int)].map tx=[[49]] by rw[List.map_singleton,tx1]]at ih;exact ih
  |false=>
   simp only[cond_false];rw[O2 (by simp;omega),sb];rw[show[s].map (Ba6 tg)=[0] by simp[Ba6,hb],show[(0:Int)].map tx=[[48]] from rfl]at ih;exact ih
theorem Fd7(h12:m.own.length<=12)(ht:tg<18446744073709551616){f:Nat}(hf:13<=f):F65 f (eM m) (tg:Int)=some (((List.range m.own.length).map (Ba6 tg)).map tx):=by
 unfold F65;exact Bw0 h12 ht m.own.length 0 f (by omega) (by omega)
theorem Do9:ovL 1 ((List.range m.own.length).map (Ba6 tg))=bgn m tg:=by
 unfold ovL bgn;rw[List.map_map];refine b7_ fun s _=> ?_
 show ov 1 (Ba6 tg s)=_;unfold Ba6;by_cases h:tg.testBit s
 .rw[if_pos h,if_pos h];exact Gs3 (D:=1) (by decide)
 .rw[if_neg h,if_neg h];exact Gl7 1
end
section
variable {m:Mdl} {tg:Nat}
theorem Gm9{g:Nat}(hg:0<g)(h:g<=9999){k:Nat}(hk:k<=60):szI g (g^k) (12^k):=by
 refine⟨hg,h,cr_ hg,4*k,2*k,?_,?_,by omega⟩
 .rw[Nat.pow_mul];exact c1_ (ad_ h (by decide)) k
 .rw[Nat.pow_mul];exact c1_ (by decide) k
theorem Gy5(h:okM m):∀l∈m.ch,l.length<=4:=fun l hl=>(h.cl l hl).2
theorem Gl5(h:okM m):Ge0 m:=⟨h.n12,h.len,h.cl,fun l hl c hc=>by
 have hm:=bi_.2 ⟨l,hl,hc⟩;exact⟨h.ac c hm,h.ga c hm,h.br c hm⟩⟩
end
end
section
theorem Fj5:∀k,F19 (k+200)=some true:=fun k=>by kernel_rfl
theorem Gn5(i:Int):∃x:Nat,x<18446744073709551616/\u64.wrap i=(x:Int):=by
 have e64:(2^u64.bits:Int)=18446744073709551616:=rfl;refine⟨(i%18446744073709551616).toNat,by omega,?_⟩;unfold IntKind.wrap;simp only[e64,show u64.signed=false from rfl,Bool.false_and];rw[if_neg (by decide)];omega
theorem Fe9{y:A9}(hz:szY y):(∃m,okM m/\y=eM m)\/((¬∃m,okM m/\y=eM m)/\Ev fun f=>F93 f y=some 110):=by
 rcases Dr5 hz with⟨m,h1,h2,_⟩|⟨h1,c,h2⟩
 .exact .inl ⟨m,h1,h2⟩
 .refine .inr ⟨h1,h2.mono fun f hf=> ?_⟩;unfold F93;exact sbe hf rfl
section
variable {m:Mdl}
theorem Ei0(h:okM m):Ev fun f=>F62 f (eM m)=some true:=by
 rcases Ct7 (Cj1 h) with⟨_,hE⟩|⟨h1,_⟩
 .exact hE
 .exact absurd ⟨m,h,rfl⟩ h1
theorem Ee8(h:okM m){tg:Nat}{n:Int}(ht:tg<18446744073709551616):Ev fun f=>F23 f (eM m) (tg:Int) n=some (if tg<2^m.own.length/\0<=n/\n<=60 then 0 else 2):=by
 have h12:=h.n12;refine(Ei0 h).mono fun f hf=> ?_
 unfold F23;refine sbe hf ?_;simp only[Bool.not_true,cond_false];have hW:F22 (eM m)=some ((2^m.own.length-1:Nat):Int):=by
  unfold F22;rw[length_map,show(eM m).Owner=m.own from rfl,D0 (dT_ (by omega)),Dp0 (by omega)]
 by_cases hc:tg<2^m.own.length/\0<=n/\n<=60
 .rw[if_pos hc];refine sbe (x:=false) (sbe hW ?_) rfl;rw[Fi1,(Bd7 (by omega) ht).2 hc.1];simp only[show((0:Int) !=0)=false from rfl,cond_false];rw[dF_ (by omega),dF_ (by omega)];rfl
 .rw[if_neg hc];refine sbe (x:=true) (sbe hW ?_) rfl;rw[Fi1];by_cases h1:tg<2^m.own.length
  .rw[(Bd7 (by omega) ht).2 h1];simp only[show((0:Int) !=0)=false from rfl,cond_false];by_cases h2:n<0
   .rw[dT_ h2];rfl
   .rw[dF_ h2,dT_ (by omega)];rfl
  .rw[show(((sd tg (2^m.own.length-1):Nat):Int) !=0)=true by
    rw[bne_iff_ne];exact fun e=>h1 ((Bd7 (by omega) ht).1 e)]
   rfl
end
end
section
theorem Ft3{r:Rat}(h:rsz 1999 r):Ev fun f=>F70 f (T r)=some 0:=by
 have hr:rs r:=⟨ad_ h.1 (by decide),ad_ h.2 (by decide)⟩
 refine((Fd0 hr).and (Ev.ge 2000000011)).mono fun f hh=> ?_
 obtain⟨k,hk,ek⟩:=Dm1 h.1;obtain⟨j,hj,ej⟩:=Dm1 h.2;unfold F70 Fm4;refine sbe hh.1 ?_;simp only[Bool.not_true,cond_false];refine sbe (x:=true) (sbe (Ah1 hr (by decide) (by omega)) (sbe (x:=true) (sbe ek ?_) rfl)) rfl;rw[dT_ (by omega)];simp only[cond_true];refine sbe ej ?_;rw[dT_ (by omega)]
theorem Cz2{e:Rat}{L K:Nat}(h:(T e).length<=L)(h1:1<=L)(hL:L<=K):Cb9 (K:Int) e=true:=by
 have hr:=Ez8 h h1;have hp:(10:Nat)^L<=10^K:=b4_ (by decide) hL;have hk:∀{n:Int},lt n<=L->n.natAbs<10^L:=fun{n} h=>by
  have h1:=Bf7 n;have h2:(10:Int)^lt n<=10^L:=E8 h10 h;have h3:((10^L:Nat):Int)=(10:Int)^L:=by push_cast;rfl
  omega
 refine(Al3 (k:=K) (by omega)).2 ⟨aw_ (hk hr.1) hp,?_⟩;have:=hk hr.2;rw[a5_]at this;exact aw_ this hp
theorem Fz9{q:List UInt8}(hq:q.length<=600):(∃e,q=T e/\rs e/\Cb9 2000 e=true/\(Ev fun f=>F47 f q=some 0)/\Ev fun f=>F70 f q=some 0)\/((∃a:Int,a≠0/\Ev fun f=>F47 f q=some a)/\Ev fun f=>F70 f q=some 5):=by
 obtain⟨y,hy,hyE⟩:=Dv0 (q:=q) (by omega);rcases hy with⟨h1,h2⟩|⟨r,h1,h2,h3⟩
 .refine .inr ⟨⟨y.e,by rw[h1];decide,hyE⟩,?_⟩;obtain⟨b,hb,hE⟩:=Dv7 (q:=q) (by omega);have:b=false:=by
   cases b with
   |false=>rfl
   |true=>exact absurd (hb.1 rfl) h2
  subst this;refine hE.mono fun f hf=> ?_
  unfold F70;exact sbe hf rfl
 .subst h1;have hf:Cb9 2000 r=true:=Cz2 (K:=2000) hq (by decide) (by decide);have hr:=Ez8 (L:=600) hq (by decide);rw[if_pos hf]at h3;refine .inl ⟨r,rfl,⟨ad_ hr.1 (by decide),ad_ hr.2 (by decide)⟩,hf,?_,Ft3 ⟨ad_ hr.1 (by decide),ad_ hr.2 (by decide)⟩⟩;rw[h3]at hyE;exact hyE
def Fd8(m:Mdl)(tg:Nat)(s:Nat)(e:Rat):Nat->Nat->Int×Int
 |0,_=>(0,4)
 |r+1,i=>if e<=(vls m tg i).getD s 0 then((i:Int),0) else Fd8 m tg s e r (i+1)
theorem Ft4{x y:Rat}:decide (Ai5 x y>=0)=decide (y<=x):=by
 unfold Ai5;by_cases h:x<y
 .rw[if_pos h,dF_ (by omega),dF_ (Rat.not_le.2 h)]
 .rw[if_neg h,dT_ (Rat.not_lt.1 h)];split<;>rfl
theorem Cs7{D k:Nat}(hk:0<k)(a:Int):ov (D*k) (a*(k:Int))=ov D a:=by
 unfold ov;push_cast;rw[cf_ (by omega)]
section
variable {m:Mdl} {tg s:Nat} {e:Rat}
theorem Dq6(h:okM m)(ht:tg<18446744073709551616)(hs:s<m.own.length)(he:rs e):∀(r i:Nat),i+r=61->Ev fun f=>∀k,r<k->Bg3 f (s:Int) (R e) (m.own,m.ch.map eL,(tg:Int)) k ((vls m tg i).map R) (i:Int)=some (Fd8 m tg s e r i)
 |0,i,hi=>Ev.of fun f k hk=>by
  obtain⟨k,rfl⟩:∃j,k=j+1:=⟨k-1,by omega⟩
  unfold Bg3;rw[dF_ (by omega)];rfl
 |r+1,i,hi=>by
  obtain⟨g0,g9,_⟩:=At5 h;have hl:=Dy9 (Da5 h) tg i;have hlen:=h.len;have hx:rs ((vls m tg i).getD s 0):=by
   have:(vls m tg i).getD s 0∈vls m tg i:=by
    rw[getD_eq_getElem?_getD,List.getElem?_eq_getElem (by omega)];exact af_ _
   exact Fz6 (Da5 h) g0 g9 (k:=i) (by omega) _ this
  refine(((Gd2 hx he).and (Cz4 (Da5 h) hl (Cv7 (Da5 h) g0 i) (Fy8 g0 g9 (k:=i) (by omega)) ht)).and (Dq6 h ht hs he r (i+1) (by omega))).mono fun f hh k hk=> ?_
  obtain⟨⟨h1,h2⟩,h3⟩:=hh;obtain⟨k,rfl⟩:∃j,k=j+1:=⟨k-1,by omega⟩
  unfold Bg3 Fd8;rw[dT_ (by omega)];simp only[cond_true];refine sbe (Gs0 (t:=(s:Int)) (by omega) (by rw[Int.toNat_natCast];omega)) ?_;rw[Int.toNat_natCast];refine sbe h1 ?_;rw[Ft4];by_cases hc:e<=(vls m tg i).getD s 0
  .rw[dT_ hc,if_pos hc];rfl
  .rw[dF_ hc,if_neg hc];simp only[cond_false];refine sbe h2 ?_;rw[wi i (by omega)];exact h3 k (by omega)
theorem Ct8(h:okM m)(ht:tg<18446744073709551616)(hs:s<m.own.length)(he:rs e):∀(r i:Nat) (us:List Int),i+r=61->us.length=m.own.length->ovL (gP m^i) us=vls m tg i->Ev fun f=>∀k,r<k->Bg9 f (eM m) (s:Int) (tg:Int) (tx (gP m:Int)) (tx e.num,tx (e.den:Int)) k (tx ((gP m^i:Nat):Int)) (us.map tx) (i:Int)=some (Fd8 m tg s e r i)
 |0,i,us,hi,hl,hv=>Ev.of fun f k hk=>by
  obtain⟨k,rfl⟩:∃j,k=j+1:=⟨k-1,by omega⟩
  unfold Bg9;rw[dF_ (by omega)];rfl
 |r+1,i,us,hi,hl,he'=>by
  obtain⟨g0,g9,_⟩:=At5 h;have hz:=Gm9 g0 g9 (k:=i) (by omega);have hv:∀x∈ovL (gP m^i) us,fr (gP m^i) (12^i) x:=fun x hx=>by rw[he']at hx;exact Cv7 (Da5 h) g0 i x hx
  have hlc:us.length=m.ch.length:=by rw[hl,h.len]
  obtain⟨o',o1,o2,o3⟩:=Fw4 (tg:=tg) (Da5 h) (Gy5 h) hlc hv hz ht;have eg:gP m*gP m^i=gP m^(i+1):=by rw[ch_,Nat.mul_comm]
  rw[eg,he']at o2;have ih:=Ct8 h ht hs he r (i+1) o' (by omega) o1 (by rw[o2];rfl);have hlg:lt ((gP m:Nat):Int)<=5:=lt9 (by rw[a5_];exact g9);have hlD:lt ((gP m^i:Nat):Int)<=1000:=Fi5 hz;have hus:s<us.length:=by omega
  have hmem:ov (gP m^i) us[s]∈ovL (gP m^i) us:=be_ (af_ hus);have hlu:=Dx7 hz (hv _ hmem);have h1:=he.1;have h2:=he.2;have hd:=e.den_pos;have hD:0<gP m^i:=cr_ g0;have hgd:(vls m tg i).getD s 0=ov (gP m^i) us[s]:=by rw[<-he'];exact Er9 hus
  have hcmp:decide (M8 (us[s]*(e.den:Int)) (e.num*((gP m^i:Nat):Int))>=0)=decide (e<=(vls m tg i).getD s 0):=by
   have q1:ov (gP m^i*e.den) (us[s]*(e.den:Int))=ov (gP m^i) us[s]:=Cs7 hd _;have q2:ov (gP m^i*e.den) (e.num*((gP m^i:Nat):Int))=e:=by
    rw[Nat.mul_comm,Cs7 hD];exact c9_ e
   have q3:=Dt9 (bo_ hD hd) (a:=us[s]*(e.den:Int)) (b:=e.num*((gP m^i:Nat):Int));rw[q1,q2,<-hgd]at q3;unfold M8;by_cases hx:us[s]*(e.den:Int)<e.num*((gP m^i:Nat):Int)
   .rw[if_pos hx,dF_ (by omega),dF_ (Rat.not_le.2 (q3.2 hx))]
   .rw[if_neg hx,dT_ (Rat.not_lt.1 fun h'=>hx (q3.1 h'))];split<;>rfl
  refine((o3.and (Ev.ge 2000000011)).and ih).mono fun f hh k hk=> ?_
  obtain⟨⟨f1,f2⟩,f3⟩:=hh;obtain⟨k,rfl⟩:∃j,k=j+1:=⟨k-1,by omega⟩
  have lm1:=At4 us[s] (e.den:Int);have lm2:=At4 e.num ((gP m^i:Nat):Int);unfold Bg9 Fd8;rw[dT_ (by omega)];simp only[cond_true];refine sbe (E2 hus) (sbe (Ds1 (by omega) (by omega) (by omega)) (sbe (Ds1 (by omega) (by omega) (by omega)) (sbe (Fg8 (by omega) (by omega) (by omega)) ?_)));rw[hcmp];by_cases hc:e<=(vls m tg i).getD s 0
  .rw[dT_ hc,if_pos hc];rfl
  .rw[dF_ hc,if_neg hc];simp only[cond_false];have em:((gP m^i:Nat):Int)*((gP m:Nat):Int)=((gP m*gP m^i:Nat):Int):=by rw[Nat.mul_comm];push_cast;rfl
   refine sbe (Ds1 (by omega) (by omega) (by omega)) ?_;rw[em];refine sbe f1 ?_;rw[wi i (by omega),eg];exact f3 k (by omega)
end
theorem Cz8{y:A9}(hz:szZ y){t:Nat}(ht:t<18446744073709551616)(s:Int){q:List UInt8}(hq:q.length<=600):∃a e:Int,(Ev fun f=>F13 f y s (t:Int) q=some (a,e))/\Ev fun f=>F27 f y s (t:Int) q=some (a,e):=by
 rcases Ct7 hz with⟨⟨m,hM,rfl⟩,_⟩|⟨hno,hR⟩
 .have h12:=hM.n12;have hlen:=hM.len;have hE:=Ee8 hM (n:=0) ht;have hC:=Dw5 hM (n:=0) ht;by_cases hc:t<2^m.own.length
  .rw[if_pos ⟨hc,by decide,by decide⟩]at hE hC;by_cases hs:s<0\/s>=(m.own.length:Int)
   .have hd:(bif decide (s<0) then some true else some (decide (s>=(((eM m).Owner.map A3).length:Int))))=some true:=by
     rw[length_map,show(eM m).Owner=m.own from rfl];by_cases h1:s<0
     .rw[dT_ h1];rfl
     .rw[dF_ h1,dT_ (by omega)];rfl
    refine⟨0,2,hC.mono fun f hf=> ?_,hE.mono fun f hf=> ?_⟩
    .unfold F13;refine sbe hf ?_;simp only[show((0:Int) !=0)=false from rfl,cond_false];exact sbe hd rfl
    .unfold F27;refine sbe hf ?_;simp only[show((0:Int) !=0)=false from rfl,cond_false];exact sbe hd rfl
   .obtain⟨k,rfl⟩:∃k:Nat,s=(k:Int):=⟨s.toNat,by omega⟩
    have hd:(bif decide ((k:Int)<0) then some true else some (decide ((k:Int)>=(((eM m).Owner.map A3).length:Int))))=some false:=by
     rw[length_map,show(eM m).Owner=m.own from rfl,dF_ (by omega),dF_ (by omega)];rfl
    rcases Fz9 hq with⟨e,rfl,he,hef,hc1,hc2⟩|⟨⟨a,ha,hc1⟩,hc2⟩
    .have r1:rs 1:=Ch9 (Do7 (D:=1) (by decide)) (p:=1) (q:=1) (by decide) (by decide) (by decide);have hdp:(bif decide (Ai5 e 0<0) then some true else some (decide (Ai5 e 1>0)))=some (decide (e<0\/1<e)):=by
      rw[Au8,Co7];by_cases h1:e<0
      .rw[dT_ h1,dT_ (show e<0\/1<e from .inl h1)];rfl
      .rw[dF_ h1];simp only[cond_false];by_cases h2:1<e
       .rw[dT_ h2,dT_ (show e<0\/1<e from .inr h2)]
       .rw[dF_ h2,dF_ (show¬(e<0\/1<e) by rintro (h|h);exact h1 h;exact h2 h)]
     have hO:=Gk3;have hS2:=Cp7 he;have hC2:=Gk2 he r1;rw[T1]at hC2;have hcond1:∀f,F49 (R e)=some (Ai5 e 0)->F51 f 1 1=some (R 1)->F50 f (R e) (R 1)=some (Ai5 e 1)->((F49 (R e)).bind fun y23=>bif decide (y23<0) then some true else((F51 f 1 1).bind fun y24=>Option.bind (F50 f (R e) y24) fun y25=>some (decide (y25>0))))=some (decide (e<0\/1<e)):=fun f a1 a2 a3=>by
      rw[a1,sb,<-hdp];cases decide (Ai5 e 0<0) with
      |true=>rfl
      |false=>
       simp only[cond_false];rw[a2,sb,a3,sb]
     have hcond2:∀f,F41 f (T e)=some (Ai5 e 0)->F42 f (T e) [49]=some (Ai5 e 1)->((F41 f (T e)).bind fun y31=>bif decide (y31<0) then some true else((F42 f (T e) [49]).bind fun y32=>some (decide (y32>0))))=some (decide (e<0\/1<e)):=fun f a1 a3=>by
      rw[a1,sb,<-hdp];cases decide (Ai5 e 0<0) with
      |true=>rfl
      |false=>
       simp only[cond_false];rw[a3,sb]
     by_cases hout:e<0\/1<e
     .rw[dT_ hout]at hcond1 hcond2;refine⟨0,2,((hC.and hc1).and ((Fc9 he).and (hO.and (Gd2 he r1)))).mono fun f hf=> ?_,((hE.and hc2).and (hS2.and hC2)).mono fun f hf=> ?_⟩
      .obtain⟨⟨f1,f2⟩,f3,f4,f5⟩:=hf;unfold F13;refine sbe f1 ?_;simp only[show((0:Int) !=0)=false from rfl,cond_false];refine sbe hd ?_;simp only[cond_false];refine sbe f2 ?_;simp only[show((0:Int) !=0)=false from rfl,cond_false];refine sbe f3 (sbe (hcond1 f Cs3 f4 f5) rfl)
      .obtain⟨⟨f1,f2⟩,f3,f4⟩:=hf;unfold F27;refine sbe f1 ?_;simp only[show((0:Int) !=0)=false from rfl,cond_false];refine sbe hd ?_;simp only[cond_false];refine sbe f2 ?_;simp only[show((0:Int) !=0)=false from rfl,cond_false];exact sbe (hcond2 f f3 f4) rfl
     .rw[dF_ hout]at hcond1 hcond2;have hk:k<m.own.length:=by omega
      have L1:=Dq6 (e:=e) hM ht hk he 61 0 rfl;have L2:=Ct8 (e:=e) hM ht hk he 61 0 ((List.range m.own.length).map (Ba6 t)) rfl (by simp) (by rw[Nat.pow_zero];exact Do9);obtain⟨g0,g9,_⟩:=At5 hM;refine⟨(Fd8 m t k e 61 0).1,(Fd8 m t k e 61 0).2,(((hC.and hc1).and ((Fc9 he).and (hO.and (Gd2 he r1)))).and ((Ec9 (m:=m) h12 ht).and (L1.and (Ev.ge 100)))).mono fun f hf=> ?_,(((hE.and hc2).and (hS2.and hC2)).and ((Bw9 (Gl5 hM)).and (L2.and (Ev.ge 2000000011)))).mono fun f hf=> ?_⟩
      .obtain⟨⟨⟨f1,f2⟩,f3,f4,f5⟩,f6,f7,f8⟩:=hf;unfold F13;refine sbe f1 ?_;simp only[show((0:Int) !=0)=false from rfl,cond_false];refine sbe hd ?_;simp only[cond_false];refine sbe f2 ?_;simp only[show((0:Int) !=0)=false from rfl,cond_false];refine sbe f3 (sbe (hcond1 f Cs3 f4 f5) ?_);simp only[cond_false];refine sbe f6 ?_;unfold F45;rw[sb];exact f7 f (by omega)
      .obtain⟨⟨⟨f1,f2⟩,f3,f4⟩,f6,f7,f8⟩:=hf;unfold F27;refine sbe f1 ?_;simp only[show((0:Int) !=0)=false from rfl,cond_false];refine sbe hd ?_;simp only[cond_false];refine sbe f2 ?_;simp only[show((0:Int) !=0)=false from rfl,cond_false];refine sbe (hcond2 f f3 f4) ?_;simp only[cond_false];refine sbe f6 (sbe (Am3 (by omega) (by have:((((Af4 1 (Cc0 m)).getD 0:Nat)):Int)=(gP m:Int):=rfl;omega)) (sbe (Fd7 h12 ht (by omega)) (sbe (Ah1 he (by decide) (by omega)) ?_)));have:=f7 f (by omega);rw[Nat.pow_zero,show tx ((1:Nat):Int)=[49] from tx1,show((0:Nat):Int)=0 from rfl]at this;exact this
    .refine⟨0,5,(hC.and hc1).mono fun f hf=> ?_,(hE.and hc2).mono fun f hf=> ?_⟩
     .unfold F13;refine sbe hf.1 ?_;simp only[show((0:Int) !=0)=false from rfl,cond_false];refine sbe hd ?_;simp only[cond_false];refine sbe hf.2 ?_;rw[show(a !=0)=true from bne_iff_ne.2 ha];rfl
     .unfold F27;refine sbe hf.1 ?_;simp only[show((0:Int) !=0)=false from rfl,cond_false];refine sbe hd ?_;simp only[cond_false];exact sbe hf.2 rfl
  .rw[if_neg (by intro h;exact hc h.1)]at hE hC;refine⟨0,2,hC.mono fun f hf=> ?_,hE.mono fun f hf=> ?_⟩
   .unfold F13;exact sbe hf rfl
   .unfold F27;exact sbe hf rfl
 .have hC:Ev fun f=>F93 f y=some 110:=by
   rcases Fe9 (Gn0 hz) with h|⟨_,h⟩
   .exact absurd h hno
   .exact h
  refine⟨0,110,hC.mono fun f hf=> ?_,hR.mono fun f hf=> ?_⟩
  .unfold F13 F43;exact sbe (sbe hf rfl) rfl
  .unfold F27 F23;exact sbe (sbe hf rfl) rfl
theorem Gi8{s:List UInt8}:((s.drop (Int.toNat 0)).take (Int.toNat ((bif decide (40<(s.length:Int)) then 40 else(s.length:Int))-0))).length<=600:=by
 refine ad_ (length_take_le _ _) ?_;by_cases h:40<(s.length:Int)
 .rw[dT_ h];simp only[cond_true];decide
 .rw[dF_ h];simp only[cond_false];omega
theorem Gi1{s:List UInt8}:(decide ((0:Int)<=0)&&decide ((0:Int)<=(bif decide (40<(s.length:Int)) then 40 else(s.length:Int)))&&decide ((bif decide (40<(s.length:Int)) then 40 else(s.length:Int))<=s.length))=true:=by
 by_cases h:40<(s.length:Int)
 .rw[dT_ h];simp;omega
 .rw[dF_ h];simp
theorem Eq7{y:A9}(hz:szZ y){t:Nat}(ht:t<18446744073709551616){x:C8}{v:Int}:
 ∀(r i:Nat),i+r=2->Ev fun f=>∀(k:Nat) (cL:Int->Option Bool),r<k->Cw9 f x v y (t:Int) cL k (i:Int)=cL (i64.wrap (v+1))
 |0,i,hi=>Ev.of fun f k cL hk=>by
  obtain⟨k,rfl⟩:∃j,k=j+1:=⟨k-1,by omega⟩
  unfold Cw9;rw[dF_ (by omega)];rfl
 |r+1,i,hi=>by
  obtain⟨n,hg⟩:∃n:Int,C2 [x.S,Int.tmod x.S 3] (i:Int)=some n:=by
   rcases(show i=0\/i=1 by omega) with rfl|rfl
   .exact⟨_,rfl⟩
   .exact⟨_,rfl⟩
  obtain⟨a,e,sP,sR⟩:=Cz8 hz ht n (Gi8 (s:=x.P));refine((sP.and sR).and ((Ev.ge 2000).and (Eq7 hz ht (x:=x) (v:=v) r (i+1) (by omega)))).mono fun f hh k cL hk=> ?_
  obtain⟨⟨s1,s2⟩,s5,s6⟩:=hh;obtain⟨k,rfl⟩:∃j,k=j+1:=⟨k-1,by omega⟩
  unfold Cw9;rw[dT_ (by omega)];simp only[cond_true];refine sbe hg (sbe s1 (sbe s2 (sbe (x:=false) ?_ ?_)))
  .simp only[bne_self_eq_false,cond_false]
  .simp only[cond_false];rw[wi i (by omega)];exact s6 k cL (by omega)
theorem Eq6{y:A9}(hz:szZ y){x:C8}{tt w:Nat}(htt:tt<18446744073709551616)(hx:x.Target=(tt:Int))(hw:w<18446744073709551616){v:Nat}(hv:v<=100):
 ∀(r i:Nat),i+r=2->Ev fun f=>∀(k:Nat) (cL:Int->Option Bool),r<k->Be8 f x (v:Int) y (w:Int) cL k (i:Int)=cL ((v+1:Nat):Int)
 |0,i,hi=>Ev.of fun f k cL hk=>by
  obtain⟨k,rfl⟩:∃j,k=j+1:=⟨k-1,by omega⟩
  unfold Be8;rw[dF_ (by omega),wi v (by omega)];rfl
 |r+1,i,hi=>by
  obtain⟨t,hg,ht⟩:∃t:Nat,C2 [x.Target,u64.wrap (BitVec.ofInt u64.bits x.Target&&&BitVec.ofInt u64.bits (w:Int)).toNat] (i:Int)=some (t:Int)/\t<18446744073709551616:=by
   rcases(show i=0\/i=1 by omega) with rfl|rfl
   .exact⟨tt,by rw[hx];rfl,htt⟩
   .exact⟨tt&&&w,by rw[hx,Fs4 htt hw];rfl,bx_ Nat.and_le_left htt⟩
  refine((Eq7 hz ht (x:=x) (v:=(i:Int)) 2 0 rfl).and ((Ev.ge 2000).and (Eq6 hz htt hx hw hv r (i+1) (by omega)))).mono fun f hh k cL hk=> ?_
  obtain⟨s1,s2,s3⟩:=hh;obtain⟨k,rfl⟩:∃j,k=j+1:=⟨k-1,by omega⟩
  unfold Be8;rw[dT_ (by omega)];simp only[cond_true];refine sbe hg ?_;have:=s1 f (Be8 f x (v:Int) y (w:Int) cL k) (by omega);rw[show((0:Nat):Int)=0 from rfl]at this;refine this.trans ?_;rw[wi i (by omega)];exact s3 k cL (by omega)
theorem Ci9{d:B4}{b:C6}{x:C8}(hd:Aj0 d)(hS:u8 b.State)(hA:u8 b.At)(hQ:b.Q.length<=9000000)(hS2:b.S.length<=9000000)(x0:0<=x.Target)(x1:x.Target<18446744073709551616):∃fuel,F5 fuel d b x=some true:=by
 obtain⟨m,hD,hE⟩:=Ed8 hd;obtain⟨y,hy,hE3⟩:=Fb3 hD.ok hS hA hQ hS2;obtain⟨tt,htt⟩:∃tt:Nat,x.Target=(tt:Int):=⟨x.Target.toNat,by omega⟩
 have hW:∀q:A9,∃w:Nat,w<18446744073709551616/\F22 q=some (w:Int):=fun q=>by
  obtain⟨w,hw,e⟩:=Gn5 ((u64.wrap (1*2^(min (Int.toNat ((q.Owner.map A3).length:Int)) u64.bits)))-1);refine⟨w,hw,?_⟩;unfold F22;rw[D0 (dT_ (by omega)),e]
 have hL:∀(q:A9) (w v:Nat),v<=100->w<18446744073709551616->szZ q->Ev fun f=>∀(k':Nat) (cL:Int->Option Bool),2<k'->Be8 f x (v:Int) q (w:Int) cL k' ((0:Nat):Int)=cL ((v+1:Nat):Int):=fun q w v hv hw hq=>Eq6 hq (by omega) htt hw hv 2 0 rfl
 obtain⟨w1,hw1,e1⟩:=hW (eM m);obtain⟨w2,hw2,e2⟩:=hW y;obtain⟨f,hf⟩:=(((hE.and hE3).and ((hL (eM m) w1 0 (by omega) hw1 (Cj1 hD.ok)).and (hL y w2 1 (by omega) hw2 hy))).and (Ev.ge 2000)).ex;obtain⟨⟨⟨f1,f3⟩,g1,g3⟩,f6⟩:=hf;refine⟨f,?_⟩;have hw:=Fj5 (f-200);rw[show f-200+200=f by omega]at hw;obtain⟨q,rfl⟩:∃q,f=q+3:=⟨f-3,by omega⟩
 unfold F5;refine sbe f1 ?_;refine(D0 (Gi1 (s:=x.P))).trans ?_;refine sbe f3 ?_;have step:∀(v w:Nat) (z:A9) (k':Nat),v<2->C2 [eM m,y] (v:Int)=some z->F22 z=some (w:Int)->Bl6 (q+3) x (eM m) y (k'+1) (v:Int)=Be8 (q+3) x (v:Int) z (w:Int) (Bl6 (q+3) x (eM m) y k') (q+3) ((0:Nat):Int):=fun v w z k' hv hg hwz=>by
  conv=>lhs;unfold Bl6
  rw[dT_ (by omega)];simp only[cond_true];rw[hg,sb,hwz,sb];rfl
 rw[show(0:Int)=((0:Nat):Int) from rfl,step 0 w1 (eM m) (q+2) (by omega) rfl e1,g1 _ _ (by omega),step 1 w2 y (q+1) (by omega) rfl e2,g3 _ _ (by omega)];unfold Bl6;rw[dF_ (by omega)];simp only[cond_false];rw[hw,sb]
end
end Go.Proofs.YtfgbhfphjmmiaaaGreatDoor
end
section
namespace Go.Proofs.YtfgbhfphjmmiaaaGreatDoor.stepsLeasts
open Go.ChangeShapes Go.WideShapes Go.ChangeAt Go.RowKit Kx
open Go.ChangeMaps (open_string shut_string)
set_option linter.unusedVariables false
set_option maxRecDepth 100000
section
def wf5(x:Int):Prop:=(Lit.int .u8 x).wf=true
theorem Cf7{n:Nat}{ds:List Dat}(h:Fit prog (n+1) 5 ds):∃x:Int,ds=[.int .u8 x]/\wf5 x:=by
 exact Cd9 underlying5 h
def Fz7(x:Dc6):Prop:=wf5 x.a0/\wf5 x.a1/\wf5 x.a2
theorem Ft6{n:Nat}{ds:List Dat}(h:Fit prog (n+2) 115 ds):∃x:Dc6,ds=[.int .u8 x.a0,.int .u8 x.a1,.int .u8 x.a2]/\Fz7 x:=by
 have h0:=Bs7 underlying115 h;obtain⟨_,r0,rfl,g0,h1⟩:=h0;obtain⟨x0,rfl,w0⟩:=Cf7 (n:=n+0) g0;obtain⟨_,r1,rfl,g1,h2⟩:=h1;obtain⟨x1,rfl,w1⟩:=Cf7 (n:=n+0) g1;obtain⟨_,r2,rfl,g2,h3⟩:=h2;obtain⟨x2,rfl,w2⟩:=Cf7 (n:=n+0) g2;cases (show r2=[] from h3);exact⟨⟨x0,x1,x2⟩,rfl,⟨w0,w1,w2⟩⟩
def Fz8(x:Dc5):Prop:=wf5 x.a0/\wf5 x.a1
theorem Ft7{n:Nat}{ds:List Dat}(h:Fit prog (n+2) 116 ds):∃x:Dc5,ds=[.int .u8 x.a0,.int .u8 x.a1]/\Fz8 x:=by
 have h0:=Bs7 underlying116 h;obtain⟨_,r0,rfl,g0,h1⟩:=h0;obtain⟨x0,rfl,w0⟩:=Cf7 (n:=n+0) g0;obtain⟨_,r1,rfl,g1,h2⟩:=h1;obtain⟨x1,rfl,w1⟩:=Cf7 (n:=n+0) g1;cases (show r1=[] from h2);exact⟨⟨x0,x1⟩,rfl,⟨w0,w1⟩⟩
def Fj4(x:C9):Prop:=wf5 x.State/\wf5 x.Act/\wf5 x.Gain/\Fz7 x.To/\Fz8 x.Part
theorem Ft8{n:Nat}{ds:List Dat}(h:Fit prog (n+3) 118 ds):∃x:C9,ds=[.int .u8 x.State,.int .u8 x.Act,.int .u8 x.Gain,.int .u8 x.To.a0,.int .u8 x.To.a1,.int .u8 x.To.a2,.int .u8 x.Part.a0,.int .u8 x.Part.a1]/\Fj4 x:=by
 have h0:=Ad9 underlying118 h;obtain⟨_,r0,rfl,g0,h1⟩:=h0;obtain⟨x0,rfl,w0⟩:=Cf7 (n:=n+1) g0;obtain⟨_,r1,rfl,g1,h2⟩:=h1;obtain⟨x1,rfl,w1⟩:=Cf7 (n:=n+1) g1;obtain⟨_,r2,rfl,g2,h3⟩:=h2;obtain⟨x2,rfl,w2⟩:=Cf7 (n:=n+1) g2;obtain⟨_,r3,rfl,g3,h4⟩:=h3;obtain⟨x3,rfl,w3⟩:=Ft6 (n:=n+0) g3;obtain⟨_,r4,rfl,g4,h5⟩:=h4;obtain⟨x4,rfl,w4⟩:=Ft7 (n:=n+0) g4;cases (show r4=[] from h5);exact⟨⟨x0,x1,x2,x3,x4⟩,rfl,⟨w0,w1,w2,w3,w4⟩⟩
def Gt0(x:List C9):Prop:=x.length<=maxLen/\∀y∈x,Fj4 y
theorem Gj1{n:Nat}{ds:List Dat}(h:Fit prog (n+4) 51 ds):∃x:List C9,ds=[.sl 8 (x.map B6)]/\Gt0 x:=by
 obtain⟨es,rfl,hl,he⟩:=Dh6 underlying51 (sz:=8) (by kernel_rfl) h;obtain⟨l,rfl,hq⟩:=Cm8 (en:=B6) (Q:=Fj4) (fun x hx=>Ft8 hx) es he;exact⟨l,rfl,by simpa using hl,hq⟩
def Gn3(x:B4):Prop:=wf5 x.States/\wf5 x.Owners/\wf5 x.Grain/\wf5 x.Cents/\Gt0 x.Picks
theorem Gj2{n:Nat}{ds:List Dat}(h:Fit prog (n+5) 53 ds):∃x:B4,ds=[.int .u8 x.States,.int .u8 x.Owners,.int .u8 x.Grain,.int .u8 x.Cents,.sl 8 (x.Picks.map B6)]/\Gn3 x:=by
 have h0:=Ad9 underlying53 h;obtain⟨_,r0,rfl,g0,h1⟩:=h0;obtain⟨x0,rfl,w0⟩:=Cf7 (n:=n+3) g0;obtain⟨_,r1,rfl,g1,h2⟩:=h1;obtain⟨x1,rfl,w1⟩:=Cf7 (n:=n+3) g1;obtain⟨_,r2,rfl,g2,h3⟩:=h2;obtain⟨x2,rfl,w2⟩:=Cf7 (n:=n+3) g2;obtain⟨_,r3,rfl,g3,h4⟩:=h3;obtain⟨x3,rfl,w3⟩:=Cf7 (n:=n+3) g3;obtain⟨_,r4,rfl,g4,h5⟩:=h4;obtain⟨x4,rfl,w4⟩:=Gj1 (n:=n+0) g4;cases (show r4=[] from h5);exact⟨⟨x0,x1,x2,x3,x4⟩,rfl,⟨w0,w1,w2,w3,w4⟩⟩
def wf3(x:Int):Prop:=(Lit.int .i64 x).wf=true
theorem Gi9{n:Nat}{ds:List Dat}(h:Fit prog (n+1) 3 ds):∃x:Int,ds=[.int .i64 x]/\wf3 x:=by
 exact Cd9 underlying3 h
def Gn2(x:List UInt8):Prop:=x.length<=maxLen
theorem Ft9{n:Nat}{ds:List Dat}(h:Fit prog (n+1) 23 ds):∃x:List UInt8,ds=[.str x]/\Gn2 x:=by
 exact Dh7 underlying23 h
def wf9(x:List UInt8):Prop:=x.length<=maxLen
theorem Gx2{n:Nat}{ds:List Dat}(h:Fit prog (n+1) 9 ds):∃x:List UInt8,ds=[.str x]/\wf9 x:=by
 exact Dh7 underlying9 h
def Gt1(x:C6):Prop:=wf5 x.What/\wf5 x.State/\wf5 x.At/\wf3 x.N/\Gn2 x.Q/\wf9 x.S
theorem Gj3{n:Nat}{ds:List Dat}(h:Fit prog (n+2) 55 ds):∃x:C6,ds=[.int .u8 x.What,.int .u8 x.State,.int .u8 x.At,.int .i64 x.N,.str x.Q,.str x.S]/\Gt1 x:=by
 have h0:=Ad9 underlying55 h;obtain⟨_,r0,rfl,g0,h1⟩:=h0;obtain⟨x0,rfl,w0⟩:=Cf7 (n:=n+0) g0;obtain⟨_,r1,rfl,g1,h2⟩:=h1;obtain⟨x1,rfl,w1⟩:=Cf7 (n:=n+0) g1;obtain⟨_,r2,rfl,g2,h3⟩:=h2;obtain⟨x2,rfl,w2⟩:=Cf7 (n:=n+0) g2;obtain⟨_,r3,rfl,g3,h4⟩:=h3;obtain⟨x3,rfl,w3⟩:=Gi9 (n:=n+0) g3;obtain⟨_,r4,rfl,g4,h5⟩:=h4;obtain⟨x4,rfl,w4⟩:=Ft9 (n:=n+0) g4;obtain⟨_,r5,rfl,g5,h6⟩:=h5;obtain⟨x5,rfl,w5⟩:=Gx2 (n:=n+0) g5;cases (show r5=[] from h6);exact⟨⟨x0,x1,x2,x3,x4,x5⟩,rfl,⟨w0,w1,w2,w3,w4,w5⟩⟩
def Gs9(x:Int):Prop:=(Lit.int .u64 x).wf=true
theorem Gj0{n:Nat}{ds:List Dat}(h:Fit prog (n+1) 40 ds):∃x:Int,ds=[.int .u64 x]/\Gs9 x:=by
 exact Cd9 underlying40 h
def Gt2(x:C8):Prop:=Gs9 x.Target/\wf3 x.N/\wf3 x.S/\Gn2 x.P
theorem Gj4{n:Nat}{ds:List Dat}(h:Fit prog (n+2) 57 ds):∃x:C8,ds=[.int .u64 x.Target,.int .i64 x.N,.int .i64 x.S,.str x.P]/\Gt2 x:=by
 have h0:=Ad9 underlying57 h;obtain⟨_,r0,rfl,g0,h1⟩:=h0;obtain⟨x0,rfl,w0⟩:=Gj0 (n:=n+0) g0;obtain⟨_,r1,rfl,g1,h2⟩:=h1;obtain⟨x1,rfl,w1⟩:=Gi9 (n:=n+0) g1;obtain⟨_,r2,rfl,g2,h3⟩:=h2;obtain⟨x2,rfl,w2⟩:=Gi9 (n:=n+0) g2;obtain⟨_,r3,rfl,g3,h4⟩:=h3;obtain⟨x3,rfl,w3⟩:=Ft9 (n:=n+0) g3;cases (show r3=[] from h4);exact⟨⟨x0,x1,x2,x3⟩,rfl,⟨w0,w1,w2,w3⟩⟩
theorem Fw7{d:B4}(h:Gn3 d):Aj0 d:=
 ⟨Cn8 h.1,Cn8 h.2.1,Cn8 h.2.2.1,Cn8 h.2.2.2.1,fun p hp=>by
  obtain⟨h1,h2,h3,⟨h4,h5,h6⟩,h7,h8⟩:=h.2.2.2.2.2 p hp;exact⟨Cn8 h1,Cn8 h2,Cn8 h3,Cn8 h4,Cn8 h5,Cn8 h6,Cn8 h7,Cn8 h8⟩⟩
theorem law(x0:B4)(x1:C6)(x2:C8)(h0:Gn3 x0)(h1:Gt1 x1)(h2:Gt2 x2)(q1:x1.Q.length<=1048576)(s1:x1.S.length<=1048576)(p2:x2.P.length<=1048576):∃fuel,F5 fuel x0 x1 x2=some true:=
 Ci9 (Fw7 h0) (Cn8 h1.2.1) (Cn8 h1.2.2.1) (by omega) (by omega) (Fs8 h2.1).1 (Fs8 h2.1).2
theorem own:ownKnob prog.godebug=none:=by kernel_rfl
theorem Ci8:laidOutB prog=true:=by kernel_rfl
theorem Gx8{W:World}(h0:laidMetH prog Rows.stepsLeastsRow.laid W)(hs:W.ShapedOpen prog):GlA (K6 W) W:=by
 have h:laidMet prog Rows.stepsLeastsRow.laid W:=by
  rw[MakeChecks.laidMetH_plain _ _ _ (by kernel_rfl)]at h0;exact h0
 have all:∀n cs,gl n=some cs->(∃us,W1 (K6 W) n 0 us/\D2 (K6 W) cs us)/\∃c e z,W.heap[n]? =some (.cells c e z)/\c.size=cs.length:=fun n cs e=>by
  refine Cq9 (Q:=fun n cs=>(∃us,W1 (K6 W) n 0 us/\D2 (K6 W) cs us)/\∃c e z,W.heap[n]? =some (.cells c e z)/\c.size=cs.length) ?_ e;show _/\_/\_/\_/\_/\True;exact⟨Dp3 h 0 (g:=4) (t:=338) (e:=5) rfl (by kernel_rfl) (by kernel_rfl) underlying338 (by kernel_rfl) (by kernel_rfl) (by kernel_rfl) (by kernel_rfl),
   Dp3 h 1 (g:=5) (t:=339) (e:=5) rfl (by kernel_rfl) (by kernel_rfl) underlying339 (by kernel_rfl) (by kernel_rfl) (by kernel_rfl) (by kernel_rfl),
   Dp3 h 2 (g:=3) (t:=310) (e:=39) rfl (by kernel_rfl) (by kernel_rfl) underlying310 (by kernel_rfl) (by kernel_rfl) (by kernel_rfl) (by kernel_rfl),
   Eq1 h 4 (g:=1) (t:=203) rfl (by kernel_rfl) (by kernel_rfl) (by kernel_rfl) rfl,
   Eq1 h 3 (g:=2) (t:=203) rfl (by kernel_rfl) (by kernel_rfl) (by kernel_rfl) rfl,
   trivial⟩
 refine⟨⟨fun n cs e=>(all n cs e).1,fun n k e=> ?_⟩,fun n cs e=>(all n cs e).2⟩
 .simp only[gxT,mem_cons,mem_nil_iff,or_false,Prod.mk.injEq]at e;obtain⟨rfl,rfl⟩:=e;exact Gx7 hs (zero:= #[.int .i64 0]) (t:=3) (of_decide_eq_true (by kernel_rfl)) (by kernel_rfl) (by kernel_rfl) (by kernel_rfl) underlying3 (by kernel_rfl)
theorem Fv9(os:Os)(started:os.Started)(H:Type)(enc:TypeId×Value->H)(F:Stop.Interp):
 ReturnsInHanded {} Tryz.checked os 5 .any ((Rows.OpenSpec.upto Rows.stepsLeastsSpec).preRow enc prog f5 Rows.stepsLeastsUptoRow.domain false Rows.stepsLeastsUptoRow.laid)
  (((Rows.OpenSpec.upto Rows.stepsLeastsSpec).at F).post enc prog f5 false true false false):=by
 refine returnsInHanded_of_row (C:=Tryz.checked) (s:=Rows.OpenSpec.upto Rows.stepsLeastsSpec) own started (by kernel_rfl) func5
  (Ej3 (enc:=enc) (C:=Tryz.checked) (os:=os) (s:=Rows.OpenSpec.upto Rows.stepsLeastsSpec) (k:=Rows.uptoSmall) rfl (World.laidAll prog os Rows.stepsLeastsUptoRow.laid) #[.agg #[.int .u8 0,.int .u8 0,.int .u8 0,.int .u8 0,.slice none 0 0],.agg #[.int .u8 0,.int .u8 0,.int .u8 0,.int .i64 0,.string ByteArray.empty,.string ByteArray.empty],.agg #[.int .u64 0,.int .i64 0,.int .i64 0,.string ByteArray.empty]] 8 (World.laidAll_os _ _ _)
   (World.shaped_of_ZipB (by kernel_rfl) (by kernel_rfl)) (by kernel_rfl) (by kernel_rfl) (by kernel_rfl)
   (by rw[MakeChecks.laidMetH_plain _ _ _ (by kernel_rfl)];exact laidMet_laidAll _ (by kernel_rfl) (by kernel_rfl))) ?_
 intro W base args ds gs before hval0 hW hcnd hk_ _ hlaid hshape _;have hgl:GlA (K6 W) W:=Gx8 hlaid hshape;have hk_:=hk_ _ rfl;have hval:∀(j:Nat) t v,f5.params[j]? =some t->args[j]? =some v->Value.okWide prog W .any base t v:=hval0;have hW':=hW;obtain⟨p,q,hA0,hV,rfl,hfz,hnd⟩:=hW;have hA:DataW.TrodAll enc prog W 0 (fun _=>true) true f5.params.toList args.toList ds p:=hA0;rw[Tryz.params5]at hA hval;obtain⟨v0,vs0,d0,ds0,p0,q0,hargs,rfl,rfl,h0,r0⟩:=trodAll_cons hA;obtain⟨v1,vs1,d1,ds1,p1,q1,rfl,rfl,rfl,h1,r1⟩:=trodAll_cons r0;obtain⟨v2,vs2,d2,ds2,p2,q2,rfl,rfl,rfl,h2,r2⟩:=trodAll_cons r1;obtain⟨rfl,rfl,rfl⟩:=trodAll_nil r2;obtain rfl:args= #[v0,v1,v2]:=by cases args;simp_all
 obtain⟨rfl,rfl⟩:=trodVars_none hV;have k0:=h0;have lt0:∀x∈p0,x.block<W.heap.size:=by obtain⟨m,hm⟩:=k0;exact DataW.trod_lt m _ _ _ hm
 obtain⟨c0,rfl⟩:=Dt3 underlying53 (hval 0 53 v0 rfl rfl);obtain⟨m0,hm0⟩:=k0;obtain⟨ds0,hr0,hf0⟩:=Af8 5 53 m0 _ _ (by kernel_rfl) hm0;obtain⟨x0,rfl,wf0_⟩:=Gj2 (n:=0) hf0;have rel0:B8 (K6 W) noR (.agg (dV [.int .u8 x0.States,.int .u8 x0.Owners,.int .u8 x0.Grain,.int .u8 x0.Cents,.sl 8 (x0.Picks.map B6)])) _:=Bd0 hr0;have k1:=h1;have lt1:∀x∈p1,x.block<W.heap.size:=by obtain⟨m,hm⟩:=k1;exact DataW.trod_lt m _ _ _ hm
 obtain⟨c1,rfl⟩:=Dt3 underlying55 (hval 1 55 v1 rfl rfl);obtain⟨m1,hm1⟩:=k1;obtain⟨ds1,hr1,hf1⟩:=Af8 2 55 m1 _ _ (by kernel_rfl) hm1;obtain⟨x1,rfl,wf1_⟩:=Gj3 (n:=0) hf1;have Ge4:B8 (K6 W) noR (.agg (dV [.int .u8 x1.What,.int .u8 x1.State,.int .u8 x1.At,.int .i64 x1.N,.str x1.Q,.str x1.S])) _:=Bd0 hr1;have k2:=h2;have lt2:∀x∈p2,x.block<W.heap.size:=by obtain⟨m,hm⟩:=k2;exact DataW.trod_lt m _ _ _ hm
 obtain⟨c2,rfl⟩:=Dt3 underlying57 (hval 2 57 v2 rfl rfl);obtain⟨m2,hm2⟩:=k2;obtain⟨ds2,hr2,hf2⟩:=Af8 2 57 m2 _ _ (by kernel_rfl) hm2;obtain⟨x2,rfl,wf2_⟩:=Gj4 (n:=0) hf2;have Gm2:B8 (K6 W) noR (.agg (dV [.int .u64 x2.Target,.int .i64 x2.N,.int .i64 x2.S,.str x2.P])) _:=Bd0 hr2;have hbk:=of_decide_eq_true (p:=Rows.uptoBulkAll (H:=H) _<=1048576) hk_;simp only[append_nil,Rows.uptoBulkAll]at hbk;have hb1_4:x1.Q.length<=1048576:=by have:=Br1 (s:=x1.Q) 4 underlying55 hm1 hr1 rfl underlying23 (by kernel_rfl) rfl;omega
 have hb1_5:x1.S.length<=1048576:=by have:=Br1 (s:=x1.S) 5 underlying55 hm1 hr1 rfl underlying9 (by kernel_rfl) rfl;omega
 have hb2_3:x2.P.length<=1048576:=by have:=Br1 (s:=x2.P) 3 underlying57 hm2 hr2 rfl underlying23 (by kernel_rfl) rfl;omega
 obtain⟨fuel,hF⟩:=law x0 x1 x2 wf0_ wf1_ wf2_ hb1_4 hb1_5 hb2_3;clear hA0 hval0;refine(Gg0 hF (K6 W) W [_,_,_] (Cx0 W) hgl (by simp only[B2];exact⟨_,_,rfl,rel0,⟨_,_,rfl,Ge4,⟨_,_,rfl,Gm2,rfl⟩⟩⟩)).mono fun e W' hE=> ?_
 obtain⟨u,M',rfl,hext,hv⟩:=hE;have bel:=hext.below;have hv:=I7 hv;cases hv;show∃v,Ending.returned _= .returned v/\Rows.stepsLeastsSpec.post enc prog f5 false true false false W _ v W';exact⟨_,rfl,_,_,_,[],_,[],hW',trodAll_mk1 (shut_bool underlying4 _),(trodAll_cons_mk (Below.trod Ci8 (by kernel_rfl) (of_decide_eq_true (by kernel_rfl)) ⟨_,hm0⟩ bel lt0) (trodAll_cons_mk (Below.trod Ci8 (by kernel_rfl) (of_decide_eq_true (by kernel_rfl)) ⟨_,hm1⟩ bel lt1) (trodAll_cons_mk (Below.trod Ci8 (by kernel_rfl) (of_decide_eq_true (by kernel_rfl)) ⟨_,hm2⟩ bel lt2) trodAll_mk0))),rfl,bel.frame _,fun h=>by cases h⟩
theorem Dt2:(Rows.stepsLeastsUptoRow.inPlace==Tryz.pinned.checked.prog.inPlace 5)=true:=by kernel_rfl
theorem By4:(Rows.stepsLeastsUptoRow.unfollowed==Tryz.pinned.checked.prog.unfollowed 5)=true:=by kernel_rfl
theorem Da4:(Rows.stepsLeastsUptoRow.recurses==Tryz.pinned.checked.prog.recurses 5)=true:=by kernel_rfl
theorem Ff8:(Rows.stepsLeastsUptoRow.named==Tryz.pinned.checked.prog.varsNamed 5)=true:=by kernel_rfl
theorem Fb9:joinedFacts Tryz.pinned.checked.prog 5 f5 (Rows.OpenSpec.upto Rows.stepsLeastsSpec).bare Rows.stepsLeastsUptoRow=true:=by
 unfold joinedFacts;rw[Dt2,By4,Da4,Ff8];kernel_rfl
theorem Gy2:Rows.stepsLeastsUptoRow.holds Tryz.pinned (Rows.OpenSpec.upto Rows.stepsLeastsSpec):=
 OpenClaim.holds_of_cond 5 f5 rfl rfl rfl rfl rfl rfl rfl ⟨rfl,rfl,rfl,rfl,rfl⟩ rfl rfl rfl rfl rfl (by kernel_rfl) func5 Fb9
  (of_decide_eq_true (by kernel_rfl)) (by unfold Func.isWrapper;first|(rw[if_pos (by decide+kernel)];kernel_rfl)|(rw[if_neg (by decide+kernel)];exact⟨rfl,rfl⟩))
  (fun os started H enc _ F=>by rw[OpenClaim.pre_eq_preRow];exact Fv9 os started H enc F)
theorem proved:Rows.StepsLeastsUptoCardSaid:=
 Claim7.holds_tied_plain_at .later [] [.data,.data,.data,.sentinel,.sentinel] true (true, "502f4c70369b75b0d817dcaec3831be972de460fbc89e4c07d93a27f2ee98cfe") true Gy2 (fun _ h=>by cases h) (by kernel_rfl) (fun _ h=>by cases h) stepsLeastsUpto_row_tie rfl ⟨rfl,rfl⟩ (by kernel_rfl) rfl
  (fun f fn hf hfn=>by
   obtain rfl:f=5:=av_ ((show prog.funcNamed "croupier/croupierlaw21.StepsLeasts" =some 5 by kernel_rfl).symm.trans hf)|>.symm;obtain rfl:fn=f5:=(av_ (func5.symm.trans hfn)).symm;exact⟨by kernel_rfl,fun j t ht=>by
    rw[Tryz.params5]at ht;have hm:t∈[53,55,57]:=by simpa using Array.mem_of_getElem? ht
    have hall:([53,55,57].all fun u=> !prog.wantsStandIn u)=true:=by kernel_rfl
    exact(show prog.wantsStandIn t=false by simpa using List.all_eq_true.1 hall t hm)⟩)
  (by kernel_rfl)
#print axioms proved
end
end Go.Proofs.YtfgbhfphjmmiaaaGreatDoor.stepsLeasts
end
