/- One part of the texts that lead to the theorem; it claims nothing by itself. -/
import Derived.Test.YtfgbhfphjmmiaaaGreatDoorGae
open List
section
namespace Go.Proofs.YtfgbhfphjmmiaaaGreatDoor
open Go Go.RowKit Kx Go.IntKind
set_option maxRecDepth 100000
section
theorem hB4:(1:Int)<10000:=by decide
theorem Ed1{l:List Int}(h:dig 10000 l){i:Nat}(hi:i<l.length):0<=l[i]/\l[i]<10000:=Dl6 h hi
theorem Cl3{l:List Int}{i:Nat}(hi:i<l.length):val 10000 (l.drop i)=l[i]+10000*val 10000 (l.drop (i+1)):=Aw1 hi
theorem T5{l:List Int}{i:Nat}(hi:l.length<=i):val 10000 (l.drop i)=0:=by rw[ag_ hi];rfl
theorem Dy4(x:Int)(l:List Int):val 10000 (x::l)=x+10000*val 10000 l:=rfl
theorem Fi3:(10:Int)^4=10000:=by decide
theorem En4:∀(k:Nat) (l:List Int),l.length<k->l.length<=2147483648->Ax4 k l=some (Bd5 l)
 |0,l,h,_=>absurd h (by omega)
 |k+1,l,h,hl=>by
  unfold Ax4;rcases eq_nil_or_concat l with rfl|⟨m,y,rfl⟩
  .simp[Bd5]
  .rw[concat_eq_append]at*;simp only[length_append,length_cons,length_nil]at h hl;have hw:i64.wrap ((((m++[y]).map A3).length:Int)-1)=((m.length:Nat):Int):=by
    rw[length_map,length_append];simp only[length_cons,length_nil];rw[E3 (by omega) (by omega)];omega
   have hg:C2 (m++[y]) ((m.length:Nat):Int)=some y:=by rw[D3];simp
   have hp:decide ((((m++[y]).map A3).length:Int)>0)=true:=dT_ (by rw[length_map,length_append];simp);rw[hp,hw,hg];simp only[cond_true,sb];by_cases hy:y=0
   .subst hy;simp only[beq_self_eq_true,cond_true];rw[Fh8 (by simp),sb,bq_,En4 k m (by omega) (by omega),As0]
   .have:(y==0)=false:=by simpa using hy
    simp only[this,cond_false];rw[Am7 hy]
theorem Fl0{fuel:Nat}{l:List Int}(hd:dig 10000 l)(hl:l.length<=2147483648)(hf:l.length<fuel):Dz3 fuel l=some (dg 10000 (val 10000 l)):=by
 unfold Dz3;rw[En4 fuel l hf hl,Bd6 hB4 hd]
theorem Fx2{s:List UInt8}{acc:List Int}{e:Nat}{rec_:Int->List Int->Option (List Int)}(hs:∀c∈s,48<=c.toNat/\c.toNat<=57)(he:e<=s.length)(hb:e<=2000000000):∀(r i k:Nat) (a:Int),i+r=e->r<k->r<=4->0<=a->a<10^(4-r)->
 Aa5 s acc (e:Int) rec_ k a (i:Int)=(app acc [fv a ((s.drop i).take r)]).bind fun l10=>rec_ (i64.wrap ((e:Int)-4)) l10
 |0,i,0,_,_,h,_,_,_=>absurd h (by omega)
 |r+1,i,0,_,_,h,_,_,_=>absurd h (by omega)
 |0,i,k+1,a,hi,_,_,_,_=>by
  unfold Aa5;rw[dF_ (by omega)];simp only[cond_false,take_zero,fv]
 |r+1,i,k+1,a,hi,hk,hr,h0,h1=>by
  have hil:i<s.length:=by omega
  have hc:=hs s[i] (af_ hil);have h3:(10:Int)^(4-(r+1))<=1000:=by
   have:=E8 h10 (show 4-(r+1)<=3 by omega);have:(10:Int)^3=1000:=by decide
   omega
  unfold Aa5;rw[dT_ (show(i:Int)<(e:Int) by omega),C3 hil];simp only[cond_true,sb];have wu8:∀{x:Int},0<=x->x<256->IntKind.u8.wrap x=x:=fun{x} h h'=>by
   have e8:(2^IntKind.u8.bits:Int)=256:=rfl;unfold IntKind.wrap;simp only[e8,show IntKind.u8.signed=false from rfl,Bool.false_and];rw[if_neg (by decide)];exact bd_ h h'
  rw[wu8 (x:=(s[i].toNat:Int)-48) (by omega) (by omega),E3 (i:=(s[i].toNat:Int)-48) (by omega) (by omega),E3 (i:=10*a) (by omega) (by omega),E3 (i:=10*a+((s[i].toNat:Int)-48)) (by omega) (by omega),wi i (by omega)];have h4:(10:Int)^(4-r)=10*10^(4-(r+1)):=by rw[<-O4];congr 1;omega
  rw[Fx2 hs he hb r (i+1) k _ (by omega) (by omega) (by omega) (by omega) (by rw[h4];omega),ai_ hil,take_succ_cons,fv]
theorem Fx1{fuel:Nat}{y1:List UInt8}(hs:∀c∈y1,48<=c.toNat/\c.toNat<=57)(hf:2000000010<fuel)(hb:y1.length<=1000000000):∀(k:Nat) (l:List Int) (t:List UInt8) (acc:List Int),dig 10 l->y1=ltr l++t->l.length<k->acc.length+l.length<=2000000000->dig 10000 acc->
 U6 fuel y1 k (l.length:Int) acc=some (dg 10000 (val 10000 acc+10000^acc.length*val 10 l))
 |0,_,_,_,_,_,h,_,_=>absurd h (by omega)
 |k+1,l,t,acc,hd,hy,hk,hacc,hda=>by
  have hylen:y1.length=l.length+t.length:=by rw[hy,length_append,K2]
  unfold U6;by_cases h0:l.length=0
  .have:l=[]:=a1_ h0;subst this;rw[dF_ (by simp)];simp only[cond_false];rw[Fl0 hda (by omega) (by omega),sb];simp[val]
  .rw[dT_ (show(l.length:Int)>0 by omega),E3 (i:=(l.length:Int)-4) (by omega) (by omega)];simp only[cond_true];have hst:(bif decide ((l.length:Int)-4>0) then(l.length:Int)-4 else 0)=((l.drop 4).length:Int):=by
    rw[length_drop];by_cases h:(l.length:Int)-4>0
    .rw[dT_ h];simp only[cond_true];omega
    .rw[dF_ h];simp only[cond_false];omega
   have hdl:(l.drop 4).length+(l.take 4).length=l.length:=by rw[length_drop,length_take];omega
   have ht4:(l.take 4).length<=4:=by rw[length_take];omega
   rw[hst,Fx2 hs (by omega) (by omega) (l.take 4).length (l.drop 4).length fuel 0 (by omega) (by omega) ht4 (by omega) (Q7 (by decide) _)];have hp:(y1.drop (l.drop 4).length).take (l.take 4).length=ltr (l.take 4):=by
    have e:ltr l=ltr (l.drop 4)++ltr (l.take 4):=by rw[<-S5,ao_]
    have e2:(l.drop 4).length=(ltr (l.drop 4)).length:=by rw[K2]
    have e3:(l.take 4).length=(ltr (l.take 4)).length:=by rw[K2]
    rw[hy,e,e2,e3,List.append_assoc,b1_,bq_]
   rw[hp];have hv:=Bw7 (l.take 4) (F2 hd 4) 0;rw[Int.zero_mul,c6_]at hv;have hv0:=M3 (show(0:Int)<10 by decide) (F2 hd 4);have hv1:val 10 (l.take 4)<10000:=by
    have h1:=An4 (show(0:Int)<10 by decide) (F2 hd 4);have h2:=E8 h10 ht4;rw[Fi3]at h2;omega
   rw[hv,T8 _ _ (by simp;omega),sb];have hda':dig 10000 (acc++[val 10 (l.take 4)]):=Ah9.2 ⟨hda,E1.2 ⟨⟨hv0,hv1⟩,J2⟩⟩;have hva:val 10000 (acc++[val 10 (l.take 4)])=val 10000 acc+10000^acc.length*val 10 (l.take 4):=by rw[Ai7];simp[val]
   by_cases h9:l.length<=4
   .have ht9:l.take 4=l:=ap_ h9;rw[ht9]at hda' hva⊢;rw[E3 (by omega) (by omega)];obtain⟨k',rfl⟩:∃k',k=k'+1:=⟨k-1,by omega⟩
    unfold U6;rw[dF_ (show¬(l.length:Int)-4>0 by omega)];simp only[cond_false];rw[Fl0 hda' (by simp;omega) (by simp;omega),sb,hva]
   .have e9:(l.length:Int)-4=((l.drop 4).length:Int):=by rw[length_drop];omega
    rw[E3 (by omega) (by omega),e9,Fx1 hs hf hb k (l.drop 4) (ltr (l.take 4)++t) _ (L5 hd 4) (by rw[hy,<-List.append_assoc,<-S5,ao_]) (by rw[length_drop];omega) (by rw[length_append,length_drop];simp;omega) hda',hva];have hvs:val 10 l=val 10 (l.take 4)+10^4*val 10 (l.drop 4):=T4 (B:=10) l 4 (by omega);rw[hvs,Fi3,length_append,length_cons,length_nil,a3_];congr 2;generalize (10000:Int)^acc.length=X;grind
theorem Fx0{r:List UInt8}{acc:List Int}{v:Int}{rec_:Int->List Int->Option (List Int)}:∀(k:Nat),Aw6 (45::r) acc v rec_ k=Aa5 r acc v rec_ k
 |0=>by funext a i;rfl
 |k+1=>by
  funext a i;unfold Aw6 Aa5;rw[Fx0 k];have:(((45::r).drop (Int.toNat 1)).take (Int.toNat (((45::r).length:Int)-1)))=r:=by simp
  rw[this]
theorem Fw9{fuel:Nat}{r:List UInt8}:∀(k:Nat),Ao1 fuel (45::r) k=U6 fuel r k
 |0=>by funext v l;rfl
 |k+1=>by
  funext v l;unfold Ao1 U6;rw[Fw9 k,Fx0]
theorem Dx8{n:Int}:∃c s,tx n=c::s/\((c.toNat:Int)==45)=decide (n<0)/\(n<0->c=45/\s=dtx (-n))/\(¬n<0->c::s=dtx n):=by
 by_cases h:n<0
 .exact⟨45,dtx (-n),if_pos h,by rw[dT_ h];rfl,fun _=>⟨rfl,rfl⟩,fun h'=>absurd h h'⟩
 .have ht:tx n=dtx n:=if_neg h;cases hd:dtx n with
  |nil=>exact absurd hd Bi5
  |cons c s=>
   have hc:=H2 (show 0<=n by omega) c (by rw[hd];exact ab_);refine⟨c,s,by rw[ht,hd],?_,fun h'=>absurd h' h,fun _=>rfl⟩;rw[dF_ h,beq_eq_false_iff_ne];omega
theorem Ag3{n:Int}:Bk2 (tx n)=some (decide (n<0)):=by
 obtain⟨c,s,e,h1,_,_⟩:=Dx8 (n:=n);unfold Bk2;rw[e,show C2 (c::s) 0=some c from rfl,sb,h1]
def d4(n:Int):List Int:=dg 10000 (n.natAbs:Int)
theorem Ar4{fuel:Nat}{n:Int}(hl:(tx n).length<=1000000000)(hf:2000000010<fuel):Cc0 fuel (tx n)=some (d4 n):=by
 have key:∀x:Int,0<=x->(dtx x).length<=1000000000->U6 fuel (dtx x) fuel ((dtx x).length:Int) []=some (dg 10000 x):=by
  intro x hx h1;have hll:(dtx x).length=(dg0 x).length:=by rw[Bn2,K2]
  have:=Fx1 (fuel:=fuel) (H2 hx) hf h1 fuel (dg0 x) [] [] Dl4 (by rw[Bn2];simp) (by omega) (by simp;omega) J2;rw[<-hll,Dl5 hx]at this;rw[this];simp[val]
 obtain⟨c,s,e,h1,h2,h3⟩:=Dx8 (n:=n);unfold Cc0;rw[e]at hl⊢;rw[show C2 (c::s) 0=some c from rfl,sb,h1];by_cases hn:n<0
 .rw[dT_ hn];obtain⟨rfl,rfl⟩:=h2 hn;simp only[cond_true];rw[D1 (by simp;omega),Fw9];have:(((45::dtx (-n)).drop (Int.toNat 1)).take (Int.toNat (((45::dtx (-n)).length:Int)-1)))=dtx (-n):=by simp
  rw[this,key (-n) (by omega) (by simp at hl;omega)];unfold d4;rw[show((n.natAbs:Nat):Int)= -n by omega]
 .rw[dF_ hn];simp only[cond_false];have h3:=h3 hn;rw[h3]at hl⊢;rw[key n (by omega) hl];unfold d4;rw[show((n.natAbs:Nat):Int)=n by omega]
theorem Gh9{d u:Int}(h0:0<=d)(h1:d<10000)(hu:0<u):IntKind.u8.wrap (i64.wrap (48+(Int.tmod (i64.wrap (Int.tdiv d u)) 10)))=toI (chr (d/u%10)):=by
 have h2:=a5_ h0 (aj_ hu);have h3:d/u<=d:=b9_ _ h0;have wu8:∀{x:Int},0<=x->x<256->IntKind.u8.wrap x=x:=fun{x} h h'=>by
  have e8:(2^IntKind.u8.bits:Int)=256:=rfl;unfold IntKind.wrap;simp only[e8,show IntKind.u8.signed=false from rfl,Bool.false_and];rw[if_neg (by decide)];exact bd_ h h'
 rw[(tdm h0).1,E3 (i:=d/u) (by omega) (by omega),(tdm h2).2,E3 (by omega) (by omega),wu8 (by omega) (by omega)];exact(Az0 (by omega) (by omega)).symm
theorem Ad4{dl:List Int}{v7 d u:Int}{rec_:Int->List Int->Option (List UInt8)}{k:Nat}{acc:List UInt8}(hg:C2 dl v7=some d)(h0:0<=d)(h1:d<10000)(hu:0<u)(hu1:u<=1000)(hb:acc.length<=2147483640):
 P9 dl v7 rec_ (k+1) u (acc.map toI)=P9 dl v7 rec_ k (u/10) ((acc++(if acc=[]/\d/u%10=0 then[] else[chr (d/u%10)])).map toI):=by
 rw[P9];rw[dT_ (show u>0 from hu),hg];simp only[cond_true,sb];rw[D1 (by simp;omega),Gh9 h0 h1 hu];unfold Aw5;rw[(tdm (aj_ hu)).1,E3 (i:=u/10) (by omega) (by omega)];have hc:((toI (chr (d/u%10))) !=48)=decide (d/u%10≠0):=by
  have:=Az0 (x:=d/u%10) (by omega) (by omega);unfold toI;rw[this];by_cases h:d/u%10=0
  .rw[h];rfl
  .rw[dT_ h];simp;omega
 rw[hc,length_map,length_map];by_cases ha:acc=[]
 .subst ha;rw[show decide (((([]:List UInt8).length:Nat):Int)>0)=false from rfl];simp only[cond_false,sb];by_cases hz:d/u%10=0
  .rw[dF_ (by simpa using hz),if_pos ⟨trivial,hz⟩];simp
  .rw[dT_ hz,if_neg (fun h=>hz h.2)];simp only[cond_true];rw[T8 _ _ (by simp),sb];rfl
 .rw[dT_ (show(acc.length:Int)>0 by have:=as_.2 ha;omega),if_neg (fun h=>ha h.1)];simp only[cond_true,sb];rw[T8 _ _ (by simp;omega),sb];simp
theorem Es8{dl:List Int}{v7:Int}{rec_:Int->List Int->Option (List UInt8)}{k:Nat}{acc:List Int}:P9 dl v7 rec_ (k+1) 0 acc=rec_ (i64.wrap (v7-1)) acc:=by
 rw[P9];rfl
theorem Bz5{d:Int}(_:0<=d):ltr (pd 4 d)=[chr (d/1000%10),chr (d/100%10),chr (d/10%10),chr (d/1%10)]:=by
 simp only[pd,ltr,reverse_cons,reverse_nil,nil_append,cons_append,map_cons,map_nil];rw[show d/10/10/10=d/1000 by omega,show d/10/10=d/100 by omega,show d/1=d by omega]
theorem Fj0{dl:List Int}{v7 d:Int}{rec_:Int->List Int->Option (List UInt8)}{k:Nat}{acc:List UInt8}(hg:C2 dl v7=some d)(h0:0<=d)(h1:d<10000)(hb:acc.length<=2147483600)(ha:acc≠[])(hk:6<k):
 P9 dl v7 rec_ k 1000 (acc.map toI)=rec_ (i64.wrap (v7-1)) ((acc++ltr (pd 4 d)).map toI):=by
 obtain⟨k,rfl⟩:∃j,k=j+5:=⟨k-5,by omega⟩
 have hne:∀(x:List UInt8) (y:UInt8),¬(x++[y]=[]/\True):=fun x y h=>by simp at h
 rw[Ad4 hg h0 h1 (by decide) (by decide) (by omega),if_neg (fun h=>ha h.1)];rw[Ad4 hg h0 h1 (by decide) (by decide) (by simp;omega),if_neg (fun h=>by simp at h)];rw[Ad4 hg h0 h1 (by decide) (by decide) (by simp;omega),if_neg (fun h=>by simp at h)];rw[Ad4 hg h0 h1 (by decide) (by decide) (by simp;omega),if_neg (fun h=>by simp at h)];rw[show(1000:Int)/10/10/10/10=0 by decide,Es8,Bz5 h0];rw[show(1000:Int)/10/10/10=1 by decide,show(1000:Int)/10/10=10 by decide,show(1000:Int)/10=100 by decide];simp
theorem Ej5{dl:List Int}{v7 d:Int}{rec_:Int->List Int->Option (List UInt8)}{k:Nat}(hg:C2 dl v7=some d)(h0:0<d)(h1:d<10000)(hk:6<k):
 P9 dl v7 rec_ k 1000 []=rec_ (i64.wrap (v7-1)) ((dtx d).map toI):=by
 obtain⟨k,rfl⟩:∃j,k=j+5:=⟨k-5,by omega⟩
 have hp:=Ff6 4 d (by omega) (by rw[Fi3];exact h1);have hd:∀z:Nat,4-(dg 10 d).length=z->ltr (pd 4 d)=List.replicate z 48++dtx d:=fun z hz=>by
  have hr:∀n,ltr (List.replicate n (0:Int))=List.replicate n 48:=fun n=>by
   unfold ltr;rw[List.reverse_replicate,cb_];rfl
  rw[hp,S5,hr,L7 h0,hz]
 rw[show([]:List Int)=([]:List UInt8).map toI from rfl];rw[Ad4 hg (by omega) h1 (by decide) (by decide) (by simp)];rw[Ad4 hg (by omega) h1 (by decide) (by decide) (by split<;>simp)];rw[Ad4 hg (by omega) h1 (by decide) (by decide) (by split<;>split<;>simp)];rw[Ad4 hg (by omega) h1 (by decide) (by decide) (by split<;>split<;>split<;>simp)];rw[show(1000:Int)/10/10/10/10=0 by decide,Es8];rw[show(1000:Int)/10/10/10=1 by decide,show(1000:Int)/10/10=10 by decide,show(1000:Int)/10=100 by decide];congr 2;have hlen:∀z:Nat,10^(3-z)<=d->d<10^(4-z)->z<=3->4-(dg 10 d).length=z:=fun z ha hb hz=>by
  have a:=Cp1 hb;have b:3-z<(dg 10 d).length:=by
   rcases bc_ (3-z) (dg 10 d).length with h|h
   .exact h
   .have:=Ah8 h10 (show 0<=d by omega);have:=E8 h10 h;omega
  omega
 have e0:(10:Int)^0=1:=by decide
 have e1:(10:Int)^1=10:=by decide
 have e2:(10:Int)^2=100:=by decide
 have e3:(10:Int)^3=1000:=by decide
 by_cases c3:1000<=d
 .have:=hd 0 (hlen 0 (by show(10:Int)^3<=d;omega) (by show d<(10:Int)^4;rw[Fi3];omega) (by omega));rw[Bz5 (by omega)]at this;rw[if_neg (by intro h;omega),if_neg (by intro h;simp at h),if_neg (by intro h;simp at h),if_neg (by intro h;simp at h)];simpa using this
 .by_cases c2:100<=d
  .have:=hd 1 (hlen 1 (by show(10:Int)^2<=d;omega) (by show d<(10:Int)^3;omega) (by omega));rw[Bz5 (by omega),show d/1000%10=0 by omega]at this;rw[if_pos ⟨rfl,by omega⟩,if_neg (by intro h;omega),if_neg (by intro h;simp at h),if_neg (by intro h;simp at h)];have:=(cl_ this).2;simpa using this
  .by_cases c1:10<=d
   .have:=hd 2 (hlen 2 (by show(10:Int)^1<=d;omega) (by show d<(10:Int)^2;omega) (by omega));rw[Bz5 (by omega),show d/1000%10=0 by omega,show d/100%10=0 by omega]at this;rw[if_pos ⟨rfl,by omega⟩,if_pos ⟨rfl,by omega⟩,if_neg (by intro h;omega),if_neg (by intro h;simp at h)];have:=(cl_ (cl_ this).2).2;simpa using this
   .have:=hd 3 (hlen 3 (by show(10:Int)^0<=d;omega) (by show d<(10:Int)^1;omega) (by omega));rw[Bz5 (by omega),show d/1000%10=0 by omega,show d/100%10=0 by omega,show d/10%10=0 by omega]at this;rw[if_pos ⟨rfl,by omega⟩,if_pos ⟨rfl,by omega⟩,if_pos ⟨rfl,by omega⟩,if_neg (by intro h;omega)];have:=(cl_ (cl_ (cl_ this).2).2).2;simpa using this
def Cj7:List Int->List Int
 |[]=>[]
 |x::l=>pd 4 x++Cj7 l
theorem Ct0:∀(l m:List Int),Cj7 (l++m)=Cj7 l++Cj7 m
 |[],m=>rfl
 |x::l,m=>by rw[cons_append,Cj7,Cj7,Ct0 l m,List.append_assoc]
theorem Bv0:∀(l:List Int) (y:Int),dig 10000 l->0<y->y<10000->dg 10 (val 10000 (l++[y]))=Cj7 l++dg 10 y/\0<val 10000 (l++[y])
 |[],y,_,h0,h1=>by simp[val,Cj7,h0]
 |x::l,y,hd,h0,h1=>by
  have hd:=E1.1 hd;obtain⟨e1,e2⟩:=Bv0 l y hd.2 h0 h1;rw[cons_append,Dy4];refine⟨?_,by omega⟩;have:=Fb4 4 x (val 10000 (l++[y])) hd.1.1 (by rw[Fi3];exact hd.1.2) e2;rw[Fi3]at this;rw[this,e1,Cj7,List.append_assoc]
theorem Fz4{fuel:Nat}{neg:Bool}{dl:List Int}(hd:dig 10000 dl)(hf:10<fuel)(hb:dl.length<=400000000):∀(i k:Nat) (acc:List UInt8),i<=dl.length->i<k->acc≠[]->acc.length+4*i<=2000000000->
 X4 fuel neg dl k ((i:Int)-1) (acc.map toI)=some (bif neg then 45::(acc++ltr (Cj7 (dl.take i))) else acc++ltr (Cj7 (dl.take i)))
 |0,0,_,_,h,_,_=>absurd h (by omega)
 |i+1,0,_,_,h,_,_=>absurd h (by omega)
 |0,k+1,acc,_,_,ha,hacc=>by
  unfold X4;rw[dF_ (by omega)];simp only[cond_false];have ht:(acc.map toI).map toB=acc:=Dx6 acc;rw[ht];cases neg
  .simp[Cj7,ltr]
  .simp only[cond_true];rw[D1 (by simp;omega)];simp[Cj7,ltr]
 |i+1,k+1,acc,hi,hk,ha,hacc=>by
  obtain⟨a1,a2⟩:=Ed1 hd (show i<dl.length by omega);unfold X4;rw[show(((i+1:Nat):Int)-1)=(i:Int) by omega,dT_ (show(i:Int)>=0 by omega)];simp only[cond_true];have hpl:(ltr (pd 4 dl[i])).length=4:=by rw[K2,Cs9]
  rw[Fj0 (C3 (show i<dl.length by omega)) a1 a2 (by omega) ha (by omega),wip i (by omega),Fz4 hd hf hb i k _ (by omega) (by omega) (by simp[ha]) (by rw[length_append,hpl];omega),b0_ (by omega),Ct0,S5,List.append_assoc];simp[Cj7]
theorem Bd7{fuel:Nat}{neg:Bool}{x:Int}(hx:0<=x)(hl:(dg 10000 x).length<=400000000)(hf:500000000<fuel):Dz0 fuel neg (dg 10000 x)=some (tx (sg neg x)):=by
 unfold Dz0;rw[length_map];by_cases h0:x=0
 .subst h0;rw[E7 (Int.le_refl _)];cases neg<;>rfl
 .obtain⟨l,y,e,y0,y1⟩:=Aq5 hB4 (show 0<x by omega);have hL:(dg 10000 x).length=l.length+1:=by rw[e];simp
  have hdx:=H1 hB4 x hx;have hd:dig 10000 l:=(Ah9.1 (e▸hdx)).1;obtain⟨e1,_⟩:=Bv0 l y hd y0 y1;rw[<-e,I8 hB4 x hx]at e1;rw[show(((dg 10000 x).length:Int)==0)=false by rw[beq_eq_false_iff_ne];omega];simp only[cond_false];rw[wip _ (by omega)];obtain⟨f,rfl⟩:∃f,fuel=f+1:=⟨fuel-1,by omega⟩
  have hg:C2 (dg 10000 x) ((l.length:Nat):Int)=some y:=by rw[D3,e];simp
  rw[X4,show((dg 10000 x).length:Int)-1=((l.length:Nat):Int) by omega,dT_ (show((l.length:Nat):Int)>=0 by omega)];simp only[cond_true];have hdy:(dtx y).length<=4:=Cp7 (by decide) (by rw[Fi3];exact y1);rw[Ej5 hg y0 y1 (by omega),wip _ (by omega),Fz4 hdx (by omega) hl l.length f (dtx y) (by omega) (by omega) Bi5 (by omega)];have ht:dtx x=dtx y++ltr (Cj7 ((dg 10000 x).take l.length)):=by
   rw[L7 (show 0<x by omega),e1,S5,L7 y0,e,bq_]
  rw[<-ht];unfold sg tx;cases neg
  .simp only[cond_false];rw[if_neg (by omega)]
  .simp only[cond_true];rw[if_pos (by omega),Int.neg_neg]
end
section
theorem q4(n:Nat):(0:Int)<10000^n:=Q7 (by decide) n
theorem wnn{l:List Int}(h:dig 10000 l):0<=val 10000 l:=M3 (by decide) h
theorem wlt{l:List Int}(h:dig 10000 l):val 10000 l<10000^l.length:=An4 (by decide) h
theorem En2{m o:List Int}(hm:dig 10000 m)(ho:dig 10000 o)(he:m.length=o.length)(hl:m.length<=2147483648):∀(i k:Nat),i<=m.length->i<k->m.drop i=o.drop i->Ao2 m o k ((i:Int)-1)=some (N7 (val 10000 m) (val 10000 o))
 |0,0,_,h,_=>absurd h (by omega)
 |0,k+1,_,_,hd=>by
  unfold Ao2;rw[drop_zero,drop_zero]at hd;subst hd;simp[I0]
 |i+1,0,_,h,_=>absurd h (by omega)
 |i+1,k+1,hi,hk,hd=>by
  unfold Ao2;rw[show(((i+1:Nat):Int)-1)=((i:Nat):Int) by omega,dT_ (show((i:Nat):Int)>=0 by omega),C3 (l:=m) (by omega),C3 (l:=o) (by omega)];simp only[cond_true,sb];by_cases h:m[i]=o[i]
  .rw[show(m[i] !=o[i])=false by simpa using h];simp only[cond_false];rw[wip i (by omega)];exact En2 hm ho he hl i k (by omega) (by omega) (by rw[ai_ (show i<m.length by omega),ai_ (show i<o.length by omega),h,hd])
  .rw[show(m[i] !=o[i])=true by simpa using h];simp only[cond_true];rcases Int.lt_or_gt_of_ne h with h'|h'
   .rw[dT_ h',D4 (Br0 (by decide) hm ho (by omega) (by omega) hd h')];rfl
   .rw[dF_ (show¬m[i]<o[i] by omega),D6 (Br0 (by decide) ho hm (by omega) (by omega) hd.symm h')];rfl
theorem Gc2{fuel:Nat}{a b:Int}(ha:0<=a)(hb:0<=b)(hl:(dg 10000 a).length<=2147483648)(hl2:(dg 10000 b).length<=2147483648)(hf:(dg 10000 a).length<fuel):Eu0 fuel (dg 10000 a) (dg 10000 b)=some (N7 a b):=by
 unfold Eu0;rw[length_map,length_map];by_cases h:(dg 10000 a).length=(dg 10000 b).length
 .rw[show((((dg 10000 a).length:Nat):Int) !=(((dg 10000 b).length:Nat):Int))=false by rw[h];simp];simp only[cond_false];rw[wip _ (by omega),En2 (H1 hB4 a ha) (H1 hB4 b hb) h hl _ fuel (ad_ _) hf (by rw[ag_ (ad_ _),ag_ (by omega)]),I8 hB4 a ha,I8 hB4 b hb]
 .rw[show((((dg 10000 a).length:Nat):Int) !=(((dg 10000 b).length:Nat):Int))=true by rw[bne_iff_ne];omega];simp only[cond_true];rcases Nat.lt_or_gt_of_ne h with h'|h'
  .rw[dT_ (by omega),D4 (K0 hB4 ha hb h')];rfl
  .rw[dF_ (by omega),D6 (K0 hB4 hb ha h')];rfl
theorem Cb5:∀{l:List Int},(Bd5 l).length=l.length->Bd5 l=l
 |[],_=>rfl
 |x::l,h=>by
  have hle:∀l:List Int,(Bd5 l).length<=l.length:=by
   intro l
   induction l with
   |nil=>exact ad_ _
   |cons x l ih=>
    rw[Bd5];split
    .split<;>simp
    .rename_i y m e;rw[e]at ih;simp at ih⊢;omega
  rw[Bd5]at h⊢;split at h
  .rename_i e;split at h
   .simp at h
   .rename_i hx;have:l=[]:=by
     cases l with
     |nil=>rfl
     |cons y m=>simp at h
    subst this;rw[if_neg hx]
  .rename_i y m e;have h2:(Bd5 l).length=l.length:=by rw[e];simpa using h
   have:=Cb5 h2;rw[e]at this;show x::y::m=x::l;rw[this]
theorem Fb6{l:List Int}(hd:dig 10000 l)(h:l.length<=(dg 10000 (val 10000 l)).length):l=dg 10000 (val 10000 l):=by
 have e:=Bd6 hB4 hd;have h1:(dg 10000 (val 10000 l)).length<=l.length:=G4 hB4 (wlt hd);have:=Cb5 (l:=l) (by rw[e];omega);rw[<-e,this]
theorem Dt5{m o:List Int}{M:Nat}(hm:dig 10000 m)(ho:dig 10000 o)(hM:M=max m.length o.length)(hb:M<=1073741824):∀(r i k:Nat) (c:Int) (acc:List Int),i+r=M->r+1<k->0<=c->c<=1->acc.length=i->
 ∃t,R4 m o k c (i:Int) acc=some (acc++t)/\dig 10000 t/\(t.length<=r\/(t.length=r+1/\10000^r<=val 10000 t))/\val 10000 t=val 10000 (m.drop i)+val 10000 (o.drop i)+c
 |0,i,k,c,acc,hi,hk,h0,h1,ha=>by
  obtain⟨k,rfl⟩:∃j,k=j+2:=⟨k-2,by omega⟩
  have hmi:m.length<=i:=by omega
  have hoi:o.length<=i:=by omega
  rw[R4,dge hmi,dge hoi,T5 hmi,T5 hoi];simp only[cond_false,sb];by_cases hc:c>0
  .have hc1:c=1:=by omega
   subst hc1;rw[dT_ hc];simp only[cond_true];rw[T8 _ _ (by simp;omega),sb,show Int.tdiv 1 10000=0 by decide,show i64.wrap 0=0 by decide,wi i (by omega)];rw[R4,dge (show m.length<=i+1 by omega),dge (show o.length<=i+1 by omega)];refine⟨[1],by rfl,E1.2 ⟨⟨by decide,by decide⟩,J2⟩,.inr ⟨by simp,by simp[val]⟩,by simp[val]⟩
  .rw[dF_ hc];exact⟨[],by simp,J2,.inl (by simp),by simp[val];omega⟩
 |r+1,i,0,_,_,_,h,_,_,_=>absurd h (by omega)
 |r+1,i,k+1,c,acc,hi,hk,h0,h1,ha=>by
  have step:∀(S:Int),0<=S->S<20000->S+10000*(val 10000 (m.drop (i+1))+val 10000 (o.drop (i+1)))=val 10000 (m.drop i)+val 10000 (o.drop i)+c->
   ∃t,((app acc [Int.tmod S 10000]).bind fun l11=>R4 m o k (i64.wrap (Int.tdiv S 10000)) ((i+1:Nat):Int) l11)=some (acc++t)/\dig 10000 t/\(t.length<=r+1\/(t.length=r+1+1/\10000^(r+1)<=val 10000 t))/\val 10000 t=val 10000 (m.drop i)+val 10000 (o.drop i)+c:=by
   intro S s0 s1 hS;rw[(tdm s0).1,(tdm s0).2,T8 _ _ (by simp;omega),sb,E3 (i:=S/10000) (by omega) (by omega)];obtain⟨t,e1,e2,e3,e4⟩:=Dt5 hm ho hM hb r (i+1) k (S/10000) (acc++[S%10000]) (by omega) (by omega) (by omega) (by omega) (by simp;omega);refine⟨S%10000::t,by rw[e1];simp,E1.2 ⟨⟨by omega,by omega⟩,e2⟩,?_,by rw[Dy4,e4];omega⟩;rcases e3 with e3|⟨e3,e5⟩
   .left;simp;omega
   .right;rw[Dy4,a3_];exact⟨by simp;omega,by omega⟩
  rw[R4,wi i (by omega)];by_cases hmi:i<m.length
  .obtain⟨a1,a2⟩:=Ed1 hm hmi;rw[dlt hmi,C3 hmi];simp only[cond_true,sb];rw[E3 (i:=c+m[i]) (by omega) (by omega)];by_cases hoi:i<o.length
   .obtain⟨b1,b2⟩:=Ed1 ho hoi;rw[dlt hoi,C3 hoi];simp only[cond_true,sb];rw[E3 (i:=c+m[i]+o[i]) (by omega) (by omega)];exact step _ (by omega) (by omega) (by rw[Cl3 hmi,Cl3 hoi];omega)
   .rw[dge (show o.length<=i by omega)];simp only[cond_false];exact step _ (by omega) (by omega) (by rw[Cl3 hmi,T5 (show o.length<=i by omega),T5 (show o.length<=i+1 by omega)];omega)
  .have hoi:i<o.length:=by omega
   obtain⟨b1,b2⟩:=Ed1 ho hoi;rw[dge (show m.length<=i by omega),dlt hoi,C3 hoi];simp only[cond_true,cond_false,sb];rw[E3 (i:=c+o[i]) (by omega) (by omega)];exact step _ (by omega) (by omega) (by rw[Cl3 hoi,T5 (show m.length<=i by omega),T5 (show m.length<=i+1 by omega)];omega)
theorem Gk5{fuel:Nat}{a b:Int}(ha:0<=a)(hb:0<=b)(hla:(dg 10000 a).length<=1073741824)(hlb:(dg 10000 b).length<=1073741824)(hf:1073741900<fuel):Fl9 fuel (dg 10000 a) (dg 10000 b)=some (dg 10000 (a+b)):=by
 have da:=H1 hB4 a ha;have db:=H1 hB4 b hb;have va:=I8 hB4 a ha;have vb:=I8 hB4 b hb;unfold Fl9;obtain⟨t,e1,e2,e3,e4⟩:=Dt5 da db rfl (by omega) (max (dg 10000 a).length (dg 10000 b).length) 0 fuel 0 [] (by omega) (by omega) (by omega) (by omega) rfl;rw[drop_zero,drop_zero,va,vb,c7_]at e4;rw[nil_append]at e1;refine e1.trans ?_;congr 1;rw[<-e4];refine Fb6 e2 ?_;have hmono:∀x y:Int,0<=x->x<=y->(dg 10000 x).length<=(dg 10000 y).length:=fun x y h0 h=>by
  rcases bc_ (dg 10000 y).length (dg 10000 x).length with h'|h'
  .have:=K0 hB4 (by omega) h0 h';omega
  .exact h'
 rw[e4];rcases e3 with e3|⟨e3,e5⟩
 .have h1:=hmono a (a+b) ha (by omega);have h2:=hmono b (a+b) hb (by omega);omega
 .rw[e3];rw[e4]at e5;have:=Ah8 hB4 (show 0<=a+b by omega);rcases bc_ (max (dg 10000 a).length (dg 10000 b).length) (dg 10000 (a+b)).length with h|h
  .omega
  .have:=E8 hB4 h;omega
theorem Cr9{fuel:Nat}{m o:List Int}(hm:dig 10000 m)(ho:dig 10000 o)(hle:o.length<=m.length)(hv:val 10000 o<=val 10000 m)(hb:m.length<=1073741824)(hf:m.length<fuel):∀(r i k:Nat) (c:Int) (acc:List Int),i+r=m.length->r<k->0<=c->c<=1->acc.length=i->dig 10000 acc->
 (val 10000 acc=val 10000 (m.take i)-val 10000 (o.take i)+c*10000^i)->
 U7 fuel m o k c (i:Int) acc=some (dg 10000 (val 10000 m-val 10000 o))
 |0,i,0,_,_,_,h,_,_,_,_,_=>absurd h (by omega)
 |r+1,i,0,_,_,_,h,_,_,_,_,_=>absurd h (by omega)
 |0,i,k+1,c,acc,hi,_,h0,h1,ha,hda,hva=>by
  unfold U7;rw[dge (by omega)];simp only[cond_false];rw[Fl0 hda (by omega) (by omega),sb];rw[ap_ (by omega),ap_ (by omega)]at hva;have hlt:=wlt hda;rw[ha]at hlt;have hp:=q4 i;have:c=0:=by
   rcases(show c=0\/c=1 by omega) with h|h
   .exact h
   .subst h;exfalso;omega
  subst this;rw[hva];congr 2;omega
 |r+1,i,k+1,c,acc,hi,hk,h0,h1,ha,hda,hva=>by
  unfold U7;have hmi:i<m.length:=by omega
  obtain⟨a1,a2⟩:=Ed1 hm hmi;rw[dlt hmi,C3 hmi];simp only[cond_true,sb];rw[E3 (i:=m[i]-c) (by omega) (by omega),wi i (by omega)];have htm:val 10000 (m.take (i+1))=val 10000 (m.take i)+m[i]*10000^i:=Q9 hmi;have key:∀(d c' y:Int),0<=d->d<10000->0<=c'->c'<=1->d=m[i]-c-y+10000*c'->val 10000 (o.take (i+1))=val 10000 (o.take i)+y*10000^i->
   Option.bind (app acc [d]) (fun l=>U7 fuel m o k c' ((i+1:Nat):Int) l)=some (dg 10000 (val 10000 m-val 10000 o)):=by
   intro d c' y d0 d1 c0 c1 hd hy;rw[T8 _ _ (by simp;omega),sb];refine Cr9 hm ho hle hv hb hf r (i+1) k c' (acc++[d]) (by omega) (by omega) c0 c1 (by simp;omega) (Ah9.2 ⟨hda,E1.2 ⟨⟨d0,d1⟩,J2⟩⟩) ?_;rw[Ai7,hva,htm,hy,ha,a3_];have e:val 10000 [d]=d:=by simp[val]
   rw[e,hd];generalize (10000:Int)^i=X;grind
  by_cases hio:i<o.length
  .obtain⟨b1,b2⟩:=Ed1 ho hio;have hto:val 10000 (o.take (i+1))=val 10000 (o.take i)+o[i]*10000^i:=Q9 hio;rw[dlt hio,C3 hio];simp only[cond_true,sb];rw[E3 (i:=m[i]-c-o[i]) (by omega) (by omega)];by_cases hn:m[i]-c-o[i]<0
   .rw[dT_ hn];simp only[cond_true];rw[E3 (by omega) (by omega)];exact key _ 1 o[i] (by omega) (by omega) (by omega) (by omega) (by omega) hto
   .rw[dF_ hn];simp only[cond_false];exact key _ 0 o[i] (by omega) (by omega) (by omega) (by omega) (by omega) hto
  .have hto:val 10000 (o.take (i+1))=val 10000 (o.take i)+0*10000^i:=by rw[ap_ (show o.length<=i+1 by omega),ap_ (show o.length<=i by omega)];simp
   rw[dge (by omega)];simp only[cond_false];by_cases hn:m[i]-c<0
   .rw[dT_ hn];simp only[cond_true];rw[E3 (by omega) (by omega)];exact key _ 1 0 (by omega) (by omega) (by omega) (by omega) (by omega) hto
   .rw[dF_ hn];simp only[cond_false];exact key _ 0 0 (by omega) (by omega) (by omega) (by omega) (by omega) hto
theorem Az4{x y:Int}(h0:0<=x)(h:x<=y):(dg 10000 x).length<=(dg 10000 y).length:=by
 rcases bc_ (dg 10000 y).length (dg 10000 x).length with h'|h'
 .have:=K0 hB4 (by omega) h0 h';omega
 .exact h'
theorem Dr1{fuel:Nat}{a b:Int}(hb:0<=b)(hab:b<=a)(hla:(dg 10000 a).length<=1073741824)(hf:1073741900<fuel):Eu2 fuel (dg 10000 a) (dg 10000 b)=some (dg 10000 (a-b)):=by
 have ha:0<=a:=by omega
 have va:=I8 hB4 a ha;have vb:=I8 hB4 b hb;unfold Eu2;have:=Cr9 (fuel:=fuel) (H1 hB4 a ha) (H1 hB4 b hb) (Az4 hb hab) (by omega) hla (by omega) (dg 10000 a).length 0 fuel 0 [] (by omega) (by omega) (by omega) (by omega) rfl J2 (by simp[val]);rw[va,vb]at this;exact this
theorem Ej1{x:List Int}{y:List Int}{i:Nat}{Y T:Int}{rec_:Int->List Int->Option (List Int)}(hx:dig 10000 x)(hy:∀z∈y,0<=z/\z<=Y)(hY0:0<=Y)(hY:Y<=1000000)(hi:i<x.length)(hb:x.length+y.length<=1073741824):
 ∀(r j k:Nat) (c:Int) (out:List Int),i+j+r=x.length+y.length->r<k->0<=c->c<=Y->dig 10000 out->out.length=x.length+y.length->val 10000 out+(x[i]*val 10000 (y.drop j)+c)*10000^(i+j)=T->T<10000^(x.length+y.length)->
 ∃out',Aa4 x y (i:Int) rec_ k c (j:Int) out=rec_ ((i+1:Nat):Int) out'/\dig 10000 out'/\out'.length=out.length/\val 10000 out'=T:=by
 obtain⟨a1,a2⟩:=Ed1 hx hi;intro r
 induction r with
 |zero=>
  intro j k c out hj hk c0 c1 hd hl hT hTb;obtain⟨k,rfl⟩:∃q,k=q+1:=⟨k-1,by omega⟩
  have hc:c=0:=by
   have hv:=wnn hd;rw[T5 (show y.length<=j by omega),show i+j=x.length+y.length by omega]at hT;rcases(show c=0\/1<=c by omega) with h|h
   .exact h
   .exfalso;have:=ae_ h (aj_ (q4 (x.length+y.length)));simp at hT;omega
  subst hc;rw[Aa4,dge (show y.length<=j by omega)];simp only[cond_false,sb];rw[show decide ((0:Int)>0)=false from rfl];simp only[cond_false];rw[wi i (by omega)];refine⟨out,rfl,hd,rfl,?_⟩;rw[T5 (show y.length<=j by omega)]at hT;simp at hT;exact hT
 |succ r ih=>
  intro j k c out hj hk c0 c1 hd hl hT hTb;obtain⟨k,rfl⟩:∃q,k=q+1:=⟨k-1,by omega⟩
  obtain⟨o1,o2⟩:=Ed1 hd (show i+j<out.length by omega);rw[Aa4,E3 (i:=(i:Int)+(j:Int)) (by omega) (by omega),show(i:Int)+(j:Int)=((i+j:Nat):Int) by omega,C3 (show i+j<out.length by omega),wi j (by omega)];have step:∀(n:Int),0<=n->n<=10000*Y+9999->out[i+j]+(x[i]*val 10000 (y.drop j)+c)=n+10000*(x[i]*val 10000 (y.drop (j+1)))->
   ∃out',((some (out.set (0+Int.toNat ((i+j:Nat):Int)) (Int.tmod n 10000))).bind fun l26=>Aa4 x y (i:Int) rec_ k (i64.wrap (Int.tdiv n 10000)) ((j+1:Nat):Int) l26)=rec_ ((i+1:Nat):Int) out'/\dig 10000 out'/\out'.length=out.length/\val 10000 out'=T:=by
   intro n n0 n1 hn;rw[(tdm n0).1,(tdm n0).2,sb,E3 (i:=n/10000) (by omega) (by omega),show 0+Int.toNat ((i+j:Nat):Int)=i+j by omega];obtain⟨out',e1,e2,e3,e4⟩:=ih (j+1) k (n/10000) (out.set (i+j) (n%10000)) (by omega) (by omega) (by omega) (by omega) (Ai0 hd _ ⟨by omega,by omega⟩) (by simpa using hl) (by
    rw[<-hT,Ai8 _ _ (by omega),show i+(j+1)=i+j+1 by omega,a3_];have hq:=a9_ n 10000;generalize n/10000=Q at*;generalize n%10000=R at*;generalize (10000:Int)^(i+j)=X at*;grind) hTb
   exact⟨out',e1,e2,by simpa using e3,e4⟩
  by_cases hjy:j<y.length
  .obtain⟨b1,b2⟩:=hy y[j] (af_ hjy);have hm:=Dr7 a1 a2 b1 (show y[j]<Y+1 by omega);have hm2:x[i]*y[j]<=9999*Y:=by have:=hm.2;omega
   rw[dlt hjy,C3 hi,C3 hjy];simp only[cond_true,sb];rw[E3 (i:=out[i+j]+c) (by omega) (by omega),E3 (i:=x[i]*y[j]) (by omega) (by omega),E3 (i:=out[i+j]+c+x[i]*y[j]) (by omega) (by omega)];exact step _ (by omega) (by omega) (by rw[Cl3 (l:=y) hjy,Int.mul_add];grind)
  .have hj0:=T5 (show y.length<=j by omega);have hj1:=T5 (show y.length<=j+1 by omega);rw[dge (show y.length<=j by omega)];simp only[cond_false,sb];by_cases hc:c>0
   .rw[dT_ hc];simp only[cond_true];rw[E3 (i:=out[i+j]+c) (by omega) (by omega)];exact step _ (by omega) (by omega) (by rw[hj0,hj1];omega)
   .rw[dF_ hc];simp only[cond_false];rw[wi i (by omega)];refine⟨out,rfl,hd,rfl,?_⟩;rw[hj0,show c=0 by omega]at hT;simp at hT;exact hT
theorem Cv3{fuel:Nat}{x y:List Int}{Y:Int}(hx:dig 10000 x)(hy:∀z∈y,0<=z/\z<=Y)(hY0:0<=Y)(hY:Y<=1000000)(hb:x.length+y.length<=1073741824)(hf:x.length+y.length<fuel)(hv:0<=val 10000 y)(hT:val 10000 x*val 10000 y<10000^(x.length+y.length)):
 ∀(r i k:Nat) (out:List Int),i+r=x.length->r<k->dig 10000 out->out.length=x.length+y.length->val 10000 out=val 10000 (x.take i)*val 10000 y->Aa3 fuel x y k (i:Int) out=some (dg 10000 (val 10000 x*val 10000 y))
 |0,i,0,_,_,h,_,_,_=>absurd h (by omega)
 |r+1,i,0,_,_,h,_,_,_=>absurd h (by omega)
 |0,i,k+1,out,hi,_,hd,hl,hvo=>by
  unfold Aa3;rw[dge (by omega)];simp only[cond_false];rw[Fl0 hd (by omega) (by omega),sb,hvo,ap_ (by omega)]
 |r+1,i,k+1,out,hi,hk,hd,hl,hvo=>by
  have hil:i<x.length:=by omega
  have htx:val 10000 (x.take (i+1))=val 10000 (x.take i)+x[i]*10000^i:=Q9 hil;unfold Aa3;rw[dlt hil];simp only[cond_true];have hsplit:val 10000 x=val 10000 (x.take (i+1))+10000^(i+1)*val 10000 (x.drop (i+1)):=T4 x (i+1) (by omega);have h1:=wnn (L5 hx (i+1));have h2:=bo_ (aj_ (q4 (i+1))) h1;have h3:val 10000 (x.take (i+1))*val 10000 y<=val 10000 x*val 10000 y:=ae_ (by omega) hv;obtain⟨out',e1,e2,e3,e4⟩:=Ej1 (T:=val 10000 (x.take (i+1))*val 10000 y) (rec_:=Aa3 fuel x y k) hx hy hY0 hY hil hb (x.length+y.length-i) 0 fuel 0 out (by omega) (by omega) (by omega) hY0 hd hl (by
   rw[hvo,htx,drop_zero,Nat.add_zero];generalize (10000:Int)^i=X;grind) (by omega)
  rw[show((0:Nat):Int)=(0:Int) from rfl]at e1;rw[e1];exact Cv3 hx hy hY0 hY hb hf hv hT r (i+1) k out' (by omega) (by omega) e2 (by omega) e4
theorem Cv4{fuel:Nat}{x y:List Int}{Y:Int}(hx:dig 10000 x)(hy:∀z∈y,0<=z/\z<=Y)(hY0:0<=Y)(hY:Y<=1000000)(hb:x.length+y.length<=1073741824)(hf:x.length+y.length<fuel)(hv:0<=val 10000 y)(hT:val 10000 x*val 10000 y<10000^(x.length+y.length)):Ej9 fuel x y=some (dg 10000 (val 10000 x*val 10000 y)):=by
 unfold Ej9;rw[length_map,length_map,E3 (by omega) (by omega),show(x.length:Int)+(y.length:Int)=((x.length+y.length:Nat):Int) by omega,At9 (by omega),sb];exact Cv3 hx hy hY0 hY hb hf hv hT x.length 0 fuel _ (by omega) (by omega) (Ak1 (by decide) _) (by simp) (by rw[An5];simp[val])
theorem Fy5{fuel:Nat}{a b:Int}(ha:0<=a)(hb:0<=b)(hl:(dg 10000 a).length+(dg 10000 b).length<=1073741824)(hf:1073741900<fuel):Ej9 fuel (dg 10000 a) (dg 10000 b)=some (dg 10000 (a*b)):=by
 have va:=I8 hB4 a ha;have vb:=I8 hB4 b hb;have:=Cv4 (fuel:=fuel) (Y:=9999) (H1 hB4 a ha) (fun z hz=>by have:=H1 hB4 b hb z hz;omega) (by decide) (by decide) hl (by omega) (by omega) (by
  rw[va,vb,Int.pow_add];have h1:=Ah8 hB4 ha;have h2:=Ah8 hB4 hb;have h3:=q4 (dg 10000 a).length;have h4:=c0_ h2 h3;have h5:=ae_ (aj_ h1) hb;omega)
 rw[va,vb]at this;exact this
end
section
theorem vgd(L:List Int)(p:Nat):val 10000 (L.drop p)=L.getD p 0+10000*val 10000 (L.drop (p+1)):=by
 by_cases h:p<L.length
 .rw[Cl3 h,ak_,aa_ h];rfl
 .rw[T5 (by omega),T5 (by omega),ak_,List.getElem?_eq_none (by omega)];rfl
theorem vsp(L:List Int)(p:Nat):val 10000 L=val 10000 (L.take p)+10000^p*val 10000 (L.drop p):=by
 by_cases h:p<=L.length
 .exact T4 L p h
 .rw[T5 (by omega),ap_ (by omega)];omega
theorem vtk{L:List Int}(h:dig 10000 L)(p:Nat):val 10000 (L.take p)<10000^p:=
 c9_ (wlt (F2 h p)) (E8 hB4 (by rw[length_take];omega))
theorem gd4{L:List Int}(h:dig 10000 L)(p:Nat):0<=L.getD p 0/\L.getD p 0<10000:=by
 rw[ak_];cases hp:L[p]? with
 |none=>exact⟨by decide,by decide⟩
 |some x=>exact h x (bu_ hp)
theorem Ci4{L:List Int}{p:Nat}(h:p<L.length):C2 L (p:Int)=some (L.getD p 0):=by
 rw[C3 h,ak_,aa_ h];rfl
theorem Dp2{fuel:Nat}{bl ql:List Int}{i:Nat}{b Rr H:Int}{rec_:List Int->Int->List Int->Option (List Int×List Int)}(hb:bl=dg 10000 b)(hb0:0<b)(hR:0<=Rr)(hbl:bl.length<=1073741820)(hRl:(dg 10000 Rr).length<=1073741820)(hf:1073741900<fuel)(hi:i<ql.length)(hil:i<=1073741824)(hH:b*H<10000^(bl.length+1))(hH1:H<=1000000):
 ∀(k:Nat) (lo hi:Int),(hi-lo).toNat<k->0<=lo->lo<=Rr/b->Rr/b<=hi->hi<=H->
  Ah2 fuel bl ql (i:Int) (dg 10000 Rr) rec_ k lo hi=rec_ (dg 10000 (Rr-Rr/b*b)) ((i:Int)-1) (ql.set i (Rr/b))
 |0,_,_,h,_,_,_,_=>absurd h (by omega)
 |k+1,lo,hi',hk,l0,h1,h2,h3=>by
  have hbd:dig 10000 bl:=by rw[hb];exact H1 hB4 b (by omega)
  have hbv:val 10000 bl=b:=by rw[hb];exact I8 hB4 b (by omega)
  have hQ:=co_ Rr (show b≠0 by omega);have htimes:∀m:Int,0<=m->m<=H->Ej9 fuel bl [m]=some (dg 10000 (b*m)):=by
   intro m m0 m1;have hv:val 10000 [m]=m:=by simp[val]
   have:=Cv4 (fuel:=fuel) (Y:=1000000) hbd (y:=[m]) (fun z hz=>by simp at hz;omega) (by decide) (by decide) (by simp;omega) (by simp;omega) (by rw[hv];exact m0) (by
    rw[hv,hbv];have:=ar_ m1 (show 0<=b by omega);simp only[length_cons,length_nil,Nat.zero_add];omega)
   rw[hv,hbv]at this;exact this
  unfold Ah2;by_cases hlt:lo<hi'
  .rw[dT_ hlt];simp only[cond_true];rw[E3 (i:=lo+hi') (by omega) (by omega),E3 (i:=lo+hi'+1) (by omega) (by omega),(tdm (show 0<=lo+hi'+1 by omega)).1,E3 (i:=(lo+hi'+1)/2) (by omega) (by omega)];obtain⟨m,hm⟩:∃m,m=(lo+hi'+1)/2:=⟨_,rfl⟩
   rw[<-hm,htimes m (by omega) (by omega),sb];have hbm0:0<=b*m:=bo_ (by omega) (by omega);have hbml:(dg 10000 (b*m)).length<=bl.length+1:=G4 hB4 (by
    have:=ar_ (show m<=H by omega) (show 0<=b by omega);omega)
   rw[Gc2 hbm0 hR (by omega) (by omega) (by omega),sb];by_cases hc:b*m<=Rr
   .have hmQ:m<=Rr/b:=ce_ hb0 (by rw[bf_];exact hc);have:decide (N7 (b*m) Rr<=0)=true:=dT_ (by
     unfold N7;split
     .decide
     .rw[if_neg (by omega)];decide)
    rw[this];simp only[cond_true];exact Dp2 hb hb0 hR hbl hRl hf hi hil hH hH1 k m hi' (by omega) (by omega) hmQ h2 h3
   .have hmQ:Rr/b<m:=ba_ hb0 (by rw[bf_];omega);have:decide (N7 (b*m) Rr<=0)=false:=dF_ (by rw[D6 (by omega)];decide);rw[this];simp only[cond_false];rw[E3 (i:=m-1) (by omega) (by omega)];exact Dp2 hb hb0 hR hbl hRl hf hi hil hH hH1 k lo (m-1) (by omega) l0 h1 (by omega) (by omega)
  .rw[dF_ hlt];simp only[cond_false];have hQe:lo=Rr/b:=by omega
   rw[hQe]at l0⊢;unfold Ax5;rw[C3 hi,sb,sb,show 0+Int.toNat (i:Int)=i by omega,wip i (by omega)];by_cases hz:Rr/b>0
   .rw[dT_ hz];simp only[cond_true];have hle:b*(Rr/b)<=Rr:=by rw[bf_];exact hQ
    rw[htimes _ l0 (by omega),sb,Dr1 (bo_ (by omega) l0) hle (by omega) hf,sb,bf_ b]
   .rw[dF_ hz];simp only[cond_false];rw[show Rr/b=0 by omega];simp
theorem Ci8{fuel:Nat}{bl ql RL:List Int}{v66:Int}{rec_:List Int->Int->List Int->Option (List Int×List Int)}(hbd:dig 10000 bl)(hRd:dig 10000 RL)(hb1:1<=bl.length)(hbl:bl.length<=1073741820)(_:RL.length<=1073741824){k v:Nat}{t f:Int}(t0:0<=t)(t1:t<=10000000000)(f0:0<=f)(f1:f<=10000000000)(hv:bl.length-2<=v)(hv1:v<=bl.length):
 M5 fuel bl ql v66 RL rec_ (k+1) t f (v:Int)=M5 fuel bl ql v66 RL rec_ k (if v<bl.length then t*10000+bl.getD v 0 else t) (f*10000+RL.getD v 0) ((v:Int)-1):=by
 rw[M5];have hlim:(bif decide ((i64.wrap ((i64.wrap (((bl.map A3).length:Int)-1))-1))>0) then(i64.wrap ((i64.wrap (((bl.map A3).length:Int)-1))-1)) else 0)<=(v:Int):=by
  rw[length_map,E3 (i:=(bl.length:Int)-1) (by omega) (by omega),E3 (i:=(bl.length:Int)-1-1) (by omega) (by omega)];by_cases h:(bl.length:Int)-1-1>0
  .rw[dT_ h];simp only[cond_true];omega
  .rw[dF_ h];simp only[cond_false];omega
 obtain⟨r0,r1⟩:=gd4 hRd v;obtain⟨b0,b1⟩:=gd4 hbd v;rw[dT_ (show(v:Int)>=_ from hlim)];simp only[cond_true];unfold Ah1;rw[length_map,length_map,E3 (i:=(bl.length:Int)-1) (by omega) (by omega),wip v (by omega),E3 (i:=f*10000) (by omega) (by omega),E3 (i:=t*10000) (by omega) (by omega)];by_cases hR:v<RL.length
 .rw[dT_ (show(v:Int)<(RL.length:Int) by omega),Ci4 hR];simp only[cond_true,sb];rw[E3 (i:=f*10000+RL.getD v 0) (by omega) (by omega)];by_cases hb:v<bl.length
  .rw[dT_ (show(v:Int)<=(bl.length:Int)-1 by omega),if_pos hb,Ci4 hb];simp only[cond_true,sb];rw[E3 (i:=t*10000+bl.getD v 0) (by omega) (by omega)]
  .rw[dF_ (show¬(v:Int)<=(bl.length:Int)-1 by omega),if_neg hb];simp only[cond_false]
 .have h0:RL.getD v 0=0:=by rw[ak_,List.getElem?_eq_none (by omega)];rfl
  rw[dF_ (show¬(v:Int)<(RL.length:Int) by omega),h0,c7_];simp only[cond_false];by_cases hb:v<bl.length
  .rw[dT_ (show(v:Int)<=(bl.length:Int)-1 by omega),if_pos hb,Ci4 hb];simp only[cond_true,sb];rw[E3 (i:=t*10000+bl.getD v 0) (by omega) (by omega)]
  .rw[dF_ (show¬(v:Int)<=(bl.length:Int)-1 by omega),if_neg hb];simp only[cond_false]
theorem Fv1{fuel:Nat}{bl ql RL:List Int}{v66:Int}{rec_:List Int->Int->List Int->Option (List Int×List Int)}(hb1:1<=bl.length)(hbl:bl.length<=1073741820){k:Nat}{v t f:Int}(t0:0<t)(t1:t<=10000000000)(f0:0<=f)(f1:f<=100000000000000)(hv:v<0\/v<(bl.length:Int)-2):
 M5 fuel bl ql v66 RL rec_ (k+1) t f v=Ah2 fuel bl ql v66 RL rec_ fuel (f/(t+1)) (f/t):=by
 rw[M5];have hlim:¬(bif decide ((i64.wrap ((i64.wrap (((bl.map A3).length:Int)-1))-1))>0) then(i64.wrap ((i64.wrap (((bl.map A3).length:Int)-1))-1)) else 0)<=v:=by
  rw[length_map,E3 (i:=(bl.length:Int)-1) (by omega) (by omega),E3 (i:=(bl.length:Int)-1-1) (by omega) (by omega)];by_cases h:(bl.length:Int)-1-1>0
  .rw[dT_ h];simp only[cond_true];omega
  .rw[dF_ h];simp only[cond_false];omega
 have q1:=a5_ f0 (show 0<=t+1 by omega);have q2:=a5_ f0 (show 0<=t by omega);have q3:f/(t+1)<=f:=b9_ _ f0;have q4:f/t<=f:=b9_ _ f0;rw[dF_ (show¬v>=_ from hlim)];simp only[cond_false];rw[E3 (i:=t+1) (by omega) (by omega),D1 (by simp;omega),D1 (by simp;omega),(tdm f0).1,(tdm f0).1,E3 (i:=f/(t+1)) (by omega) (by omega),E3 (i:=f/t) (by omega) (by omega)]
theorem Du0{Rr b t f X lo lob:Int}(hR:Rr=f*X+lo)(hb:b=t*X+lob)(hX:0<X)(lo0:0<=lo)(lo1:lo<X)(lb0:0<=lob)(lb1:lob<X)(t0:0<t)(f0:0<=f):f/(t+1)<=Rr/b/\Rr/b<=f/t:=by
 have hb0:0<b:=by have:=ae_ (show 1<=t by omega) (aj_ hX);omega
 constructor
 .refine ce_ hb0 ?_;have h1:=co_ f (show t+1≠0 by omega);have h0:=a5_ f0 (show 0<=t+1 by omega);have h2:=ae_ h1 (aj_ hX);have h3:=ar_ (show b<=(t+1)*X by rw[Int.add_mul];omega) h0;have h4:f/(t+1)*((t+1)*X)=f/(t+1)*(t+1)*X:=(Int.mul_assoc ..).symm;omega
 .have hR0:0<=Rr:=by have:=bo_ f0 (aj_ hX);omega
  refine Ba4 (al2:=lo) (Y:=X) hR lo1 hX (by omega) t0 hR0
theorem Gj8{fuel:Nat}{ql:List Int}{i:Nat}{b Rr:Int}{rec_:List Int->Int->List Int->Option (List Int×List Int)}(hb0:0<b)(hR:0<=Rr)(hRb:Rr<b*10000)(hbl:(dg 10000 b).length<=1073741800)(hf:1073741900<fuel)(hi:i<ql.length)(hil:i<=1073741824):
 M5 fuel (dg 10000 b) ql (i:Int) (dg 10000 Rr) rec_ fuel 0 0 ((dg 10000 b).length:Int)=rec_ (dg 10000 (Rr-Rr/b*b)) ((i:Int)-1) (ql.set i (Rr/b)):=by
 have hbd:=H1 hB4 b (by omega);have hbv:=I8 hB4 b (by omega);have hRd:=H1 hB4 Rr hR;have hRv:=I8 hB4 Rr hR;have hb1:=as_.2 (Be7 hB4 hb0);have hblt:=Ah8 hB4 (show 0<=b by omega);have hRlt:Rr<10000^((dg 10000 b).length+1):=by
  have:=cd_ hblt (show(0:Int)<10000 by decide);rw[a3_];omega
 have hRl:(dg 10000 Rr).length<=(dg 10000 b).length+1:=G4 hB4 hRlt;obtain⟨bl,ebl⟩:∃bl,bl=dg 10000 b:=⟨_,rfl⟩
 obtain⟨RL,eRL⟩:∃RL,RL=dg 10000 Rr:=⟨_,rfl⟩
 rw[<-ebl]at hbd hbv hb1 hbl hblt hRlt hRl;rw[<-eRL]at hRd hRv hRl;have hRz:val 10000 (RL.drop (bl.length+1))=0:=T5 (by omega);have hbz:val 10000 (bl.drop bl.length)=0:=T5 (ad_ _);have hge:10000^(bl.length-1)<=b:=by rw[ebl];exact Ed0 hB4 hb0
 have fin:∀(k:Nat) (t f v X lo lob:Int),Rr=f*X+lo->b=t*X+lob->0<X->0<=lo->lo<X->0<=lob->lob<X->0<t->t<=10000000000->0<=f->f<=100000000000000->(v<0\/v<(bl.length:Int)-2)->b*(f/t)<10000^(bl.length+1)->f/t<=10000->
  M5 fuel bl ql (i:Int) RL rec_ (k+1) t f v=rec_ (dg 10000 (Rr-Rr/b*b)) ((i:Int)-1) (ql.set i (Rr/b)):=by
  intro k t f v X lo lob hRe hbe hX lo0 lo1 lb0 lb1 t0 t1 f0 f1 hv hH hH1;rw[Fv1 (by omega) (by omega) t0 t1 f0 f1 hv];obtain⟨q1,q2⟩:=Du0 hRe hbe hX lo0 lo1 lb0 lb1 t0 f0;have q0:=a5_ f0 (show 0<=t+1 by omega);rw[eRL];exact Dp2 (H:=f/t) ebl hb0 hR (by omega) (by rw[<-eRL];omega) hf hi hil hH (by omega) fuel _ _ (by omega) q0 q1 q2 (Int.le_refl _)
 obtain⟨fu,rfl⟩:∃g,fuel=g+4:=⟨fuel-4,by omega⟩
 rw[<-ebl,<-eRL];obtain⟨x0,x1⟩:=gd4 hRd bl.length;obtain⟨x2,x3⟩:=gd4 hRd (bl.length-1);obtain⟨b2,b3⟩:=gd4 hbd (bl.length-1);rw[Ci8 hbd hRd (by omega) (by omega) (by omega) (by decide) (by decide) (by decide) (by decide) (by omega) (ad_ _),if_neg (by omega)];rw[show(bl.length:Int)-1=((bl.length-1:Nat):Int) by omega];rw[Ci8 hbd hRd (by omega) (by omega) (by omega) (by decide) (by decide) (by omega) (by omega) (by omega) (by omega),if_pos (by omega)];have e1:=vgd RL (bl.length-1);have e2:=vgd RL bl.length;rw[hRz]at e2;have c1:=vgd bl (bl.length-1);rw[show bl.length-1+1=bl.length by omega]at e1 c1;rw[hbz]at c1
 have htop:0<bl.getD (bl.length-1) 0:=by
  have e:=vsp bl (bl.length-1);have l:=vtk hbd (bl.length-1);rw[hbv,c1]at e;by_cases h:bl.getD (bl.length-1) 0=0
  .exfalso;rw[h]at e;omega
  .omega
 by_cases h1:bl.length=1
 ·--one digit
  have eR:=vsp RL (bl.length-1);have eb:=vsp bl (bl.length-1);rw[hRv,e1,e2]at eR;rw[hbv,c1]at eb;rw[h1]at eR eb⊢;simp only[Nat.sub_self,take_zero,val,Int.pow_zero]at eR eb;have hbt:b=bl.getD (1-1) 0:=by show b=bl.getD 0 0;omega
  have hRf:Rr=(0*10000+RL.getD 1 0)*10000+RL.getD (1-1) 0:=by show Rr=(0*10000+RL.getD 1 0)*10000+RL.getD 0 0;omega
  have hlt:Rr/b<10000:=ba_ hb0 (by rw[bf_];exact hRb);have hq:=co_ Rr (show b≠0 by omega);rw[h1]at hRlt htop x0 x1 x2 x3 b2 b3;refine fin (fu+1) _ _ _ 1 0 0 (by omega) (by omega) (by decide) (by decide) (by decide) (by decide) (by decide) (by omega) (by omega) (by omega) (by omega) (.inl (by omega)) ?_ ?_
  .rw[<-hRf,Int.zero_mul,c6_,<-hbt,h1,bf_];omega
  .rw[<-hRf,Int.zero_mul,c6_,<-hbt];omega
 ·--more
  obtain⟨y0,y1⟩:=gd4 hRd (bl.length-2);obtain⟨b4,b5⟩:=gd4 hbd (bl.length-2);rw[show((bl.length-1:Nat):Int)-1=((bl.length-2:Nat):Int) by omega];rw[Ci8 hbd hRd (by omega) (by omega) (by omega) (by omega) (by omega) (by omega) (by omega) (by omega) (by omega),if_pos (by omega)];have e3:=vgd RL (bl.length-2);have c3:=vgd bl (bl.length-2);rw[show bl.length-2+1=bl.length-1 by omega]at e3 c3;have eR:=vsp RL (bl.length-2);have eb:=vsp bl (bl.length-2);have lR:=vtk hRd (bl.length-2);have lb:=vtk hbd (bl.length-2);have nR:=wnn (F2 hRd (bl.length-2));have nb:=wnn (F2 hbd (bl.length-2));have hX:=q4 (bl.length-2);rw[hRv,e3,e1,e2]at eR;rw[hbv,c3,c1]at eb;obtain⟨X,eX⟩:∃X:Int,X=10000^(bl.length-2):=⟨_,rfl⟩
  rw[<-eX]at eR eb lR lb hX;obtain⟨t,et⟩:∃t,t=(0*10000+bl.getD (bl.length-1) 0)*10000+bl.getD (bl.length-2) 0:=⟨_,rfl⟩
  obtain⟨f,ef⟩:∃f,f=((0*10000+RL.getD bl.length 0)*10000+RL.getD (bl.length-1) 0)*10000+RL.getD (bl.length-2) 0:=⟨_,rfl⟩
  rw[<-et,<-ef];have hRe:Rr=f*X+val 10000 (RL.take (bl.length-2)):=by rw[ef];grind
  have hbe:b=t*X+val 10000 (bl.take (bl.length-2)):=by rw[et];grind
  have ht:10000<=t:=by omega
  have hf0:0<=f:=by omega
  have hff:f<(t+1)*10000:=by
   have h1:f*X<(t+1)*10000*X:=by
    have:(t+1)*10000*X=t*X*10000+10000*X:=by grind
    omega
   exact Int.lt_of_mul_lt_mul_right h1 (aj_ hX)
  have hft:f/t<=10000:=by
   have:f/t<10001:=ba_ (by omega) (by omega);omega
  refine fin fu t f _ X _ _ hRe hbe hX nR lR nb lb (by omega) (by omega) hf0 (by omega) (.inr (by omega)) ?_ hft;have h1:=ar_ hft (show 0<=b by omega);have h2:=cd_ hblt (show(0:Int)<10000 by decide);rw[a3_];omega
theorem En9{fuel:Nat}{al:List Int}{b:Int}(ha:dig 10000 al)(hal:al.length<=1073741800)(hb0:0<b)(hbl:(dg 10000 b).length<=1073741790)(hf:1073741900<fuel):∀(m k:Nat) (Rr:Int) (ql:List Int),m<k->m<=ql.length->ql.length<=al.length->ql.length<=1073741824->dig 10000 ql->0<=Rr->Rr<b->val 10000 (al.drop m)=b*val 10000 (ql.drop m)+Rr->
 U9 fuel al (dg 10000 b) k (dg 10000 Rr) ((m:Int)-1) ql=some (dg 10000 (val 10000 al/b),dg 10000 (val 10000 al%b))
 |0,0,_,_,h,_,_,_,_,_,_,_=>absurd h (by omega)
 |m+1,0,_,_,h,_,_,_,_,_,_,_=>absurd h (by omega)
 |0,k+1,Rr,ql,_,_,hqa,hql,hqd,r0,r1,hv=>by
  unfold U9;rw[dF_ (by omega)];simp only[cond_false];rw[drop_zero,drop_zero]at hv;rw[Fl0 hqd (by omega) (by omega),sb,hv,Int.mul_add_ediv_left _ _ (by omega),bw_ r0 r1,cz_,bd_ r0 r1,c7_]
 |m+1,k+1,Rr,ql,hk,hm,hqa,hql,hqd,r0,r1,hv=>by
  obtain⟨a0,a1⟩:=Ed1 ha (show m<al.length by omega);have hbd:=H1 hB4 b (by omega);unfold U9;rw[show(((m+1:Nat):Int)-1)=(m:Int) by omega,dT_ (by omega),C3 (show m<al.length by omega)];simp only[cond_true,sb];have hRl:(dg 10000 Rr).length<=(dg 10000 b).length:=Az4 r0 (by omega);rw[T8 _ _ (by simp;omega),sb];have hd:dig 10000 ([al[m]]++dg 10000 Rr):=E1.2 ⟨⟨a0,a1⟩,H1 hB4 Rr r0⟩;have hvv:val 10000 ([al[m]]++dg 10000 Rr)=al[m]+10000*Rr:=by
   show val 10000 (al[m]::dg 10000 Rr)=_;rw[Dy4,I8 hB4 Rr r0]
  rw[Fl0 hd (by simp;omega) (by simp;omega),sb,hvv,length_map];have hb1:=as_.2 (Be7 hB4 hb0);rw[E3 (i:=((dg 10000 b).length:Int)-1) (by omega) (by omega),E3 (i:=((dg 10000 b).length:Int)-1+1) (by omega) (by omega),show((dg 10000 b).length:Int)-1+1=((dg 10000 b).length:Int) by omega];rw[Gj8 hb0 (by omega) (by omega) (by omega) hf (by omega) (by omega)];have h1:=a4_ (al[m]+10000*Rr) (show b≠0 by omega);have h2:=a2_ (al[m]+10000*Rr) hb0;have h3:=a9_ (al[m]+10000*Rr) b;have h4:(al[m]+10000*Rr)/b<10000:=ba_ hb0 (by omega);have h5:0<=(al[m]+10000*Rr)/b:=a5_ (by omega) (by omega);have h6:(al[m]+10000*Rr)/b*b=b*((al[m]+10000*Rr)/b):=bf_ ..;refine En9 ha hal hb0 hbl hf m k _ _ (by omega) (by simp;omega) (by simp;omega) (by simp;omega) (Ai0 hqd _ ⟨h5,h4⟩) (by omega) (by omega) ?_;rw[Cl3 (show m<al.length by omega),hv,ai_ (show m<(ql.set m ((al[m]+10000*Rr)/b)).length by simp;omega),drop_set_of_lt (by omega),Dy4,List.getElem_set_self];generalize (al[m]+10000*Rr)/b=Q at*;generalize val 10000 (ql.drop (m+1))=Z;grind
theorem Dl9{fuel:Nat}{a b:Int}(ha:0<=a)(hb:0<b)(hla:(dg 10000 a).length<=1073741790)(hlb:(dg 10000 b).length<=1073741790)(hf:1073741900<fuel):Fm8 fuel (dg 10000 a) (dg 10000 b)=some (dg 10000 (a/b),dg 10000 (a%b)):=by
 have da:=H1 hB4 a ha;have va:=I8 hB4 a ha;have hb1:=as_.2 (Be7 hB4 hb);unfold Fm8;rw[length_map,length_map,E3 (i:=((dg 10000 b).length:Int)-1) (by omega) (by omega)];by_cases h:(dg 10000 a).length<=(dg 10000 b).length-1
 .rw[dT_ (by omega)];simp only[cond_true];rw[T8 _ _ (by simp;omega),sb];have hab:=K0 hB4 ha (show 0<=b by omega) (show(dg 10000 a).length<(dg 10000 b).length by omega);rw[bw_ ha hab,bd_ ha hab,E7 (Int.le_refl _)];rfl
 .rw[dF_ (by omega)];simp only[cond_false];obtain⟨L,hL⟩:∃L,L=(dg 10000 a).length-((dg 10000 b).length-1):=⟨_,rfl⟩
  rw[E3 (by omega) (by omega),show((dg 10000 a).length:Int)-(((dg 10000 b).length:Int)-1)=(L:Int) by omega,At9 (by omega),sb];have hs:slc (dg 10000 a) (L:Int) ((dg 10000 a).length:Int)=some ((dg 10000 a).drop L):=by
   unfold slc;simp only[dT_ (show(0:Int)<=(L:Int) by omega),dT_ (show(L:Int)<=((dg 10000 a).length:Int) by omega),Int.le_refl,decide_true,Bool.and_self,cond_true];rw[show Int.toNat (L:Int)=L by omega,ap_ (by rw[length_drop];omega)]
  rw[hs,sb,T8 _ _ (by simp;omega),sb,nil_append,length_map,bn_,wip L (by omega)];have hRd:=L5 da L;have hR0:=wnn hRd;have hRb:val 10000 ((dg 10000 a).drop L)<b:=by
   have h1:=wlt hRd;rw[length_drop,show(dg 10000 a).length-L=(dg 10000 b).length-1 by omega]at h1;have:=Ed0 hB4 hb;omega
  have hcan:(dg 10000 a).drop L=dg 10000 (val 10000 ((dg 10000 a).drop L)):=by
   by_cases h0:(dg 10000 b).length=1
   .have:(dg 10000 a).drop L=[]:=ag_ (by omega);rw[this,val,E7 (Int.le_refl _)]
   .have hap:0<a:=by
     rcases(show a=0\/0<a by omega) with h1|h1
     .exfalso;rw[h1,E7 (Int.le_refl _)]at h;simp at h
     .exact h1
    obtain⟨l,y,e,y0,y1⟩:=Aq5 hB4 hap;have hl:(dg 10000 a).length=l.length+1:=by rw[e];simp
    have e2:(dg 10000 a).drop L=l.drop L++[y]:=by rw[e,drop_append_of_le_length (by omega)]
    rw[e2]at hRd⊢;exact(En7 hB4 hRd (by omega)).symm
  rw[hcan];rw[En9 da (by omega) hb (by omega) hf L fuel _ _ (by omega) (by rw[bn_];omega) (by rw[bn_];omega) (by rw[bn_];omega) (Ak1 (by decide) _) hR0 hRb (by rw[show(List.replicate L (0:Int)).drop L=[] from ag_ (by rw[bn_];exact ad_ _)];simp[val]),va]
end
section
def lt(n:Int):Nat:=(dg 10 (n.natAbs:Int)).length
theorem Bp0(n:Int):(n.natAbs:Int)<10^lt n:=Ah8 h10 (by omega)
theorem Ac5{n:Int}{L:Nat}(h:(n.natAbs:Int)<10^L):lt n<=L:=G4 h10 h
theorem Bb3{a b:Int}(h:a.natAbs<=b.natAbs):lt a<=lt b:=Ac5 (Int.lt_of_le_of_lt (by omega) (Bp0 b))
theorem p10(n:Nat):(0:Int)<10^n:=Q7 (by decide) n
theorem Bj3(a b:Int):lt (a*b)<=lt a+lt b:=Ac5 (by
 rw[bm_,b4_,Int.pow_add];have h1:=Bp0 a;have h2:=Bp0 b;have:=p10 (lt a);have:=p10 (lt b);have h4:=c0_ h2 (show(0:Int)<10^lt a by omega);have h5:=ae_ (aj_ h1) (show(0:Int)<=(b.natAbs:Int) by omega);omega)
theorem Eq2(a b:Int):lt (a+b)<=max (lt a) (lt b)+1:=Ac5 (by
 have h1:=Bp0 a;have h2:=Bp0 b;have h3:=E8 h10 (Nat.le_max_left (lt a) (lt b));have h4:=E8 h10 (Nat.le_max_right (lt a) (lt b));rw[a3_];omega)
theorem Fv6(a:Int):lt (-a)=lt a:=by unfold lt;rw[Int.natAbs_neg]
theorem Av4{B C:Int}(hB:0<B)(h:B<=C):∀n:Nat,B^n<=C^n
 |0=>by simp
 |n+1=>by
  rw[a3_,a3_];have h1:=Av4 hB h n;have h2:=Q7 hB n;exact Int.mul_le_mul h1 h (aj_ hB) (by omega)
theorem Bo9(n:Int):ln n<=lt n:=Da0 (c9_ (Bp0 n) (Av4 (by decide) (by decide) _))
theorem W3(n:Int):(d4 n).length<=lt n:=G4 hB4 (c9_ (Bp0 n) (Av4 (by decide) (by decide) _))
theorem L0(n:Int):(tx n).length<=lt n+2:=by
 have key:∀x:Int,0<=x->(dtx x).length<=(dg 10 x).length+1:=fun x hx=>by
  by_cases h:x=0
  .subst h;simp[dtx]
  .rw[Ai1 (by omega)];omega
 unfold tx lt;by_cases h:n<0
 .rw[if_pos h,length_cons];have:=key (-n) (by omega);rw[show((n.natAbs:Nat):Int)= -n by omega];omega
 .rw[if_neg h];have:=key n (by omega);rw[show((n.natAbs:Nat):Int)=n by omega];omega
theorem Ef8{n:Int}(h:(tx n).length<=9): -1000000000<n/\n<1000000000:=by
 have key:∀x:Int,0<=x->(dtx x).length<=9->x<1000000000:=fun x hx hl=>by
  by_cases h0:x=0
  .omega
  .rw[Ai1 (by omega)]at hl;have:=Ah8 h10 hx;have:=E8 h10 hl;rw[Fi4]at this;omega
 unfold tx at h;by_cases hn:n<0
 .rw[if_pos hn,length_cons]at h;have:=key (-n) (by omega) (by omega);omega
 .rw[if_neg hn]at h;have:=key n (by omega) h;omega
theorem Ag4{n:Int}(h0: -9223372036854775808<=n)(h1:n<=9223372036854775807):F64 n=some (tx n):=by
 unfold F64;rw[Ba8 h0 h1,sb]
theorem Gw6(s:List UInt8):∀(a:Nat),(∀c∈s,48<=c.toNat/\c.toNat<=57)->(a:Int)<10^(9-s.length)->s.length<=9->Lib.parseUint10 a s= .ok (fv a s).toNat:=by
 induction s with
 |nil=>
  intro a _ _ _;rw[Lib.parseUint10,fv,Int.toNat_natCast]
 |cons c s ih=>
  intro a h ha hl;have hc:=h c ab_;rw[length_cons]at ha hl;have hp:(10:Int)^(9-(s.length+1))<=100000000:=by
   have:=E8 h10 (show 9-(s.length+1)<=8 by omega);have:(10:Int)^8=100000000:=by decide
   omega
  have hp2:(10:Int)^(9-s.length)=10*10^(9-(s.length+1)):=by rw[<-O4];congr 1;omega
  rw[Lib.parseUint10,if_pos hc,if_neg (by omega),if_neg (by omega),ih _ (fun x hx=>h x (mem_cons_of_mem _ hx)) (by rw[hp2];omega) (by omega),fv];congr 3;omega
theorem Dq8{x:Int}(hx:0<=x)(hl:(dtx x).length<=9):Lib.parseMag (dtx x)= .ok x.toNat:=by
 unfold Lib.parseMag;rw[if_neg Bi5,Gw6 _ 0 (H2 hx) (p10 _) hl];rw[show((0:Nat):Int)=0 from rfl,Bw6 hx]
theorem Dj2{n:Int}(h:(tx n).length<=9):Fm6 (tx n)=some (n,false):=by
 have hb:=Ef8 h;unfold Fm6 Eb9;rw[dT_ (show(tx n).length<=2147483648 by omega),cond_true];have:Lib.atoiAll (tx n)= .ok n:=by
  by_cases hn:n<0
  .have ht:tx n=45::dtx (-n):=if_pos hn;rw[ht]at h⊢;rw[length_cons]at h;unfold Lib.atoiAll;dsimp only;rw[if_pos (Or.inr (by decide)),Dq8 (by omega) (by omega)];dsimp only;rw[if_neg (fun h=>h.1 (by decide)),if_neg (by omega),if_pos (by decide)];congr 1;omega
  .have ht:tx n=dtx n:=if_neg hn;rw[ht]at h⊢;cases hd:dtx n with
   |nil=>exact absurd hd Bi5
   |cons c s=>
    have hc:=H2 (show 0<=n by omega) c (by rw[hd];exact ab_);unfold Lib.atoiAll;dsimp only;rw[if_neg (by omega),<-hd,Dq8 (by omega) h];dsimp only;rw[if_neg (by omega),if_neg (by omega),if_neg (by omega)];congr 1;omega
 rw[this]
theorem Al2{a b:Int}:Et8 (tx a) (tx b)=some (if(tx a).length<=9/\(tx b).length<=9 then(a,b,true) else(0,0,false)):=by
 unfold Et8;by_cases h1:(tx a).length<=9
 .rw[dF_ (by omega)];by_cases h2:(tx b).length<=9
  .rw[dF_ (by omega),if_pos ⟨h1,h2⟩];simp only[cond_false,sb];rw[Dj2 h1,sb,Dj2 h2,sb]
  .rw[dT_ (by omega),if_neg (fun h=>h2 h.2)];rfl
 .rw[dT_ (by omega),if_neg (fun h=>h1 h.1)];rfl
theorem V2(n:Int):d4 n=dg 10000 (n.natAbs:Int):=rfl
theorem Gw4{fuel:Nat}{n:Int}(hl:lt n<=100000000)(hf:2000000010<fuel):Fm2 fuel (tx n)=some (tx (-n)):=by
 have h1:=L0 n;have h2:=W3 n;unfold Fm2;rw[Ag3,sb,Ar4 (by omega) hf,sb,V2,Bd7 (by omega) (by rw[<-V2];omega) (by omega),sb];congr 2;unfold sg;by_cases h:n<0
 .rw[dT_ h];simp only[Bool.not_true,cond_false];omega
 .rw[dF_ h];simp only[Bool.not_false,cond_true];omega
theorem Gx0{n:Int}:(tx n==[48])=decide (n=0):=by
 by_cases h:n=0
 .subst h;rfl
 .rw[dF_ h,beq_eq_false_iff_ne];exact fun h'=>h (Am9 (h'.trans (show[48]=tx 0 from rfl)))
theorem Gd7{n:Int}:(tx n==[49])=decide (n=1):=by
 have e:tx 1=[49]:=by
  rw[An0 (by decide),L7 (by decide)];rfl
 by_cases h:n=1
 .subst h;rw[e];rfl
 .rw[dF_ h,beq_eq_false_iff_ne];exact fun h'=>h (Am9 (h'.trans e.symm))
theorem Fh7{n:Int}:F92 (tx n)=some (N7 n 0):=by
 unfold F92;rw[Gx0];by_cases h:n=0
 .subst h;rfl
 .rw[dF_ h,Ag3];simp only[cond_false,sb];by_cases hn:n<0
  .rw[dT_ hn,D4 hn];rfl
  .rw[dF_ hn,D6 (by omega)];rfl
theorem Fw8{fuel:Nat}{a b:Int}(ha:lt a<=100000000)(hb:lt b<=100000000)(hf:2000000010<fuel):F72 fuel (tx a) (tx b)=some (N7 a b):=by
 have h1:=L0 a;have h2:=W3 a;have h3:=L0 b;have h4:=W3 b;rw[V2]at h2 h4;unfold F72;simp only[Fh7,sb];by_cases hs:N7 a 0=N7 b 0
 .rw[show(N7 a 0 !=N7 b 0)=false by rw[hs];simp];simp only[cond_false];rw[Ag3,sb];by_cases hn:a<0
  .rw[dT_ hn];simp only[cond_true];have hb':b<0:=by
    rw[D4 hn]at hs;rcases bk_ b 0 with h|h|h
    .exact h
    .rw[h,I0]at hs;omega
    .rw[D6 h]at hs;omega
   rw[Ar4 (by omega) hf,sb,Ar4 (by omega) hf,sb,V2,V2,Gc2 (by omega) (by omega) (by omega) (by omega) (by omega),sb,show((b.natAbs:Nat):Int)= -b by omega,show((a.natAbs:Nat):Int)= -a by omega,Co8]
  .rw[dF_ hn];simp only[cond_false];have hb':0<=b:=by
    rcases bk_ b 0 with h|h|h
    .rw[D4 h]at hs;rcases(show a=0\/0<a by omega) with h'|h'
     .rw[h',I0]at hs;omega
     .rw[D6 h']at hs;omega
    .omega
    .omega
   rw[Ar4 (by omega) hf,sb,Ar4 (by omega) hf,sb,V2,V2,Gc2 (by omega) (by omega) (by omega) (by omega) (by omega),sb,show((b.natAbs:Nat):Int)=b by omega,show((a.natAbs:Nat):Int)=a by omega]
 .rw[show(N7 a 0 !=N7 b 0)=true by rw[bne_iff_ne];exact hs];simp only[cond_true];rcases bk_ a 0 with h|h|h<;>rcases bk_ b 0 with h'|h'|h'<;>first|(rw[D4 h,D4 h']at hs;exact absurd rfl hs)|(rw[D6 h,D6 h']at hs;exact absurd rfl hs)|(subst h;subst h';exact absurd rfl hs)|skip
  .rw[D4 h,h',I0,D4 h];rfl
  .rw[D4 h,D6 h',D4 (show a<b by omega)];rfl
  .rw[h,I0,D4 h',D6 h'];rfl
  .rw[h,I0,D6 h',D4 h'];rfl
  .rw[D6 h,D4 h',D6 (show b<a by omega)];rfl
  .rw[D6 h,h',I0,D6 h];rfl
theorem Fr7{fuel:Nat}{a b:Int}(ha:lt a<=100000000)(hb:lt b<=100000000)(hf:2000000010<fuel):F73 fuel (tx a) (tx b)=some (tx (a+b)):=by
 have h1:=L0 a;have h2:=W3 a;have h3:=L0 b;have h4:=W3 b;rw[V2]at h2 h4;unfold F73;rw[Al2,sb];by_cases hlit:(tx a).length<=9/\(tx b).length<=9
 .rw[if_pos hlit];have:=Ef8 hlit.1;have:=Ef8 hlit.2;simp only[cond_true];rw[E3 (by omega) (by omega),Ag4 (by omega) (by omega),sb]
 .rw[if_neg hlit];simp only[cond_false];have hs4:∀x:Int,0<=x->x<=(a.natAbs:Int)+(b.natAbs:Int)->(dg 10000 x).length<=200000010:=fun x hx hxl=>by
   have ha1:=Bp0 a;have hb1:=Bp0 b;have e1:=E8 h10 (Nat.le_max_left (lt a) (lt b));have e2:=E8 h10 (Nat.le_max_right (lt a) (lt b));have:(dg 10000 x).length<=max (lt a) (lt b)+1:=G4 hB4 (by
    have:=Av4 (B:=10) (C:=10000) (by decide) (by decide) (max (lt a) (lt b));rw[a3_];omega)
   omega
  rw[Ar4 (by omega) hf,sb,Ar4 (by omega) hf,sb,Ag3,sb,Ag3,sb,V2,V2];by_cases hs:decide (a<0)=decide (b<0)
  .rw[hs];simp only[beq_self_eq_true,cond_true,sb];rw[Gk5 (by omega) (by omega) (by omega) (by omega) (by omega),sb,Bd7 (by omega) (by have:=hs4 ((a.natAbs:Int)+(b.natAbs:Int)) (by omega) (by omega);omega) (by omega),sb];congr 2;have hs:a<0↔b<0:=by simpa using hs
   unfold sg;by_cases h:b<0
   .rw[dT_ h];simp only[cond_true];omega
   .rw[dF_ h];simp only[cond_false];omega
  .have:(decide (a<0)==decide (b<0))=false:=by simpa using hs
   rw[this];have hs:¬(a<0↔b<0):=by simpa using hs
   simp only[cond_false];rw[Gc2 (by omega) (by omega) (by omega) (by omega) (by omega),sb];by_cases hc:(a.natAbs:Int)<(b.natAbs:Int)
   .rw[D4 hc];simp only[show decide ((-1:Int)>=0)=false from rfl,cond_false,sb];rw[Dr1 (by omega) (by omega) (by omega) (by omega),sb,Bd7 (by omega) (by have:=hs4 ((b.natAbs:Int)-(a.natAbs:Int)) (by omega) (by omega);omega) (by omega),sb];congr 2;unfold sg;by_cases h:b<0
    .rw[dT_ h];simp only[cond_true];omega
    .rw[dF_ h];simp only[cond_false];omega
   .have:decide (N7 (a.natAbs:Int) (b.natAbs:Int)>=0)=true:=dT_ (by
     unfold N7;rw[if_neg hc];split<;>decide)
    rw[this];simp only[cond_true,sb];rw[Dr1 (by omega) (by omega) (by omega) (by omega),sb,Bd7 (by omega) (by have:=hs4 ((a.natAbs:Int)-(b.natAbs:Int)) (by omega) (by omega);omega) (by omega),sb];congr 2;unfold sg;by_cases h:a<0
    .rw[dT_ h];simp only[cond_true];omega
    .rw[dF_ h];simp only[cond_false];omega
theorem Gw9{fuel:Nat}{a b:Int}(ha:lt a<=100000000)(hb:lt b<=100000000)(hf:2000000010<fuel):Fj4 fuel (tx a) (tx b)=some (tx (a-b)):=by
 unfold Fj4;rw[Gw4 hb hf,sb,Fr7 ha (by rw[Fv6];exact hb) hf,sb,Int.sub_eq_add_neg]
theorem Fx5(a b:Int):sg (!(decide (a<0)==decide (b<0))) ((a.natAbs:Int)*(b.natAbs:Int))=a*b:=by
 have hn:(a.natAbs:Int)*(b.natAbs:Int)=((a*b).natAbs:Int):=by rw[bm_];simp
 rw[hn];unfold sg;by_cases h1:a<0<;>by_cases h2:b<0
 .have:=cf_ h1 h2;simp[h1,h2];omega
 .have:=Int.mul_nonpos_of_nonpos_of_nonneg (show a<=0 by omega) (show 0<=b by omega);simp[h1,h2];omega
 .have:=Int.mul_nonpos_of_nonneg_of_nonpos (show 0<=a by omega) (show b<=0 by omega);simp[h1,h2];omega
 .have:=bo_ (show 0<=a by omega) (show 0<=b by omega);simp[h1,h2];omega
theorem Fs8(a b:Int):(dg 10000 ((a.natAbs:Int)*(b.natAbs:Int))).length<=lt a+lt b:=by
 have h:=W3 (a*b);rw[V2,bm_,b4_]at h;exact ah_ h (Bj3 a b)
theorem Eg3{fuel:Nat}{a b:Int}(ha:lt a<=100000000)(hb:lt b<=100000000)(hf:2000000010<fuel):F66 fuel (tx a) (tx b)=some (tx (a*b)):=by
 have h1:=L0 a;have h2:=W3 a;have h3:=L0 b;have h4:=W3 b;rw[V2]at h2 h4;have h5:=Fs8 a b;unfold F66;rw[Al2,sb];by_cases hlit:(tx a).length<=9/\(tx b).length<=9
 .rw[if_pos hlit];have b1:=Ef8 hlit.1;have b2:=Ef8 hlit.2;have hm:=Dr7 (x:=(a.natAbs:Int)) (y:=(b.natAbs:Int)) (X:=1000000000) (Y:=1000000000) (by omega) (by omega) (by omega) (by omega);have hn:(a.natAbs:Int)*(b.natAbs:Int)=((a*b).natAbs:Int):=by rw[bm_];simp
  rw[hn]at hm;simp only[cond_true];rw[E3 (by omega) (by omega),Ag4 (by omega) (by omega),sb]
 .rw[if_neg hlit];simp only[cond_false];rw[Ag3,sb,Ag3,sb,Ar4 (by omega) hf,sb,Ar4 (by omega) hf,sb,V2,V2,Fy5 (by omega) (by omega) (by omega) (by omega),sb,Bd7 (bo_ (by omega) (by omega)) (by omega) (by omega),sb,Fx5]
theorem Gi4{fuel:Nat}{a b:Int}(hb0:b≠0)(hd:b∣a)(ha:lt a<=10000000)(hb:lt b<=10000000)(hf:2000000010<fuel):Ek0 fuel (tx a) (tx b)=some (tx (a/b),tx 0):=by
 have h1:=L0 a;have h2:=W3 a;have h3:=L0 b;have h4:=W3 b;rw[V2]at h2 h4;obtain⟨c,rfl⟩:=hd;rw[bp_ _ hb0];have hcn:lt c<=lt (b*c):=Bb3 (by
  rw[bm_];exact br_ _ (by omega))
 unfold Ek0;rw[Al2,sb];by_cases hlit:(tx (b*c)).length<=9/\(tx b).length<=9
 .rw[if_pos hlit];have b1:=Ef8 hlit.1;have b2:=Ef8 hlit.2;have hq:Int.tdiv (b*c) b=c:=Int.mul_tdiv_cancel_left _ hb0;have hr:Int.tmod (b*c) b=0:=Int.mul_tmod_right _ _;have hc: -1000000000<c/\c<1000000000:=by
   have:c.natAbs<=(b*c).natAbs:=by rw[bm_];exact br_ _ (by omega)
   omega
  simp only[cond_true];rw[D1 (by simp;exact hb0),D1 (by simp;exact hb0),hr,hq];simp only[bne_self_eq_false,cond_false,sb];rw[E3 (i:=c) (by omega) (by omega),Ag4 (by omega) (by omega),sb,E3 (i:=b*c) (by omega) (by omega),show b*c-b*c=0 by omega,show i64.wrap 0=0 by decide,Ag4 (by decide) (by decide),sb]
 .rw[if_neg hlit];simp only[cond_false];have hn:((b*c).natAbs:Int)=(b.natAbs:Int)*(c.natAbs:Int):=by rw[bm_];simp
  rw[Ar4 (by omega) hf,sb,Ar4 (by omega) hf,sb,V2,V2,Dl9 (by omega) (by omega) (by omega) (by omega) (by omega),sb,Ag3,sb,Ag3,sb];have hq:((b*c).natAbs:Int)/(b.natAbs:Int)=(c.natAbs:Int):=by rw[hn];exact bp_ _ (by omega)
  have hr:((b*c).natAbs:Int)%(b.natAbs:Int)=0:=by rw[hn];exact Int.mul_emod_right _ _
  have hcl:=W3 c;rw[V2]at hcl;dsimp only;rw[hq,hr,Bd7 (by omega) (by omega) (by omega),sb,E7 (Int.le_refl _)];have hsg:sg (!(decide (b*c<0)==decide (b<0))) (c.natAbs:Int)=c:=by
   unfold sg;by_cases hc0:c=0
   .subst hc0;simp
   by_cases h1:b<0<;>by_cases h2:c<0
   .have:=cf_ h1 h2;rw[dF_ (show¬b*c<0 by omega),dT_ h1];simp;omega
   .have:=Int.mul_neg_of_neg_of_pos h1 (show 0<c by omega);rw[dT_ (show b*c<0 by omega),dT_ h1];simp;omega
   .have:=Int.mul_neg_of_pos_of_neg (show 0<b by omega) h2;rw[dT_ (show b*c<0 by omega),dF_ h1];simp;omega
   .have:=c1_ (show 0<b by omega) (show 0<c by omega);rw[dF_ (show¬b*c<0 by omega),dF_ h1];simp;omega
  rw[hsg];have hl:decide (((([]:List Int).map A3).length:Int)>0)=false:=rfl;rw[hl];simp only[cond_false,sb];rw[Eg3 (by omega) (by omega) hf,sb,bf_ c b,Gw9 (by omega) (by omega) hf,sb,Int.sub_self]
theorem Ef0(m n:Int):Int.gcd m n=Int.gcd n (Int.tmod m n):=by
 show Nat.gcd m.natAbs n.natAbs=Nat.gcd n.natAbs (Int.tmod m n).natAbs;rw[Int.natAbs_tmod,Nat.gcd_comm,Nat.gcd_rec,Nat.gcd_comm]
theorem Do6:∀(k:Nat) (m n:Int),n.natAbs<k->m.natAbs<1000000000->n.natAbs<1000000000->Aw8 k m n=some (tx (Int.gcd m n))
 |0,_,_,h,_,_=>absurd h (by omega)
 |k+1,m,n,hk,hm,hn=>by
  unfold Aw8;by_cases h:n=0
  .subst h;rw[show((0:Int) !=0)=false from rfl];simp only[cond_false];rw[E3 (i:=0-m) (by omega) (by omega),cq_];by_cases hs:0-m>m
   .rw[dT_ hs];simp only[cond_true];rw[Ag4 (by omega) (by omega),sb,show 0-m=(m.natAbs:Int) by omega]
   .rw[dF_ hs];simp only[cond_false];rw[Ag4 (by omega) (by omega),sb];congr 2;omega
  .rw[show(n !=0)=true by rw[bne_iff_ne];exact h];simp only[cond_true];have h1:(Int.tmod m n).natAbs=m.natAbs%n.natAbs:=Int.natAbs_tmod ..;have h2:=Nat.mod_lt m.natAbs (show n.natAbs>0 by omega);rw[D1 (by simp;exact h),Do6 k n (Int.tmod m n) (by omega) hn (by omega),<-Ef0]
theorem Do7{fuel:Nat}(hf:2000000010<fuel){L:Nat}(hL:L<=300000000):∀(k:Nat) (a b:Int),b.toNat<k->0<=a->0<=b->(dg 10000 a).length<=L->(dg 10000 b).length<=L->Aw9 fuel k (dg 10000 a) (dg 10000 b)=some (tx (Int.gcd a b))
 |0,_,_,h,_,_,_,_=>absurd h (by omega)
 |k+1,a,b,hk,ha,hb,hla,hlb=>by
  unfold Aw9;rw[length_map];by_cases h:b=0
  .subst h;have hl:(dg 10000 (0:Int)).length=0:=by rw[E7 (Int.le_refl _)];rfl
   rw[hl,dF_ (by omega),cq_];simp only[cond_false];rw[Bd7 ha (by omega) (by omega),sb];unfold sg;simp only[cond_false];congr 2;omega
  .have hbp:0<b:=by omega
   have hne:=as_.2 (Be7 hB4 hbp);rw[dT_ (by omega)];simp only[cond_true];have h1:=a4_ a (show b≠0 by omega);have h2:=a2_ a hbp;rw[Dl9 ha hbp (by omega) (by omega) (by omega),sb];dsimp only;rw[Do7 hf hL k b (a%b) (by omega) hb h1 hlb (by have:=Az4 h1 (aj_ h2);omega),<-Ak9 ha hb]
theorem Gq3{fuel:Nat}{a b:Int}(ha:lt a<=100000000)(hb:lt b<=100000000)(hf:2000000010+b.natAbs<fuel):Fm1 fuel (tx a) (tx b)=some (tx (Int.gcd a b)):=by
 have h1:=L0 a;have h2:=W3 a;have h3:=L0 b;have h4:=W3 b;rw[V2]at h2 h4;unfold Fm1;rw[Al2,sb];by_cases hlit:(tx a).length<=9/\(tx b).length<=9
 .rw[if_pos hlit];have b1:=Ef8 hlit.1;have b2:=Ef8 hlit.2;simp only[cond_true];rw[Do6 fuel a b (by omega) (by omega) (by omega)]
 .rw[if_neg hlit];simp only[cond_false];rw[Ar4 (by omega) (by omega),sb,Ar4 (by omega) (by omega),sb,V2,V2,Do7 (by omega) (L:=100000000) (by omega) fuel _ _ (by omega) (by omega) (by omega) (by omega) (by omega)];congr 2
end
section
def T(r:Rat):List UInt8:=if r.den=1 then tx r.num else tx r.num++47::tx (r.den:Int)
def rsz(L:Nat)(r:Rat):Prop:=lt r.num<=L/\lt (r.den:Int)<=L
theorem Y8{L:Nat}{r:Rat}(h:rsz L r):nsz L r:=⟨ah_ (Bo9 _) h.1,ah_ (Bo9 _) h.2⟩
theorem An1{n:Int}:∀c∈tx n,c≠47:=by
 intro c hc h;subst h;unfold tx at hc;by_cases hn:n<0
 .rw[if_pos hn]at hc;rcases mem_cons.1 hc with h|h
  .exact absurd h (by decide)
  .exact absurd (H2 (show 0<=-n by omega) 47 h).1 (by decide)
 .rw[if_neg hn]at hc;exact absurd (H2 (show 0<=n by omega) 47 hc).1 (by decide)
theorem Dk8{a b:List UInt8}(ha:∀c∈a,c≠47)(hl:a.length+b.length<=2000000000):∀(r i k:Nat),i+r=a.length->r<k->X5 (a++47::b) k (i:Int)=some (a,b,true)
 |0,i,0,_,h=>absurd h (by omega)
 |r+1,i,0,_,h=>absurd h (by omega)
 |0,i,k+1,hi,_=>by
  have hi:i=a.length:=by omega
  subst hi;have hg:C2 (a++47::b) ((a.length:Nat):Int)=some 47:=by rw[D3];simp
  unfold X5;rw[dT_ (show((a.length:Nat):Int)<((a++47::b).length:Int) by simp;omega),hg];simp only[cond_true,sb];rw[show(((47:UInt8).toNat:Int)==47)=true from rfl];simp only[cond_true];rw[wi _ (by omega),D1 (by simp;omega),D1 (by simp;omega)];congr 2
  .simp
  .congr 1;have e1:Int.toNat ((a.length+1:Nat):Int)=a.length+1:=by omega
   have e2:Int.toNat (((a++47::b).length:Int)-((a.length+1:Nat):Int))=b.length:=by simp;omega
   rw[e1,e2,show a++47::b=(a++[47])++b by simp,show a.length+1=(a++[47]).length by simp,b1_,take_length]
 |r+1,i,k+1,hi,hk=>by
  have hil:i<a.length:=by omega
  have hg:C2 (a++47::b) ((i:Nat):Int)=some a[i]:=by rw[D3,an_ hil,aa_ hil]
  have hne:=ha a[i] (af_ hil);unfold X5;rw[dT_ (show((i:Nat):Int)<((a++47::b).length:Int) by simp;omega),hg];simp only[cond_true,sb];rw[show((a[i].toNat:Int)==47)=false by
   rw[beq_eq_false_iff_ne];intro h;exact hne (UInt8.toNat_inj.1 (by show a[i].toNat=47;omega))]
  simp only[cond_false];rw[wi i (by omega)];exact Dk8 ha hl r (i+1) k (by omega) (by omega)
theorem Cf8{a:List UInt8}(ha:∀c∈a,c≠47)(hl:a.length<=2000000000):∀(r i k:Nat),i+r=a.length->r<k->X5 a k (i:Int)=some (a,[49],false)
 |0,i,0,_,h=>absurd h (by omega)
 |r+1,i,0,_,h=>absurd h (by omega)
 |0,i,k+1,hi,_=>by
  unfold X5;rw[dF_ (by omega)];rfl
 |r+1,i,k+1,hi,hk=>by
  have hil:i<a.length:=by omega
  have hne:=ha a[i] (af_ hil);unfold X5;rw[dT_ (by omega),C3 hil];simp only[cond_true,sb];rw[show((a[i].toNat:Int)==47)=false by
   rw[beq_eq_false_iff_ne];intro h;exact hne (UInt8.toNat_inj.1 (by show a[i].toNat=47;omega))]
  simp only[cond_false];rw[wi i (by omega)];exact Cf8 ha hl r (i+1) k (by omega) (by omega)
theorem tx1:tx 1=[49]:=by rw[An0 (by decide),L7 (by decide)];rfl
theorem Fr1{L:Nat}{r:Rat}(h:rsz L r):(T r).length<=2*L+5:=by
 have h1:=L0 r.num;have h2:=L0 (r.den:Int);obtain⟨h3,h4⟩:=h;unfold T;split
 .omega
 .rw[length_append,length_cons];omega
theorem Gv2{fuel L:Nat}{r:Rat}(h:rsz L r)(hL:L<=100000000)(hf:2000000010<fuel):Dz8 fuel (T r)=some (tx r.num,tx (r.den:Int),decide (r.den≠1)):=by
 have h1:=L0 r.num;have h2:=L0 (r.den:Int);obtain⟨h3,h4⟩:=h;unfold Dz8 T;by_cases hd:r.den=1
 .rw[if_pos hd];rw[show(0:Int)=((0:Nat):Int) from rfl,Cf8 An1 (by omega) (tx r.num).length 0 fuel (by omega) (by omega),hd,dF_ (by simp)];rw[show((1:Nat):Int)=1 from rfl,tx1]
 .rw[if_neg hd];rw[show(0:Int)=((0:Nat):Int) from rfl,Dk8 An1 (by omega) (tx r.num).length 0 fuel (by omega) (by omega),dT_ hd]
theorem At3{fuel L:Nat}{r:Rat}(h:rsz L r)(hL:L<=100000000)(hf:2000000010<fuel):F71 fuel (T r)=some (tx r.num,tx (r.den:Int)):=by
 unfold F71;rw[Gv2 h hL hf,sb]
theorem Ez2{n d:Int}(hd:0<d):T (Rat.divInt n d)=if d/(Int.gcd n d:Nat)=1 then tx (n/(Int.gcd n d:Nat)) else tx (n/(Int.gcd n d:Nat))++47::tx (d/(Int.gcd n d:Nat)):=by
 have hn:(Rat.divInt n d).num=n/(Int.gcd n d:Nat):=by rw[db_,ca_ hd,Int.one_mul,c8_]
 have hdn:((Rat.divInt n d).den:Int)=d/(Int.gcd n d:Nat):=by
  rw[cu_,if_neg (by omega),c8_];push_cast;rw[show((d.natAbs:Nat):Int)=d by omega]
 unfold T;rw[hn,hdn];by_cases h:(Rat.divInt n d).den=1
 .rw[if_pos h,if_pos (by rw[<-hdn,h];rfl)]
 .rw[if_neg h,if_neg (by rw[<-hdn];omega)]
theorem Fe3{fuel:Nat}{n d:Int}(hd:0<d)(ha:lt n<=10000000)(hb:lt d<=10000000)(hf:2000000010+d.natAbs<fuel):F88 fuel (tx n) (tx d)=some (T (Rat.divInt n d)):=by
 have hg0:0<Int.gcd n d:=ct_ _ (by omega);have hgn:((Int.gcd n d:Nat):Int)∣n:=cw_ ..;have hgd:((Int.gcd n d:Nat):Int)∣d:=dc_ ..;have hgle:((Int.gcd n d:Nat):Int)<=d:=Int.le_of_dvd hd hgd;have hlg:lt ((Int.gcd n d:Nat):Int)<=lt d:=Bb3 (by omega);have hnq:lt (n/(Int.gcd n d:Nat))<=lt n:=by
  have key:∀(g n:Int),0<g->g∣n->lt (n/g)<=lt n:=fun g n hg hgn=>by
   obtain⟨c,rfl⟩:=hgn;rw[bp_ _ (by omega)];refine Bb3 ?_;rw[bm_];exact br_ _ (by omega)
  exact key _ _ (by omega) hgn
 have hdq:lt (d/(Int.gcd n d:Nat))<=lt d:=by
  refine Bb3 ?_;have:=b9_ (Int.gcd n d:Nat) (aj_ hd);have:=a5_ (aj_ hd) (show(0:Int)<=(Int.gcd n d:Nat) by omega);omega
 have l1:=L0 (n/(Int.gcd n d:Nat));have l2:=L0 (d/(Int.gcd n d:Nat));unfold F88;rw[Gq3 (by omega) (by omega) hf,sb,Fh7,sb,D6 hd,show decide ((1:Int)<0)=false from rfl];simp only[cond_false];rw[Gi4 (by omega) hgn ha (by omega) (by omega),sb,Gi4 (by omega) hgd hb (by omega) (by omega),sb];dsimp only;rw[Gd7,Ez2 hd];by_cases h:d/(Int.gcd n d:Nat)=1
 .rw[dT_ h,if_pos h];rfl
 .rw[dF_ h,if_neg h];simp only[cond_false];rw[D1 (by simp;omega),D1 (by simp;omega)];simp
theorem of2{fuel:Nat}{n d:Int}(h0: -9223372036854775808<=n)(h1:n<=9223372036854775807)(hd:0<d)(hd1:d<=9223372036854775807)(hf:10000000000000000000<fuel):F39 fuel n d=some (T (Rat.divInt n d)):=by
 have hl:∀a:Int,(a.natAbs:Int)<=9223372036854775808->lt a<=20:=fun a h=>Ac5 (by
  have:(10:Int)^20=100000000000000000000:=by decide
  omega)
 have:=hl n (by omega);have:=hl d (by omega);unfold F39;rw[Ag4 h0 h1,sb,Ag4 (by omega) hd1,sb,Fe3 hd (by omega) (by omega) (by omega),sb]
theorem Di5(n:Int):T (Rat.divInt n 1)=tx n:=by
 rw[Ez2 (by decide)];have:Int.gcd n 1=1:=Int.gcd_one_right _;rw[this];simp
theorem Gw7(x y:Rat):x+y=Rat.divInt (x.num*y.den+y.num*x.den) (x.den*y.den):=by
 rw[Rat.add_def',<-Rat.divInt_ofNat];push_cast;rfl
theorem Gv5{r:Rat}:((r.den:Int)=1)↔r.den=1:=by omega
theorem Gh8{x y:Rat}:(bif tx (x.den:Int)==[49] then some (tx (y.den:Int)==[49]) else some false)=some (decide (x.den=1/\y.den=1)):=by
 rw[Gd7,Gd7];simp only[Gv5];by_cases h1:x.den=1<;>by_cases h2:y.den=1<;>simp[h1,h2]
theorem Cg1(x y:Rat):((x.den:Int)*(y.den:Int)).natAbs=x.den*y.den:=by rw[<-b4_,a6_]
theorem Gu2{fuel L:Nat}{x y:Rat}(hx:rsz L x)(hy:rsz L y)(hL:L<=1000000)(hf:2000000010+x.den*y.den<fuel):F37 fuel (T x) (T y)=some (T (x+y)):=by
 obtain⟨x1,x2⟩:=hx;obtain⟨y1,y2⟩:=hy;have m1:=Bj3 x.num y.den;have m2:=Bj3 y.num x.den;have m3:=Bj3 x.den y.den;have a1:=Eq2 (x.num*y.den) (y.num*x.den);have hp:=c1_ (den_pos x) (den_pos y);unfold F37;rw[At3 ⟨x1,x2⟩ (by omega) (by omega),sb,At3 ⟨y1,y2⟩ (by omega) (by omega),sb];dsimp only;rw[Gh8,sb,Gw7];by_cases h:x.den=1/\y.den=1
 .rw[dT_ h];simp only[cond_true];rw[Fr7 (by omega) (by omega) (by omega),sb,h.1,h.2];simp only[Int.mul_one,show((1:Nat):Int)=1 from rfl,Di5]
 .rw[dF_ h];simp only[cond_false];rw[Eg3 (by omega) (by omega) (by omega),sb,Eg3 (by omega) (by omega) (by omega),sb,Fr7 (by omega) (by omega) (by omega),sb,Eg3 (by omega) (by omega) (by omega),sb,Fe3 hp (by omega) (by omega) (by rw[Cg1];omega),sb]
theorem Gx2{fuel L:Nat}{x y:Rat}(hx:rsz L x)(hy:rsz L y)(hL:L<=1000000)(hf:2000000010<fuel):F42 fuel (T x) (T y)=some (Br4 x y):=by
 obtain⟨x1,x2⟩:=hx;obtain⟨y1,y2⟩:=hy;have m1:=Bj3 x.num y.den;have m2:=Bj3 y.num x.den;unfold F42;rw[At3 ⟨x1,x2⟩ (by omega) (by omega),sb,At3 ⟨y1,y2⟩ (by omega) (by omega),sb];dsimp only;rw[Eg3 (by omega) (by omega) (by omega),sb,Eg3 (by omega) (by omega) (by omega),sb,Fw8 (by omega) (by omega) (by omega),sb];congr 1;unfold N7 Br4;simp only[Rat.lt_iff,gt_iff_lt]
theorem Gl4{fuel L:Nat}{x:Rat}(hx:rsz L x)(hL:L<=1000000)(hf:2000000010<fuel):F41 fuel (T x)=some (Br4 x 0):=by
 unfold F41;rw[At3 hx (by omega) (by omega),sb];dsimp only;rw[Fh7,sb];congr 1;unfold N7 Br4;simp only[Rat.lt_iff,gt_iff_lt];simp
theorem Ec7{x y:Rat}:decide (Br4 x y>0)=decide (y<x):=by
 unfold Br4;by_cases h:x<y
 .rw[if_pos h];have:¬y<x:=fun h'=>by rw[Rat.lt_iff]at h h';omega
  rw[dF_ this];rfl
 .rw[if_neg h];by_cases h':y<x
  .rw[if_pos h',dT_ h'];rfl
  .rw[if_neg h',dF_ h'];rfl
theorem Bm7{x y:Rat}:decide (Br4 x y<0)=decide (x<y):=by
 unfold Br4;by_cases h:x<y
 .rw[if_pos h,dT_ h];rfl
 .rw[if_neg h,dF_ h];by_cases h':y<x
  .rw[if_pos h'];rfl
  .rw[if_neg h'];rfl
theorem P4:∀(a b:List UInt8),(∀c∈a,c≠47)->Be6 47 (a++47::b)=(a,b,true)
 |[],b,_=>rfl
 |c::a,b,h=>by
  have hc:=h c ab_;rw[cons_append,Be6,show(c==47)=false by simpa using hc,P4 a b (fun x hx=>h x (mem_cons_of_mem _ hx))]
theorem Au7:∀(a:List UInt8),(∀c∈a,c≠47)->Be6 47 a=(a,[],false)
 |[],_=>rfl
 |c::a,h=>by
  have hc:=h c ab_;rw[Be6,show(c==47)=false by simpa using hc,Au7 a (fun x hx=>h x (mem_cons_of_mem _ hx))]
theorem Gv1{L:Nat}{r:Rat}(h:rsz L r)(hL:L<=100000000):F97 (T r) [47]=some (if r.den=1 then(tx r.num,[],false) else(tx r.num,tx (r.den:Int),true)):=by
 have hl:=Fr1 h;unfold F97 Fk9;rw[dT_ (show(T r).length<=2147483648 by omega)];show some (Be6 47 (T r))=_;congr 1;unfold T;by_cases hd:r.den=1
 .rw[if_pos hd,if_pos hd,Au7 _ An1]
 .rw[if_neg hd,if_neg hd,P4 _ _ An1]
theorem Do4{fuel L:Nat}{r:Rat}(h:rsz L r)(hL:L<=100000000)(hf:2000000010<fuel):F48 fuel (T r)=some (R r):=by
 have h1:=L0 r.num;have h2:=L0 (r.den:Int);unfold F48;rw[Gv1 h hL,sb];obtain⟨h3,h4⟩:=h;by_cases hd:r.den=1
 .rw[if_pos hd];simp only[Bool.not_false,cond_true];rw[Bc5 (by omega) (by omega),sb,Am5 (by decide) (by decide) (by omega),sb];unfold R;rw[hd];rfl
 .rw[if_neg hd];simp only[Bool.not_true,cond_false];rw[Bc5 (by omega) (by omega),sb,Bc5 (by omega) (by omega),sb];rfl
theorem Fz3{r:Rat}:Fz7 (R r)=some (decide (r.den=1)):=by
 unfold Fz7;have hp:=den_pos r;show Option.bind (bif (((dg 1000000000 (((r.den:Int).natAbs:Nat):Int)).map A6).length:Int)==1 then (C2 (dg 1000000000 (((r.den:Int).natAbs:Nat):Int)) 0).bind fun y3=>some (y3==1) else some false) (fun o1=>some o1)=_;rw[show(((r.den:Int).natAbs:Nat):Int)=(r.den:Int) by omega,length_map];by_cases hl:(dg 1000000000 (r.den:Int)).length=1
 .have h9:(r.den:Int)<1000000000:=by
   have:=Ah8 hB1 (show 0<=(r.den:Int) by omega);rw[hl]at this;simpa using this
  rw[dg1 hp h9,show C2 [(r.den:Int)] 0=some (r.den:Int) from rfl,sb];rw[show((([(r.den:Int)].length:Nat):Int)==1)=true from rfl];simp only[cond_true,sb];congr 1;by_cases h:r.den=1
  .rw[h];rfl
  .rw[dF_ h,beq_eq_false_iff_ne];omega
 .rw[show((((dg 1000000000 (r.den:Int)).length:Nat):Int)==1)=false by rw[beq_eq_false_iff_ne];omega];simp only[cond_false,sb];rw[dF_ (fun h=>hl (by rw[h,show((1:Nat):Int)=1 from rfl,dg1 (by decide) (by decide)];rfl))]
theorem Eg5{fuel L:Nat}{r:Rat}(h:rsz L r)(hL:L<=100000000)(hf:2000000010<fuel):F87 fuel (R r)=some (T r):=by
 have h1:=L0 r.num;have h2:=L0 (r.den:Int);obtain⟨h3,h4⟩:=Y8 h;obtain⟨h5,h6⟩:=h;unfold F87;rw[Fz3,sb];have hn:(R r).n_=W r.num:=rfl;have hd:(R r).d=W (r.den:Int):=rfl;rw[hn,hd,Aw2 (by omega) (by omega)];unfold T;by_cases hd1:r.den=1
 .rw[dT_ hd1,if_pos hd1];rfl
 .rw[dF_ hd1,if_neg hd1];simp only[cond_false,sb];rw[Aw2 (by omega) (by omega),D1 (by simp;omega),sb,D1 (by simp;omega)];simp
theorem Ab7{x y:Rat}(h:T x=T y):x=y:=by
 have hc:∀r:Rat,Be6 47 (T r)=(if r.den=1 then(tx r.num,[],false) else(tx r.num,tx (r.den:Int),true)):=fun r=>by
  unfold T;by_cases hd:r.den=1
  .rw[if_pos hd,if_pos hd,Au7 _ An1]
  .rw[if_neg hd,if_neg hd,P4 _ _ An1]
 have e:=hc x;rw[h,hc y]at e;by_cases h1:x.den=1<;>by_cases h2:y.den=1
 .rw[if_pos h1,if_pos h2]at e;exact Rat.ext (Am9 (congrArg Prod.fst e).symm) (by rw[h1,h2])
 .rw[if_pos h1,if_neg h2]at e;exact absurd (congrArg (fun z=>z.2.2) e) (by simp)
 .rw[if_neg h1,if_pos h2]at e;exact absurd (congrArg (fun z=>z.2.2) e) (by simp)
 .rw[if_neg h1,if_neg h2]at e;exact Rat.ext (Am9 (congrArg Prod.fst e).symm) (by have:=Am9 (show tx (y.den:Int)=tx (x.den:Int) from congrArg (fun z=>z.2.1) e);omega)
end
section
theorem wu{x:Nat}(h:x<18446744073709551616):u64.wrap (x:Int)=(x:Int):=by
 have e64:(2^u64.bits:Int)=18446744073709551616:=rfl;unfold IntKind.wrap;simp only[e64,show u64.signed=false from rfl,Bool.false_and];rw[if_neg (by decide)];omega
theorem Es4(s i:Nat):s/2^i%2=if s.testBit i then 1 else 0:=by
 rw[Nat.testBit_eq_decide_div_mod_eq];by_cases h:s/2^i%2=1
 .simp[h]
 .simp[h];omega
theorem Cl1(x:Nat):(BitVec.ofInt u64.bits (x:Int))=BitVec.ofNat 64 x:=by
 show BitVec.ofInt 64 (x:Int)=BitVec.ofNat 64 x;simp
theorem En0{s i:Nat}(hs:s<18446744073709551616)(hi:i<64):
 (u64.wrap (BitVec.ofInt u64.bits (Int.fdiv (s:Int) (2^(min (Int.toNat (i:Int)) u64.bits)))&&&BitVec.ofInt u64.bits 1).toNat)=if s.testBit i then 1 else 0:=by
 have h1:Int.fdiv (s:Int) (2^(min (Int.toNat (i:Int)) u64.bits))=((s/2^i:Nat):Int):=by
  have:min (Int.toNat (i:Int)) u64.bits=i:=by simp[IntKind.bits];omega
  rw[this,Int.fdiv_eq_ediv_of_nonneg _ (by exact_mod_cast at_ _)];norm_cast
 have h2:BitVec.ofInt u64.bits 1=BitVec.ofNat 64 1:=rfl;rw[h1,Cl1,h2];have h3:(BitVec.ofNat 64 (s/2^i)&&&BitVec.ofNat 64 1).toNat=if s.testBit i then 1 else 0:=by
  have h4:s/2^i<2^64:=cc_ (c4_ _ _) hs;rw[BitVec.toNat_and,da_,da_,Nat.mod_eq_of_lt h4,show(1:Nat)%2^64=1 from rfl,Nat.and_one_is_mod];exact Es4 s i
 have h5:((BitVec.ofNat 64 (s/2^i)&&&BitVec.ofNat 64 1).toNat:Int)=if s.testBit i then 1 else 0:=by
  rw[h3];split<;>rfl
 have key:u64.wrap ((BitVec.ofNat 64 (s/2^i)&&&BitVec.ofNat 64 1).toNat:Int)=if s.testBit i then 1 else 0:=by
  rw[wu (BitVec.isLt _),h5]
 exact key
theorem Fw6{i:Nat}(hi:i<62):u64.wrap (1*2^(min (Int.toNat (i:Int)) u64.bits))=((2^i:Nat):Int):=by
 have:min (Int.toNat (i:Int)) u64.bits=i:=by simp[IntKind.bits];omega
 rw[this];have h:(2^i:Nat)<18446744073709551616:=a0_ (Nat.pow_lt_pow_right (by omega) hi) (by decide);have e:(1*2^i:Int)=((2^i:Nat):Int):=by simp
 rw[e,wu h]
def sd(a b:Nat):Nat:=(BitVec.ofNat 64 a&&& ~~~BitVec.ofNat 64 b).toNat
theorem Fh5(a b:Nat):(u64.wrap (BitVec.ofInt u64.bits (a:Int)&&& ~~~BitVec.ofInt u64.bits (b:Int)).toNat)=(sd a b:Int):=by
 rw[Cl1,Cl1];exact wu (BitVec.isLt _)
theorem Es1{a b i:Nat}(ha:a<18446744073709551616)(_:b<18446744073709551616):(sd a b).testBit i=(a.testBit i&& !b.testBit i):=by
 unfold sd;rw[<-BitVec.getLsbD,BitVec.getLsbD_and,BitVec.getLsbD_not,BitVec.getLsbD_ofNat,BitVec.getLsbD_ofNat];by_cases h:i<64
 .simp[h]
 .have h64:a.testBit i=false:=Nat.testBit_lt_two_pow (a0_ ha (ah_ (by decide:18446744073709551616<=2^64) (cg_ (by omega) (by omega))));simp[h,h64]
theorem Ec4{a b:Nat}(h:∀i,a.testBit i=b.testBit i):a=b:=Nat.eq_of_testBit_eq h
theorem Fs6{a n i:Nat}(h:a<2^n)(hb:a.testBit i=true):i<n:=by
 cases bc_ i n with
 |inl h=>exact h
 |inr hge=>
  rw[Nat.testBit_lt_two_pow (a0_ h (cg_ (by omega) hge))]at hb;cases hb
theorem Da2{a n:Nat}(h:∀i,a.testBit i=true->i<n):a<2^n:=by
 refine Nat.lt_pow_two_of_testBit a fun i hi=> ?_
 cases hb:a.testBit i with
 |false=>rfl
 |true=>have:=h i hb;omega
theorem Cq4(n i:Nat):(2^n-1).testBit i=decide (i<n):=Nat.testBit_two_pow_sub_one n i
def fil{α:Type}(f:Nat->α)(z:α)(n i:Nat):List α:=(List.range i).map f++List.replicate (n-i) z
section
variable {α:Type} {f:Nat->α} {z:α} {n i:Nat}
theorem Fc7(h:i<=n):(fil f z n i).length=n:=by simp[fil];omega
theorem Dn9:fil f z n 0=List.replicate n z:=by simp[fil]
theorem Do1:fil f z n n=(List.range n).map f:=by simp[fil]
theorem Do0(h:i<n):(fil f z n i)[i]? =some z:=by
 unfold fil;rw[au_ (by simp),length_map,length_range,Nat.sub_self,List.getElem?_replicate,if_pos (by omega)]
theorem Ak7(h:i<n):C2 (fil f z n i) (i:Int)=some z:=by rw[D3,Do0 h]
theorem Aq6(h:i<n):(fil f z n i).set i (f i)=fil f z n (i+1):=by
 unfold fil;rw[List.set_append_right _ _ (by simp),length_map,length_range,Nat.sub_self,List.range_succ,List.map_append,List.append_assoc];congr 1;rw[show n-i=(n-(i+1))+1 by omega,List.replicate_succ];simp
theorem Ee6(h:i<n)(he:f i=z):fil f z n i=fil f z n (i+1):=by
 rw[<-Aq6 h,he];refine b6_ fun j=> ?_
 rw[dd_];by_cases e:i=j
 .subst e;rw[if_pos rfl,if_pos (by rw[Fc7 (by omega)];exact h),Do0 h]
 .rw[if_neg e]
end
theorem tn(i:Nat):0+Int.toNat (i:Int)=i:=by omega
end
section
def fr(D B:Nat)(r:Rat):Prop:=0<D/\∃a:Int,r=Rat.divInt a (D:Int)/\a.natAbs<=B*D
theorem Ci1{D B C:Nat}{r:Rat}(h:fr D B r)(hb:B<=C):fr D C r:=by
 obtain⟨h0,a,h1,h2⟩:=h;exact⟨h0,a,h1,ah_ h2 (be_ _ hb)⟩
theorem Ba1{D B E:Nat}{r:Rat}(h:fr D B r)(hE:0<E):fr (D*E) B r:=by
 obtain⟨h0,a,h1,h2⟩:=h;refine⟨bl_ h0 hE,a*E,?_,?_⟩
 .rw[h1];push_cast;rw[cx_ (by omega)]
 .rw[bm_,a6_,<-Nat.mul_assoc];exact be_ _ h2
theorem Eo6{D B E:Nat}{r:Rat}(h:fr D B r)(hd:D∣E)(hE:0<E):fr E B r:=by
 obtain⟨c,rfl⟩:=hd;exact Ba1 h (Nat.pos_of_ne_zero fun e=>by subst e;simp at hE)
theorem Bw3{D B C:Nat}{x y:Rat}(hx:fr D B x)(hy:fr D C y):fr D (B+C) (x+y):=by
 obtain⟨h0,a,ha,ha2⟩:=hx;obtain⟨_,b,hb,hb2⟩:=hy;refine⟨h0,a+b,?_,?_⟩
 .rw[ha,hb,Rat.divInt_add_divInt _ _ (by omega) (by omega)];rw[<-Int.add_mul,cx_ (by omega)]
 .rw[Nat.add_mul];omega
theorem Do3{D E B C:Nat}{x y:Rat}(hx:fr D B x)(hy:fr E C y):fr (D*E) (B*C) (x*y):=by
 obtain⟨h0,a,ha,ha2⟩:=hx;obtain⟨h1,b,hb,hb2⟩:=hy;refine⟨bl_ h0 h1,a*b,?_,?_⟩
 .rw[ha,hb,Rat.divInt_mul_divInt];push_cast;rfl
 .rw[bm_]
  calc a.natAbs*b.natAbs<=(B*D)*(C*E):=a7_ ha2 hb2
   _=B*C*(D*E):=by simp[Nat.mul_comm,Nat.mul_left_comm]
theorem Fu1{D:Nat}(hD:0<D)(n:Int):fr D n.natAbs (Rat.divInt n 1):=by
 have:fr 1 n.natAbs (Rat.divInt n 1):=⟨by decide,n,rfl,by omega⟩
 have:=Ba1 this hD
 rwa [bj_]at this
theorem Aq9{D:Nat}(hD:0<D):fr D 0 0:=Fu1 hD 0
def rs(r:Rat):Prop:=rsz 1000000 r
theorem Fu4{D B L:Nat}{r:Rat}(h:fr D B r)(hB:B*D<10^L)(hD:D<10^L):rsz L r:=by
 obtain⟨h0,a,h1,h2⟩:=h;have hg0:0<Int.gcd a (D:Int):=ct_ _ (by omega);have p10:((10^L:Nat):Int)=(10:Int)^L:=by push_cast;rfl
 constructor
 .refine Ac5 ?_;have:r.num.natAbs<=a.natAbs:=by
   rw[h1,db_,ca_ (by omega),Int.one_mul,Int.natAbs_ediv_of_dvd (by rw[c8_];exact cw_ ..)];exact c4_ _ _
  rw[<-p10];exact_mod_cast (by omega:r.num.natAbs<10^L)
 .refine Ac5 ?_;have:r.den<=D:=by
   rw[h1,cu_,if_neg (by omega)];exact c4_ _ _
  rw[a6_,<-p10];exact_mod_cast (by omega:r.den<10^L)
theorem Fu3{D B p q L:Nat}{r:Rat}(h:fr D B r)(hD:D<=10^p)(hB:B<=10^q)(hpq:p+q<L):rsz L r:=by
 have h1:B*D<=10^(p+q):=by
  rw[bs_,Nat.mul_comm (10^p)];exact a7_ hB hD
 have h2:10^p<=10^(p+q):=cg_ (by decide) (by omega);have h3:10^(p+q)<10^L:=Nat.pow_lt_pow_right (by decide) hpq;exact Fu4 h (cc_ h1 h3) (cc_ (ah_ hD h2) h3)
theorem Aq8{D B p q:Nat}{r:Rat}(h:fr D B r)(hD:D<=10^p)(hB:B<=10^q)(hpq:p+q<1000000):rs r:=Fu3 h hD hB hpq
theorem Fu0{D B:Nat}{r:Rat}(h:fr D B r):r.den∣D:=by
 obtain⟨h0,a,h1,h2⟩:=h;rw[h1,cu_,if_neg (by omega)];exact Nat.div_dvd_of_dvd (by
  have:((Int.gcd (D:Int) a:Nat):Int)∣(D:Int):=cw_ ..;exact_mod_cast this)
theorem Fc9{D B:Nat}{r:Rat}(hD:0<D)(hd:r.den∣D)(hB:r.num.natAbs<=B*r.den):fr D B r:=by
 have h1:fr r.den B r:=⟨r.den_pos,r.num,(Rat.num_divInt_den r).symm,hB⟩
 exact Eo6 h1 hd hD
theorem Ct9{r:Rat}:r.num<0↔r<0:=by rw[<-Rat.not_le,<-Rat.num_nonneg];omega
theorem Av8{r:Rat}:0<r.num↔0<r:=by rw[Rat.lt_iff];simp
theorem Ei1(r:Rat):r=(r.num:Rat)/(r.den:Rat):=by
 conv=>lhs;rw[<-Rat.num_divInt_den r,Rat.divInt_eq_div]
 norm_cast
theorem Ev.ge(k:Nat):Ev fun n=>k<=n:=⟨k,fun _ h=>h⟩
section
variable {x y:Rat}
theorem Gp8(hx:rs x)(hy:rs y):Ev fun f=>F54 f (R x) (R y)=some (R (x+y)):=Ev.from_ (18446744073709551616+10000000000+x.den*y.den+1) fun n h=>Fe7 (Y8 hx) (Y8 hy) (by decide) (by omega)
theorem Gv7(hx:rs x)(hy:rs y):Ev fun f=>F86 f (R x) (R y)=some (R (x*y)):=Ev.from_ (18446744073709551616+10000000000+x.den*y.den+1) fun n h=>Ff0 (Y8 hx) (Y8 hy) (by decide) (by omega)
theorem Gv6(hx:rs x)(hy:rs y):Ev fun f=>F50 f (R x) (R y)=some (Br4 x y):=Ev.from_ 10000000001 fun n h=>Fe8 (Y8 hx) (Y8 hy) (by decide) (by omega)
theorem Ft5(hx:rs x):Ev fun f=>F48 f (T x)=some (R x):=Ev.from_ 2000000011 fun n h=>Do4 hx (by decide) (by omega)
theorem Gj1(hx:rs x):Ev fun f=>F87 f (R x)=some (T x):=Ev.from_ 2000000011 fun n h=>Eg5 hx (by decide) (by omega)
theorem eOf{n d:Int}(h0: -9223372036854775808<=n)(h1:n<9223372036854775808)(hd:0<d)(hd1:d<9223372036854775808):Ev fun f=>F51 f n d=some (R (Rat.divInt n d)):=Ev.from_ 40000000000000000001 fun f h=>Gk0 h0 h1 hd hd1 (by omega)
theorem Gp9:Ev fun f=>F51 f 0 1=some (R 0):=eOf (by decide) (by decide) (by decide) (by decide)
theorem Gv8:Ev fun f=>F51 f 1 1=some (R 1):=eOf (by decide) (by decide) (by decide) (by decide)
theorem Gj0(hx:rs x)(hy:rs y):Ev fun f=>F37 f (T x) (T y)=some (T (x+y)):=Ev.from_ (2000000010+x.den*y.den+1) fun n h=>Gu2 hx hy (by decide) (by omega)
theorem Dm1(hx:rs x):Ev fun f=>F41 f (T x)=some (Br4 x 0):=Ev.from_ 2000000011 fun n h=>Gl4 hx (by decide) (by omega)
theorem Gq0{n d:Int}(h0: -9223372036854775808<=n)(h1:n<=9223372036854775807)(hd:0<d)(hd1:d<=9223372036854775807):Ev fun f=>F39 f n d=some (T (Rat.divInt n d)):=Ev.from_ 10000000000000000001 fun f h=>of2 h0 h1 hd hd1 (by omega)
end
theorem sbe{α β:Type}{o:Option α}{x:α}{f:α->Option β}{z:Option β}(h:o=some x)(h2:f x=z):o.bind f=z:=by subst h;exact h2
theorem D8{α β:Type}{f:α->β}{l:List α}{i:Nat}(h:i<l.length):C2 (l.map f) (i:Int)=some (f l[i]):=by
 rw[D3];simp[h]
end
section
structure Cho where
 act:List UInt8
 gain:Rat
 next:List (Int×Rat)
structure Mdl where
 own:List Int
 ch:List (List Cho)
def eB(b:Int×Rat):B7:=⟨b.1,T b.2⟩
def eC(c:Cho):A2:=⟨c.act,T c.gain,c.next.map eB⟩
def eL(l:List Cho):List A2:=l.map eC
def eM(m:Mdl):A9:=⟨m.own,m.ch.map eL⟩
def Fe6(v:List Rat):List (Int×Rat)->Rat->Rat
 |[],x=>x
 |b::l,x=>Fe6 v l (x+b.2*v.getD b.1.toNat 0)
def mix(v:List Rat)(c:Cho):Rat:=Fe6 v c.next 0
def Dz4(own:Int):List Rat->Nat->Nat->Rat->Rat×Nat
 |[],_,k,n=>(n,k)
 |m::l,i,k,n=>if own=0/\n<m\/own=1/\m<n then Dz4 own l (i+1) i m else Dz4 own l (i+1) k n
def bst(own:Int):List Rat->Rat×Nat
 |[]=>(0,0)
 |x::l=>Dz4 own l 1 0 x
def okN(g n:Nat)(c:Cho):Prop:=c.next.length<=12/\∀b∈c.next,fr g 1 b.2/\0<=b.1/\b.1.toNat<n
def szs(g D B:Nat):Prop:=0<g/\0<D/\∃p q,g*D<=10^p/\B*12+1<=10^q/\p+q<1000000
theorem Es3{g D B:Nat}(h:szs g D B){r:Rat}:(fr D B r->rs r)/\(fr g 1 r->rs r)/\∀i,i<=12->fr (g*D) (B*i) r->rs r:=by
 obtain⟨h0,h1,p,q,h2,h3,h4⟩:=h;have e1:D<=g*D:=br_ _ h0;have e2:g<=g*D:=Nat.le_mul_of_pos_right _ h1;refine⟨fun h=>Aq8 h (ah_ e1 h2) (show B<=10^q by omega) h4,fun h=>Aq8 h (ah_ e2 h2) (show 1<=10^q by omega) h4,fun i hi h=>Aq8 h h2 (ah_ (Nat.mul_le_mul_left _ hi) (show B*12<=10^q by omega)) h4⟩
theorem Gv9{v:List Rat}{t:Int}(h0:0<=t)(h:t.toNat<v.length):C2 (v.map R) t=some (R (v.getD t.toNat 0)):=by
 have:=D8 (f:=R) h;rw[cj_ h0]at this;rw[this,ak_,aa_ h];rfl
theorem frD{D B:Nat}{v:List Rat}(hv:∀x∈v,fr D B x){i:Nat}(h:i<v.length):fr D B (v.getD i 0):=by
 rw[ak_,aa_ h];exact hv _ (af_ h)
theorem K1{α:Type}{l:List α}{i:Nat}{b:α}{t:List α}(h:l.drop i=b::t):∃hi:i<l.length,l[i]=b/\l.drop (i+1)=t:=by
 have hi:i<l.length:=by
  rcases bc_ i l.length with h'|h'
  .exact h'
  .rw[ag_ h']at h;cases h
 rw[ai_ hi]at h;injection h with h1 h2
 exact⟨hi,h1,h2⟩
theorem drop_nil{α:Type}{l:List α}{i:Nat}(h:l.drop i=[]):l.length<=i:=by
 simpa using h
theorem Dr3{v:List Rat}{g D B n:Nat}(hn:n=v.length)(hv:∀x∈v,fr D B x):∀(l:List (Int×Rat)) (i:Nat) (x:Rat),(∀b∈l,fr g 1 b.2/\0<=b.1/\b.1.toNat<n)->fr (g*D) (B*i) x->fr (g*D) (B*(i+l.length)) (Fe6 v l x)
 |[],i,x,_,hx=>by simpa[Fe6] using hx
 |b::l,i,x,hc,hx=>by
  obtain⟨p1,p2,p3⟩:=hc b ab_;have hw:=frD hv (show b.1.toNat<v.length by omega);have hm:fr (g*D) (B*1) (b.2*v.getD b.1.toNat 0):=by rw[ch_];have:=Do3 p1 hw;rwa [bj_]at this
  have ha:fr (g*D) (B*(i+1)) (x+b.2*v.getD b.1.toNat 0):=by have:=Bw3 hx hm;rwa [<-Nat.mul_add]at this
  have:=Dr3 hn hv l (i+1) _ (fun b hb=>hc b (mem_cons_of_mem _ hb)) ha;rw[show i+(b::l).length=i+1+l.length by simp;omega];exact this
theorem Dr4{c:Cho}{v:List Rat}{g D B n:Nat}(hc:okN g n c)(hn:n=v.length)(hv:∀x∈v,fr D B x)(hg:0<g)(hD:0<D):fr (g*D) (B*12) (mix v c):=
 Ci1 (Dr3 hn hv c.next 0 0 hc.2 (Aq9 (bl_ hg hD))) (Nat.mul_le_mul_left _ (by have:=hc.1;omega))
end
section
theorem Dr5{c:Cho}{v:List Rat}{g D B n:Nat}(hc:okN g n c)(hn:n=v.length)(hv:∀x∈v,fr D B x)(hs:szs g D B):
 ∀(l:List (Int×Rat)) (i:Nat) (x:Rat),c.next.drop i=l->fr (g*D) (B*i) x->
  Ev fun f=>∀k,l.length<k->Bg6 f (eC c) (v.map R) k (i:Int) (R x).n_.neg (R x).n_.mag (R x).d.neg (R x).d.mag=some (R (Fe6 v l x))
 |[],i,x,hd,hx=>Ev.of fun f k hk=>by
  obtain⟨k,rfl⟩:∃j,k=j+1:=⟨k-1,by simp at hk;omega⟩
  have:=drop_nil hd;unfold Bg6;rw[dF_ (by simp[eC];omega)];rfl
 |b::l,i,x,hd,hx=>by
  obtain⟨hi,hb,hd'⟩:=K1 hd;obtain⟨c1,c2⟩:=hc;obtain⟨p1,p2,p3⟩:=c2 b (by rw[<-hb];exact af_ hi);have hw:=frD hv (show b.1.toNat<v.length by omega);have hm:fr (g*D) (B*1) (b.2*v.getD b.1.toNat 0):=by rw[ch_];have:=Do3 p1 hw;rwa [bj_]at this
  have ha:fr (g*D) (B*(i+1)) (x+b.2*v.getD b.1.toNat 0):=by have:=Bw3 hx hm;rwa [<-Nat.mul_add]at this
  have hz:= @Es3 _ _ _ hs;have i12:i+1<=12:=by omega
  refine((((Ft5 (hz.2.1 p1)).and (Gv7 (hz.2.1 p1) (hz.1 hw))).and (Gp8 (hz.2.2 i (by omega) hx) (hz.2.2 1 (by omega) hm))).and (Dr5 ⟨c1,c2⟩ hn hv hs l (i+1) _ hd' ha)).mono fun f h k hk=> ?_
  obtain⟨⟨⟨h1,h2⟩,h3⟩,h4⟩:=h;obtain⟨k,rfl⟩:∃j,k=j+1:=⟨k-1,by simp at hk;omega⟩
  unfold Bg6;rw[dT_ (by simp[eC];omega)];simp only[cond_true];refine sbe (x:=eB b) (by rw[show(eC c).Next=c.next.map eB from rfl,D8 hi,hb]) ?_;have hgt:=Gv9 p2 (show b.1.toNat<v.length by omega);refine sbe h1 (sbe hgt (sbe h2 (sbe h3 ?_)));rw[wi i (by omega)];exact h4 k (by simp at hk;omega)
theorem Eg1{c:Cho}{v:List Rat}{g D B n:Nat}(hc:okN g n c)(hn:n=v.length)(hv:∀x∈v,fr D B x)(hs:szs g D B):Ev fun f=>F55 f (eC c) (v.map R)=some (R (mix v c)):=by
 have h0:=hs.1;have h1:=hs.2.1;refine((Gp9.and (Dr5 hc hn hv hs c.next 0 0 rfl (Aq9 (bl_ h0 h1)))).and (Ev.ge 13)).mono fun f h=> ?_
 obtain⟨⟨e1,e2⟩,e3⟩:=h;unfold F55;exact sbe e1 (e2 f (by have:=hc.1;omega))
theorem Ff7{own:Int}{x m:Rat}:(bif own==0 then(bif decide (Br4 m x>0) then some true else bif own==1 then some (decide (Br4 m x<0)) else some false) else bif own==1 then some (decide (Br4 m x<0)) else some false)=some (decide (own=0/\x<m\/own=1/\m<x)):=by
 rw[Ec7,Bm7];by_cases h0:own=0
 .subst h0;by_cases h:x<m<;>simp[h]
 .by_cases h1:own=1
  .subst h1;simp
  .rw[beq_false_of_ne h0,beq_false_of_ne h1];simp[h0,h1]
theorem Ei9{α:Type}(a:α)(l:List α):slc (a::l) 1 (((a::l).length:Nat):Int)=some l:=by
 unfold slc;rw[show(decide ((0:Int)<=1)&&decide ((1:Int)<=(((a::l).length:Nat):Int))&&decide ((((a::l).length:Nat):Int)<=(((a::l).length:Nat):Int)))=true by simp;omega];simp
structure okS(g:Nat)(m:Mdl):Prop where
 len:m.own.length=m.ch.length
 le:m.ch.length<=12
 cs:∀l∈m.ch,l≠[]/\l.length<=1000000/\∀c∈l,okN g m.ch.length c
def bgn(m:Mdl)(tg:Nat):List Rat:=(List.range m.own.length).map fun s=>if tg.testBit s then 1 else 0
theorem Bm1{own:Int}{P:Rat->Prop}:∀(l:List Rat) (i k:Nat) (x:Rat),P x->(∀y∈l,P y)->P (Dz4 own l i k x).1
 |[],_,_,_,h,_=>h
 |m::l,i,k,x,h,hl=>by
  unfold Dz4;split
  .exact Bm1 l _ _ m (hl m ab_) fun y hy=>hl y (mem_cons_of_mem _ hy)
  .exact Bm1 l _ _ x h fun y hy=>hl y (mem_cons_of_mem _ hy)
theorem Fb0{own:Int}{P:Rat->Prop}{l:List Rat}(h0:l≠[])(hl:∀y∈l,P y):P (bst own l).1:=by
 cases l with
 |nil=>exact absurd rfl h0
 |cons x l=>exact Bm1 l _ _ x (hl x ab_) fun y hy=>hl y (mem_cons_of_mem _ hy)
theorem Dj5{m:Mdl}{tg:Nat}(hl:m.own.length<=12)(ht:tg<18446744073709551616){z:A7}{l1:List A7}(h1:l1.length=m.own.length):
 ∀(r i:Nat),i+r=m.own.length->Ev fun f=>∀k,r<k->Bg4 f (tg:Int) l1 k (i:Int) (fil (fun s=>R (if tg.testBit s then 1 else 0)) z m.own.length i)=some ((bgn m tg).map R)
 |0,i,hi=>Ev.of fun f k hk=>by
  obtain⟨k,rfl⟩:∃j,k=j+1:=⟨k-1,by omega⟩
  obtain rfl:i=m.own.length:=by omega
  unfold Bg4;rw[dF_ (by simp[h1]),Do1];simp[bgn,Function.comp_def]
 |r+1,i,hi=>by
  have hil:i<m.own.length:=by omega
  refine((Gp9.and Gv8).and (Dj5 hl ht (z:=z) h1 r (i+1) (by omega))).mono fun f h k hk=> ?_
  obtain⟨⟨e0,e1⟩,h3⟩:=h;obtain⟨k,rfl⟩:∃j,k=j+1:=⟨k-1,by omega⟩
  have g1:(fil (fun s=>R (if tg.testBit s then 1 else 0)) z m.own.length i).set (0+Int.toNat (i:Int)) (R (if tg.testBit i then 1 else 0))=fil (fun s=>R (if tg.testBit s then 1 else 0)) z m.own.length (i+1):=by rw[tn];exact Aq6 hil
  unfold Bg4;rw[dT_ (by simp[h1];omega)];simp only[cond_true];rw[D1 (dT_ (by omega)),En0 ht (by omega)];refine sbe (x:=R (if tg.testBit i then 1 else 0)) ?_ (sbe (Ak7 hil) (sbe rfl ?_))
  .cases hbit:tg.testBit i with
   |true=>exact e1
   |false=>exact e0
  .rw[g1,wi i (by omega)];exact h3 k (by omega)
theorem Ec2{m:Mdl}{tg:Nat}(hl:m.own.length<=12)(ht:tg<18446744073709551616):Ev fun f=>F44 f (eM m) (tg:Int)=some ((bgn m tg).map R):=by
 refine((Dj5 hl ht (z:=(⟨(⟨false,[]⟩:A5),(⟨false,[]⟩:A5)⟩:A7)) (l1:=List.replicate m.own.length (⟨(⟨false,[]⟩:A5),(⟨false,[]⟩:A5)⟩:A7)) (by simp) m.own.length 0 (by omega)).and (Ev.ge 13)).mono fun f h=> ?_
 obtain⟨h1,h2⟩:=h;unfold F44;simp only[length_map,show(eM m).Owner=m.own from rfl];refine sbe (At9 (by omega) _) ?_;have:=h1 f (by omega)
 rwa [Dn9]at this
theorem Dx2{l:List Rat}(hl:l.length<=1000000)(hr:∀x∈l,rs x){z:List UInt8}:
 ∀(r i:Nat),i+r=l.length->Ev fun f=>∀k,r<k->Bg5 f (l.map R) k (i:Int) (fil (fun s=>T (l.getD s 0)) z l.length i)=some (l.map T)
 |0,i,hi=>Ev.of fun f k hk=>by
  obtain⟨k,rfl⟩:∃j,k=j+1:=⟨k-1,by omega⟩
  obtain rfl:i=l.length:=by omega
  unfold Bg5;rw[dF_ (by simp),Do1];simp only[cond_false];congr 1;refine ext_getElem (by simp) fun j h1 h2=> ?_
  simp at h1;simp[h1]
 |r+1,i,hi=>by
  have hil:i<l.length:=by omega
  refine((Gj1 (hr l[i] (af_ hil))).and (Dx2 hl hr (z:=z) r (i+1) (by omega))).mono fun f h k hk=> ?_
  obtain⟨h1,h3⟩:=h;obtain⟨k,rfl⟩:∃j,k=j+1:=⟨k-1,by omega⟩
  have g1:(fil (fun s=>T (l.getD s 0)) z l.length i).set (0+Int.toNat (i:Int)) (T l[i])=fil (fun s=>T (l.getD s 0)) z l.length (i+1):=by
   rw[tn,show l[i]=l.getD i 0 by simp[hil]];exact Aq6 hil
  unfold Bg5;rw[dT_ (by simp;omega)];simp only[cond_true];refine sbe (D8 hil) (sbe h1 (sbe (Ak7 hil) (sbe rfl ?_)));rw[g1,wi i (by omega)];exact h3 k (by omega)
theorem Cv2{l:List Rat}(hl:l.length<=1000000)(hr:∀x∈l,rs x):Ev fun f=>F46 f (l.map R)=some (l.map T):=by
 refine((Dx2 hl hr (z:=[]) l.length 0 (by omega)).and (Ev.ge 1000001)).mono fun f h=> ?_
 obtain⟨h1,h2⟩:=h;unfold F46;simp only[length_map];refine sbe (At9 (by omega) _) ?_;have:=h1 f (by omega)
 rwa [Dn9]at this
end
section
def dgt(s:List UInt8):Prop:=∀c∈s,48<=c.toNat/\c.toNat<=57
def Dc1(s:List UInt8):Bool:=s.all fun c=>decide (48<=c.toNat)&&decide (c.toNat<=57)
theorem Bn0{s:List UInt8}:Dc1 s=true↔dgt s:=by simp[Dc1,dgt]
def body(s:List UInt8):List UInt8:=if s.head? =some 45 then s.tail else s
def Be5(s:List UInt8):Bool:=s==[48]||(match body s with|[]=>false|c::r=>decide (c.toNat≠48)&&Dc1 (c::r))
theorem At6(s:List UInt8):(∃n,s=tx n)↔Be5 s=true:=by
 have h0:tx 0=[48]:=rfl;constructor
 .rintro ⟨n,rfl⟩
  unfold Be5;rw[Bool.or_eq_true];rcases bk_ n 0 with h|h|h
  .right;have e:tx n=45::dtx (-n):=by unfold tx;rw[if_pos h]
   have eb:body (tx n)=dtx (-n):=by rw[e];rfl
   obtain⟨c,r,h1,h2,h3⟩:=Bn3 (show 0< -n by omega);rw[eb,h1];simp only[Bool.and_eq_true,decide_eq_true_eq];exact⟨by omega,Bn0.2 (by rw[<-h1];exact H2 (by omega))⟩
  .left;subst h;rfl
  .right;obtain⟨c,r,h1,h2,h3⟩:=Bn3 h;have e:tx n=c::r:=by rw[An0 (by omega),h1]
   have eb:body (tx n)=c::r:=by
    rw[e];unfold body;rw[if_neg (by simp;intro hc;subst hc;exact absurd h2 (by decide))]
   rw[eb];simp only[Bool.and_eq_true,decide_eq_true_eq];exact⟨by omega,Bn0.2 (by rw[<-h1];exact H2 (by omega))⟩
 .intro h;unfold Be5 at h;rw[Bool.or_eq_true]at h;rcases h with h|h
  .exact⟨0,by rw[h0];simpa using h⟩
  .split at h
   .cases h
   .rename_i c r he;simp only[Bool.and_eq_true,decide_eq_true_eq]at h;have hd:=Bn0.1 h.2;obtain⟨h1,h2⟩:=Ft3 (s:=body s) (by rw[he];exact hd) he h.1;by_cases hb:s.head? =some 45
    .refine⟨-(fv 0 (body s)),?_⟩;unfold tx;rw[if_pos (by omega),Int.neg_neg,<-h1];cases s with
     |nil=>cases hb
     |cons x s=>simp at hb;subst hb;rfl
    .refine⟨fv 0 (body s),?_⟩;rw[An0 (by omega),<-h1];unfold body;rw[if_neg hb]
theorem Bf0(n:Int):lt n<=(tx n).length:=by
 unfold lt;rcases bk_ n 0 with h|h|h
 .unfold tx;rw[if_pos h,length_cons,Ai1 (show 0< -n by omega),show((n.natAbs:Nat):Int)= -n by omega];omega
 .subst h;rw[show(((0:Int).natAbs:Nat):Int)=0 from rfl,E7 (Int.le_refl _)];exact at_ _
 .rw[An0 (by omega),Ai1 h,show((n.natAbs:Nat):Int)=n by omega];omega
theorem Es5(c:UInt8):toI c=(c.toNat:Int):=rfl
theorem Dy3{s:List UInt8}(hl:s.length<=100000000):∀(r i k:Nat),i+r=s.length->r<k->Ao7 s k (i:Int)=some (if Dc1 (s.drop i)=true then(if 2000<s.length then 6 else 0) else 5)
 |_,_,0,_,h=>absurd h (by omega)
 |0,i,k+1,hi,_=>by
  have hi:i=s.length:=by omega
  subst hi;unfold Ao7;rw[dF_ (by simp),drop_length];simp only[cond_false,show Dc1 []=true from rfl,if_true];by_cases h:2000<s.length
  .rw[dT_ (by omega),if_pos h];rfl
  .rw[dF_ (by omega),if_neg h];rfl
 |r+1,i,k+1,hi,hk=>by
  have hil:i<s.length:=by omega
  unfold Ao7;rw[dT_ (by simp;omega),D8 hil];simp only[cond_true,sb,Es5];rw[ai_ hil,show Dc1 (s[i]::s.drop (i+1))=((decide (48<=s[i].toNat)&&decide (s[i].toNat<=57))&&Dc1 (s.drop (i+1))) from rfl];have ih:=Dy3 hl r (i+1) k (by omega) (by omega);by_cases h1:48<=s[i].toNat
  .rw[dF_ (show¬(s[i].toNat:Int)<48 by omega)];simp only[cond_false,sb];by_cases h2:s[i].toNat<=57
   .rw[dF_ (show¬(s[i].toNat:Int)>57 by omega),dT_ h1,dT_ h2];simp only[cond_false,Bool.true_and];rw[wi i (by omega)];exact ih
   .rw[dT_ (show(s[i].toNat:Int)>57 by omega),dF_ h2];simp only[cond_true,Bool.and_false,Bool.false_and,Bool.false_eq_true,if_false];rfl
  .rw[dT_ (show(s[i].toNat:Int)<48 by omega),dF_ h1];simp only[cond_true,sb,Bool.false_and,Bool.false_eq_true,if_false];rfl
theorem Ai9{fuel:Nat}{s:List UInt8}(hl:s.length<=100000000)(hf:s.length<fuel):∃e:Int,Ek3 fuel s=some e/\(e==5)= !Be5 s:=by
 have htp:Fj3 s [45]=some (body s):=Fy6;have hbl:(body s).length<=s.length:=by unfold body;split<;>simp
 unfold Ek3 Be5;rw[htp,sb];by_cases h0:s=[48]
 .subst h0;exact⟨0,rfl,rfl⟩
 .rw[show(s==[48])=false by simpa using h0];simp only[cond_false,Bool.false_or];cases hb:body s with
  |nil=>exact⟨5,rfl,rfl⟩
  |cons c r=>
   rw[show((c::r)==([]:List UInt8))=false from rfl];simp only[cond_false];rw[show C2 (c::r) 0=some c from rfl];simp only[sb];by_cases h1:c.toNat=48
   .rw[show((c.toNat:Int)==48)=true by rw[h1];rfl];exact⟨5,rfl,by simp[h1]⟩
   .rw[show((c.toNat:Int)==48)=false by rw[beq_eq_false_iff_ne];omega,show(0:Int)=((0:Nat):Int) from rfl];simp only[cond_false];rw[hb]at hbl;rw[Dy3 (by omega) (c::r).length 0 fuel (by omega) (by omega),drop_zero];refine⟨_,rfl,?_⟩;rw[dT_ h1,Bool.true_and];cases hd:Dc1 (c::r) with
    |true=>
     simp only[if_true,Bool.not_true];split<;>rfl
    |false=>rfl
theorem Az2:∀q:List UInt8,((∀c∈q,c≠47)/\Be6 47 q=(q,[],false))\/∃a b,q=a++47::b/\(∀c∈a,c≠47)/\Be6 47 q=(a,b,true)
 |[]=> .inl ⟨fun c h=>(by cases h),rfl⟩
 |c::q=>by
  by_cases hc:c=47
  .subst hc;exact .inr ⟨[],q,rfl,fun c h=>(by cases h),P4 [] q fun c h=>(by cases h)⟩
  .rcases Az2 q with⟨h1,h2⟩|⟨a,b,h1,h2,h3⟩
   .have hq:∀x∈c::q,x≠47:=fun x hx=>by
     rcases mem_cons.1 hx with rfl|h
     .exact hc
     .exact h1 x h
    exact .inl ⟨hq,Au7 _ hq⟩
   .have ha:∀x∈c::a,x≠47:=fun x hx=>by
     rcases mem_cons.1 hx with rfl|h
     .exact hc
     .exact h2 x h
    subst h1;exact .inr ⟨c::a,b,rfl,ha,P4 (c::a) b ha⟩
theorem Em3{n d:Int}(hd:1<d)(hg:Int.gcd n d=1):tx n++47::tx d=T (Rat.divInt n d):=by
 rw[Ez2 (by omega),hg];simp;intro h;omega
theorem Cx3(r:Rat):(∃n,T r=tx n)\/∃n d:Int,T r=tx n++47::tx d/\1<d/\Int.gcd n d=1:=by
 unfold T;by_cases h:r.den=1
 .rw[if_pos h];exact .inl ⟨_,rfl⟩
 .rw[if_neg h];refine .inr ⟨r.num,r.den,rfl,by have:=r.den_pos;omega,?_⟩;exact r.reduced
theorem Gc9{n:Int}{a b:List UInt8}(h:tx n=a++47::b):False:=An1 (n:=n) 47 (by rw[h];simp) rfl
theorem Eb8{a b a' b':List UInt8}(ha:∀c∈a,c≠47)(ha':∀c∈a',c≠47)(h:a++47::b=a'++47::b'):a=a'/\b=b':=by
 have h1:=P4 a b ha;have h2:=P4 a' b' ha';rw[h,h2]at h1;injection h1 with h3 h4
 injection h4 with h5 h6
 exact⟨h3.symm,h5.symm⟩
theorem Dp9(n:Int):(Rat.divInt n 1).num=n/\(Rat.divInt n 1).den=1:=by
 have e:Rat.divInt n 1=(n:Rat):=by rw[Rat.divInt_eq_div];simp only[Rat.intCast_one];grind
 rw[e];exact⟨rfl,rfl⟩
def Cz2(k:Int)(r:Rat):Bool:=decide (((dtx (r.num.natAbs:Int)).length:Int)<=k)&&decide (((dtx (r.den:Int)).length:Int)<=k)
theorem Ci0{r:Rat}{k:Int}(h:rsz 10000000 r):Eu6 (R r) k=some (Cz2 k r):=by
 have h1:=Y8 h;unfold Eu6 Cz2;rw[show(R r).n_=W r.num from rfl,show(R r).d=W (r.den:Int) from rfl,Bv1 (by have:=h1.1;omega),sb,Bv1 (by have:=h1.2;omega)];rw[a6_];cases decide (((dtx (r.num.natAbs:Int)).length:Int)<=k)<;>rfl
theorem Ak0{s:List UInt8}(h:Be5 s=false):¬∃n,s=tx n:=fun h'=>by rw[(At6 s).1 h']at h;cases h
theorem Gj5{fuel:Nat}{n:Int}(hl:(tx n).length<=10000000)(hf:2000000010<fuel):F48 fuel (tx n)=some (R (Rat.divInt n 1)):=by
 rw[<-Di5 n];have hr:rsz 100000000 (Rat.divInt n 1):=by
  obtain⟨hn,hd⟩:=Dp9 n;refine⟨by rw[hn];have:=Bf0 n;omega,by rw[hd];exact ah_ (Ac5 (L:=1) (by decide)) (by decide)⟩
 exact Do4 hr (ad_ _) hf
theorem Gj4{fuel:Nat}{n d:Int}(hl:(tx n).length+(tx d).length<=10000000)(hf:2000000010<fuel):F48 fuel (tx n++47::tx d)=some ⟨W n,W d⟩:=by
 unfold F48 F97 Fk9;rw[dT_ (show(tx n++47::tx d).length<=2147483648 by simp;omega)];show Option.bind (some (Be6 47 (tx n++47::tx d))) _=_;rw[P4 _ _ An1,sb];simp only[Bool.not_true,cond_false];rw[Bc5 (by omega) (by omega),sb,Bc5 (by omega) (by omega),sb]
theorem Fg5{n:Int}(hl:(tx n).length<=10000000):rsz 10000000 (Rat.divInt n 1):=by
 obtain⟨hn,hd⟩:=Dp9 n;exact⟨by rw[hn];have:=Bf0 n;omega,by rw[hd];exact ah_ (Ac5 (L:=1) (by decide)) (by decide)⟩
theorem Du3{n d:Int}(hd:1<d)(hg:Int.gcd n d=1):(Rat.divInt n d).num=n/\((Rat.divInt n d).den:Int)=d:=by
 constructor
 .rw[db_,ca_ (by omega),Int.one_mul,c8_,hg];simp
 .rw[cu_,if_neg (by omega),c8_,hg];simp;omega
theorem Fg6{n d:Int}(hd:1<d)(hg:Int.gcd n d=1)(hl:(tx n).length+(tx d).length<=10000000):rsz 10000000 (Rat.divInt n d):=by
 obtain⟨h1,h2⟩:=Du3 hd hg;exact⟨by rw[h1];have:=Bf0 n;omega,by rw[h2];have:=Bf0 d;omega⟩
def rdd(q:List UInt8)(y:D0):Prop:=(y.e=5/\¬∃r,q=T r)\/∃r,q=T r/\rsz 10000000 r/\y=if Cz2 2000 r=true then⟨R r,0⟩ else⟨⟨⟨false,[]⟩,⟨false,[]⟩⟩,6⟩
theorem Cu1{q:List UInt8}(hq:q.length<=9000000):∃y,rdd q y/\Ev fun f=>F96 f q=some y:=by
 have hcut:F97 q [47]=some (Be6 47 q):=by
  unfold F97 Fk9;rw[dT_ (show q.length<=2147483648 by omega)];rfl
 have h49:∀fuel,3<fuel->∃e:Int,Ek3 fuel [49]=some e/\(e==5)=false:=fun fuel hf=>by
  obtain⟨e,h1,h2⟩:=Ai9 (fuel:=fuel) (s:=[49]) (by decide) (by simp;omega);exact⟨e,h1,h2⟩
 rcases Az2 q with⟨hno,hc⟩|⟨a,b,hqe,hno,hc⟩
 ·--no slash
  cases hcan:Be5 q with
  |false=>
   refine⟨(⟨⟨⟨false,[]⟩,⟨false,[]⟩⟩,5⟩:D0),.inl ⟨rfl,fun⟨r,hr⟩=> ?_⟩,Ev.from_ 100000001 fun f hf=> ?_⟩
   rotate_left
   .obtain⟨e,h1,h2⟩:=Ai9 (fuel:=f) (s:=q) (by omega) (by omega);unfold F96;rw[hcut,sb,hc];simp only[Bool.not_false,cond_true];rw[h1,sb,h2,hcan];rfl
   .rcases Cx3 r with⟨n,h⟩|⟨n,d,h,_⟩
    .exact Ak0 hcan ⟨n,by rw[hr,h]⟩
    .exact hno 47 (by rw[hr,h];simp) rfl
  |true=>
   obtain⟨n,rfl⟩:=(At6 q).2 hcan;have hz:=Fg5 (n:=n) (by omega);refine⟨_,.inr ⟨Rat.divInt n 1,(Di5 n).symm,hz,rfl⟩,Ev.from_ 40000000000000000001 fun f hf=> ?_⟩;obtain⟨e,h1,h2⟩:=Ai9 (fuel:=f) (s:=tx n) (by omega) (by omega);obtain⟨e',h1',h2'⟩:=h49 f (by omega);unfold F96;rw[hcut,sb,hc];simp only[Bool.not_false,cond_true];rw[h1,sb,h2,hcan];simp only[Bool.not_true,cond_false];rw[h1',sb,h2',sb];simp only[cond_false];rw[Gj5 (by omega) (by omega),sb];unfold Ek4;rw[sb,Am5 (by decide) (by decide) (by omega),sb,sb];simp only[cond_false];rw[Ci0 hz,sb];cases Cz2 2000 (Rat.divInt n 1)<;>rfl
 ·--a slash
  have hlen:a.length+b.length+1=q.length:=by rw[hqe];simp;omega
  have bad:Be5 a=false\/Be5 b=false->∃y,rdd q y/\Ev fun f=>F96 f q=some y:=fun hb=>by
   refine⟨(⟨⟨⟨false,[]⟩,⟨false,[]⟩⟩,5⟩:D0),.inl ⟨rfl,fun⟨r,hr⟩=> ?_⟩,Ev.from_ 100000001 fun f hf=> ?_⟩
   rotate_left
   .obtain⟨e,h1,h2⟩:=Ai9 (fuel:=f) (s:=a) (by omega) (by omega);obtain⟨e',h1',h2'⟩:=Ai9 (fuel:=f) (s:=b) (by omega) (by omega);unfold F96;rw[hcut,sb,hc];simp only[Bool.not_true,cond_false];rw[h1,sb,h2];cases hca:Be5 a with
    |false=>rfl
    |true=>
     rcases hb with h|h
     .rw[hca]at h;cases h
     .simp only[Bool.not_true,cond_false];rw[h1',sb,h2',h];rfl
   .rcases Cx3 r with⟨n,h⟩|⟨n,d,h,_⟩
    .rw[h,hqe]at hr;exact Gc9 hr.symm
    .rw[h,hqe]at hr;obtain⟨e1,e2⟩:=Eb8 hno An1 hr;rcases hb with h|h
     .exact Ak0 h ⟨n,e1⟩
     .exact Ak0 h ⟨d,e2⟩
  cases hca:Be5 a with
  |false=>exact bad (.inl hca)
  |true=>
  cases hcb:Be5 b with
  |false=>exact bad (.inr hcb)
  |true=>
  obtain⟨n,rfl⟩:=(At6 a).2 hca;obtain⟨d,rfl⟩:=(At6 b).2 hcb;subst hqe;have hln:=Bf0 n;have hld:=Bf0 d;have l1:=Bo9 n;have l2:=Bo9 d;have l3:=Ef4 (a:=1) (by decide);have notT:¬(1<d/\Int.gcd n d=1)->¬∃r,tx n++47::tx d=T r:=fun hb ⟨r,hr⟩=>by
   rcases Cx3 r with⟨m,h⟩|⟨m,e,h,h1,h2⟩
   .rw[h]at hr;exact Gc9 hr.symm
   .rw[h]at hr;obtain⟨e1,e2⟩:=Eb8 An1 An1 hr;rw[Am9 e1,Am9 e2]at hb;exact hb ⟨h1,h2⟩
  have main:∀f,18446744073709551616+536870900+d.natAbs+40000000000000000001<f->F96 f (tx n++47::tx d)=(if 1<d/\Int.gcd n d=1 then (Eu6 ⟨W n,W d⟩ 2000).bind fun y34=>bif !y34 then some ⟨⟨⟨false,[]⟩,⟨false,[]⟩⟩,6⟩ else some ⟨⟨W n,W d⟩,0⟩ else some ⟨⟨⟨false,[]⟩,⟨false,[]⟩⟩,5⟩):=fun f hf=>by
   obtain⟨e,h1,h2⟩:=Ai9 (fuel:=f) (s:=tx n) (by omega) (by omega);obtain⟨e',h1',h2'⟩:=Ai9 (fuel:=f) (s:=tx d) (by omega) (by omega);unfold F96;rw[hcut,sb,hc];simp only[Bool.not_true,cond_false];rw[h1,sb,h2,hca];simp only[Bool.not_true,cond_false];rw[h1',sb,h2',hcb];simp only[Bool.not_true,sb,cond_false];rw[Gj4 (by omega) (by omega),sb];unfold Ek4;rw[sb,Am5 (by decide) (by decide) (by omega),sb];simp only[cond_true];rw[Cl2 (by omega) (by omega) (by omega),sb];by_cases hd:1<d
   .rw[dF_ (by rw[D6 hd];decide)];simp only[cond_false];have hgl:ln ((Int.gcd n d:Nat):Int)<=ln d:=Dq4 (by
     have:((Int.gcd n d:Nat):Int)∣d:=dc_ ..;have:=Int.le_of_dvd (by omega) this;omega)
    rw[Ep3 (by omega) (by omega) (by omega),sb,Cl2 (by omega) (by omega) (by omega),sb,Gc1,sb];by_cases hg:Int.gcd n d=1
    .rw[if_pos ⟨hd,hg⟩,hg];rfl
    .rw[if_neg (fun h=>hg h.2),dT_ (show((Int.gcd n d:Nat):Int)≠1 by omega)];rfl
   .rw[if_neg (fun h=>hd h.1),dT_ (by
     rcases cp_ (show d<=1 by omega) with h|h
     .rw[D4 h];decide
     .rw[h,I0];decide)]
    rfl
  by_cases hok:1<d/\Int.gcd n d=1
  .obtain⟨hd,hg⟩:=hok;have hz:=Fg6 hd hg (by omega);have hR:(⟨W n,W d⟩:A7)=R (Rat.divInt n d):=by
    obtain⟨e1,e2⟩:=Du3 hd hg;unfold R;rw[e1,e2]
   refine⟨_,.inr ⟨Rat.divInt n d,Em3 hd hg,hz,rfl⟩,Ev.from_ (18446744073709551616+536870900+d.natAbs+40000000000000000002) fun f hf=> ?_⟩;rw[main f (by omega),if_pos ⟨hd,hg⟩,hR,Ci0 hz,sb];cases Cz2 2000 (Rat.divInt n d)<;>rfl
  .refine⟨(⟨⟨⟨false,[]⟩,⟨false,[]⟩⟩,5⟩:D0),.inl ⟨rfl,notT hok⟩,Ev.from_ (18446744073709551616+536870900+d.natAbs+40000000000000000002) fun f hf=> ?_⟩;rw[main f (by omega),if_neg hok]
def shB(r:Rat):Bool:=Cz2 4 r
theorem Cp6{x:Int}(h0:0<=x){k:Nat}(hk:0<k):(dtx x).length<=k↔x<10^k:=by
 constructor
 .intro h;rcases cp_ h0 with h1|h1
  .rw[Ai1 h1]at h;exact c9_ (Ah8 h10 h0) (E8 h10 h)
  .subst h1;exact p10 k
 .exact Cp7 hk
theorem Ak8{r:Rat}{k:Nat}(hk:0<k):Cz2 (k:Int) r=true↔r.num.natAbs<10^k/\r.den<10^k:=by
 unfold Cz2;rw[Bool.and_eq_true,decide_eq_true_eq,decide_eq_true_eq];have e:((10^k:Nat):Int)=(10:Int)^k:=by push_cast;rfl
 have h1:=Cp6 (x:=(r.num.natAbs:Int)) (by omega) hk;have h2:=Cp6 (x:=(r.den:Int)) (by omega) hk;rw[<-e]at h1 h2;constructor
 .rintro ⟨a,b⟩;exact⟨by have:=h1.1 (by omega);omega,by have:=h2.1 (by omega);omega⟩
 .rintro ⟨a,b⟩;exact⟨by have:=h1.2 (by omega);omega,by have:=h2.2 (by omega);omega⟩
theorem Bw2{r:Rat}{k l:Int}(h:k<=l)(hk:Cz2 k r=true):Cz2 l r=true:=by
 unfold Cz2 at hk⊢;rw[Bool.and_eq_true,decide_eq_true_eq,decide_eq_true_eq]at hk⊢;omega
theorem Dv1{q:List UInt8}(hq:q.length<=9000000):∃b,(b=true↔∃r,q=T r/\shB r=true)/\Ev fun f=>Fn1 f q=some b:=by
 obtain⟨y,h1,h2⟩:=Cu1 hq;rcases h1 with⟨he,hn⟩|⟨r,hr,hz,hy⟩
 .refine⟨false,⟨fun h=>(by cases h),fun⟨r,h,_⟩=>absurd ⟨r,h⟩ hn⟩,h2.mono fun f h=> ?_⟩;unfold Fn1;refine sbe h ?_;rw[he];rfl
 .refine⟨shB r,⟨fun h=>⟨r,hr,h⟩,fun⟨r',h,h'⟩=>by rwa [Ab7 (hr.symm.trans h)]⟩,h2.mono fun f h=> ?_⟩;unfold Fn1;refine sbe h ?_;rw[hy];by_cases hf:Cz2 2000 r=true
  .rw[if_pos hf];simp only[show((0:Int)==0)=true from rfl,cond_true];rw[Ci0 hz];rfl
  .rw[if_neg hf];cases hs:shB r with
   |true=>exact absurd (Bw2 (by decide) hs) hf
   |false=>rfl
end
section
theorem wu8{x:Int}(h:0<=x)(h':x<256):IntKind.u8.wrap x=x:=by
 have e8:(2^IntKind.u8.bits:Int)=256:=rfl;unfold IntKind.wrap;simp only[e8,show IntKind.u8.signed=false from rfl,Bool.false_and];rw[if_neg (by decide)];exact bd_ h h'
theorem Eq8{s:List UInt8}(hs:dgt s)(hl:s.length<=9):∀(r i k:Nat) (a:Int),i+r=s.length->r<k->0<=a->a<10^i->Ap4 s k a (i:Int)=some (fv a (s.drop i))
 |_,_,0,_,_,h,_,_=>absurd h (by omega)
 |0,i,k+1,a,hi,_,_,_=>by
  unfold Ap4;rw[dF_ (by omega),ag_ (by omega)];rfl
 |r+1,i,k+1,a,hi,hk,h0,h1=>by
  unfold Ap4;have hil:i<s.length:=by omega
  have hc:=hs s[i] (af_ hil);have h9:(10:Int)^i<=100000000:=by
   have:=E8 h10 (show i<=8 by omega);have:(10:Int)^8=100000000:=by decide
   omega
  rw[dT_ (by omega),C3 hil];simp only[cond_true,sb];rw[wu8 (x:=(s[i].toNat:Int)-48) (by omega) (by omega),E3 (i:=10*a) (by omega) (by omega),E3 (i:=(s[i].toNat:Int)-48) (by omega) (by omega),E3 (i:=10*a+((s[i].toNat:Int)-48)) (by omega) (by omega),wi i (by omega),Eq8 hs hl r (i+1) k _ (by omega) (by omega) (by omega) (by rw[a3_];omega),ai_ hil];rfl
theorem Ds3{f:Nat}{n:Int}(h0:0<=n)(h1:n<10000)(hf:20<f):Eb1 f (dtx n)=some n:=by
 have hd:=H2 h0;have hl:(dtx n).length<=4:=Cp7 (by decide) (by omega);obtain⟨f,rfl⟩:∃j,f=j+1:=⟨f-1,by omega⟩
 obtain⟨c,r,hcr⟩:∃c r,dtx n=c::r:=by
  cases h:dtx n with
  |nil=>exact absurd h Bi5
  |cons c r=>exact⟨c,r,rfl⟩
 have hc:=hd c (by rw[hcr];exact ab_);unfold Eb1;rw[hcr,show C2 (c::r) 0=some c from rfl,sb,show((c.toNat:Int)==45)=false by rw[beq_eq_false_iff_ne];omega];simp only[cond_false];rw[<-hcr];have hN:=Eq8 hd (by omega) (dtx n).length 0 f 0 (by omega) (by omega) (by decide) (by decide);rw[drop_zero,Bw6 h0]at hN;exact hN
theorem Ds2{f:Nat}{n:Int}(h:n.natAbs<10000)(hf:30<f):Eb1 f (tx n)=some n:=by
 by_cases hn:n<0
 .obtain⟨f,rfl⟩:∃j,f=j+1:=⟨f-1,by omega⟩
  have e:tx n=45::dtx (-n):=by unfold tx;rw[if_pos hn]
  have hl:(dtx (-n)).length<=4:=Cp7 (by decide) (by omega);rw[e];unfold Eb1;rw[show C2 (45::dtx (-n)) 0=some 45 from rfl,sb,show(((45:UInt8).toNat:Int)==45)=true from rfl];simp only[cond_true];rw[D1 (by simp;omega),show((45::dtx (-n)).drop (Int.toNat 1)).take (Int.toNat (((45::dtx (-n)).length:Int)-1))=dtx (-n) by
   rw[show Int.toNat (((45::dtx (-n)).length:Int)-1)=(dtx (-n)).length by simp];simp]
  rw[Ds3 (by omega) (by omega) (by omega),sb,E3 (by omega) (by omega)];congr 1;omega
 .rw[An0 (by omega)];exact Ds3 (by omega) (by omega) (by omega)
theorem Bd3{q:List UInt8}(hq:q.length<=9000000):(∃r,q=T r/\shB r=true/\Ev fun f=>Cm1 f q=some (r.num,(r.den:Int),true))\/((¬∃r,q=T r/\shB r=true)/\Ev fun f=>Cm1 f q=some (0,0,false)):=by
 obtain⟨b,h1,h2⟩:=Dv1 hq;cases hb:b with
 |false=>
  right;refine⟨fun h=>(by rw[h1.2 h]at hb;cases hb),h2.mono fun f h=> ?_⟩;unfold Cm1;rw[hb]at h;exact sbe h rfl
 |true=>
  left;obtain⟨r,hr,hs⟩:=h1.1 hb;obtain⟨hs1,hs2⟩:=(Ak8 (k:=4) (by decide)).1 hs;refine⟨r,hr,hs,?_⟩;obtain⟨y,h3,h4⟩:=Cu1 hq;rcases h3 with⟨_,hn⟩|⟨r',hr',hz,hy⟩
  .exact absurd ⟨r,hr⟩ hn
  .have:r'=r:=Ab7 (hr'.symm.trans hr);subst this;rw[if_pos (Bw2 (by decide) hs)]at hy;have hz':=Y8 hz;refine((h2.and h4).and (Ev.ge 20000000)).mono fun f h=> ?_
   obtain⟨⟨e1,e2⟩,e3⟩:=h;unfold Cm1 Gf1;rw[hb]at e1;refine sbe e1 ?_;simp only[Bool.not_true,cond_false];rw[e2,sb,hy];simp only[show((0:Int) !=0)=false from rfl,cond_false];unfold Ek4;rw[sb,show(R r').n_=W r'.num from rfl,show(R r').d=W (r'.den:Int) from rfl,Aw2 (by have:=hz'.1;omega) (by have:=hz'.1;omega),sb,Aw2 (by have:=hz'.2;omega) (by have:=hz'.2;omega),sb,sb,Ds2 hs1 (by omega),sb,Ds2 (by omega) (by omega),sb];rfl
theorem Ep4:∀(k:Nat) (a b:Int),b.toNat<k->0<=a->0<=b->Ax7 k a b=some ((Int.gcd a b:Nat):Int)
 |0,_,_,h,_,_=>absurd h (by omega)
 |k+1,a,b,h,ha,hb=>by
  unfold Ax7;by_cases hb0:b>0
  .rw[dT_ hb0];simp only[cond_true];rw[D1 (dT_ (by omega)),(tdm ha).2];have h1:=a4_ a (show b≠0 by omega);have h2:=a2_ a hb0;rw[Ep4 k b (a%b) (by omega) hb h1,<-Ak9 ha hb]
  .rw[dF_ hb0];obtain rfl:b=0:=by omega
   simp only[cond_false];rw[cq_];congr 1;omega
theorem Fd9{v d:Nat}(hv:0<v):Int.tdiv (v:Int) ((Int.gcd v d:Nat):Int)*(d:Int)=((Nat.lcm v d:Nat):Int):=by
 rw[Int.gcd_natCast_natCast,(tdm (by omega)).1];have h1:Nat.gcd v d∣v:=Nat.gcd_dvd_left ..;have h0:0<Nat.gcd v d:=Nat.gcd_pos_of_pos_left _ hv;obtain⟨c,hc⟩:=h1;have e1:((v:Nat):Int)/((Nat.gcd v d:Nat):Int)=(c:Int):=by
  have:v/Nat.gcd v d=c:=by
   conv=>lhs;arg 1;rw[hc]
   exact Nat.mul_div_cancel_left _ h0
  rw[<-this];norm_cast
 rw[e1];have e2:Nat.lcm v d=c*d:=by
  unfold Nat.lcm
  conv=>lhs;arg 1;rw[hc]
  rw[Nat.mul_assoc,Nat.mul_div_cancel_left _ h0]
 rw[e2];norm_cast
theorem Bp1{f:Nat}{v d:Nat}{d1:List Int}{d2:List (List A2)}{d3:Int}(hv:0<v)(hv9:v<=9999)(hd:0<d)(hd9:d<=9999)(hf:10000<f):
 Df0 f (d:Int) d1 d2 d3 (v:Int)=some (decide (Nat.lcm v d<=9999),((Nat.lcm v d:Nat):Int)):=by
 have h0:0<Int.gcd v d:=Int.gcd_pos_of_ne_zero_left _ (by omega);have hl:=Fd9 (d:=d) hv;have hle:Nat.lcm v d<=99980001:=ah_ (Nat.lcm_le_mul hv hd) (ah_ (a7_ hv9 hd9) (by decide));have hq:Int.tdiv (v:Int) ((Int.gcd v d:Nat):Int)<=9999/\0<=Int.tdiv (v:Int) ((Int.gcd v d:Nat):Int):=by
  rw[(tdm (by omega)).1];exact⟨Int.le_trans (b9_ _ (by omega)) (by omega),a5_ (by omega) (by omega)⟩
 unfold Df0 Ey2;rw[Ep4 f v d (by omega) (by omega) (by omega),sb,D1 (dT_ (by omega)),E3 (i:=Int.tdiv (v:Int) ((Int.gcd v d:Nat):Int)) (by omega) (by omega),hl,E3 (by omega) (by omega)];congr 2;exact decide_eq_decide.2 (by omega)
theorem Eg0{f:Nat}{v d:Nat}{d1:List Int}{d2:List (List A2)}{d4:Int}(hv:0<v)(hv9:v<=9999)(hd:0<d)(hd9:d<=9999)(hf:10000<f):
 Cd9 f (d:Int) d1 d2 (v:Int) d4=some (decide (Nat.lcm v d<=9999),((Nat.lcm v d:Nat):Int)):=
 Bp1 (d1:=d1) (d2:=d2) (d3:=d4) hv hv9 hd hd9 hf
def Z8(v:Nat):List Rat->Option Nat
 |[]=>some v
 |r::l=>if Nat.lcm v r.den<=9999 then Z8 (Nat.lcm v r.den) l else none
theorem Ac4:∀{l:List Rat} {v w:Nat},Z8 v l=some w->0<v->v<=9999->0<w/\w<=9999/\v∣w/\∀r∈l,r.den∣w
 |[],v,w,h,h0,h9=>by cases h;exact⟨h0,h9,Nat.dvd_refl _,fun r hr=>by cases hr⟩
 |r::l,v,w,h,h0,h9=>by
  unfold Z8 at h;split at h
  .rename_i hl;obtain⟨a,b,c,d⟩:=Ac4 h (Nat.lcm_pos h0 r.den_pos) hl;refine⟨a,b,Nat.dvd_trans (Nat.dvd_lcm_left ..) c,fun x hx=> ?_⟩;rcases mem_cons.1 hx with rfl|hx
   .exact Nat.dvd_trans (Nat.dvd_lcm_right ..) c
   .exact d x hx
  .cases h
theorem Bo7:∀{l m:List Rat} {v w:Nat},Z8 v (l++m)=some w↔∃u,Z8 v l=some u/\Z8 u m=some w
 |[],m,v,w=>⟨fun h=>⟨v,rfl,h⟩,fun⟨u,h1,h2⟩=>by cases h1;exact h2⟩
 |r::l,m,v,w=>by
  rw[cons_append,Z8,Z8];split
  .exact Bo7
  .exact⟨fun h=>(by cases h),fun⟨u,h1,_⟩=>(by cases h1)⟩
def Cc1(a:List UInt8):Bool:=decide (a.length<=8)&&a.all fun c=>decide (97<=c.toNat)&&decide (c.toNat<=122)
theorem Ep8{a:List UInt8}(hl:a.length<=1000):∀(r i k:Nat),i+r=a.length->r<k->∃j:Int,Ah5 (a.map toI) k (i:Int)=some j/\decide (j>=0)= !((a.drop i).all fun c=>decide (97<=c.toNat)&&decide (c.toNat<=122))
 |_,_,0,_,h=>absurd h (by omega)
 |0,i,k+1,hi,_=>by
  unfold Ah5;rw[dF_ (by simp;omega),ag_ (by omega)];exact⟨-1,rfl,rfl⟩
 |r+1,i,k+1,hi,hk=>by
  have hil:i<a.length:=by omega
  obtain⟨j,h1,h2⟩:=Ep8 hl r (i+1) k (by omega) (by omega);unfold Ah5;rw[dT_ (by simp;omega),D8 hil,ai_ hil,all_cons];simp only[cond_true,sb,Es5];have hc:Ga6 (a[i].toNat:Int)=some (!(decide (97<=a[i].toNat)&&decide (a[i].toNat<=122))):=by
   unfold Ga6;by_cases h3:97<=a[i].toNat
   .rw[dF_ (show¬(a[i].toNat:Int)<97 by omega),dT_ h3];simp only[cond_false,sb,Bool.true_and];by_cases h4:a[i].toNat<=122
    .rw[dT_ h4,dF_ (by omega)];rfl
    .rw[dF_ h4,dT_ (by omega)];rfl
   .rw[dT_ (show(a[i].toNat:Int)<97 by omega),dF_ h3];rfl
  rw[hc,sb];cases hb:(decide (97<=a[i].toNat)&&decide (a[i].toNat<=122)) with
  |true=>
   simp only[Bool.not_true,cond_false,Bool.true_and];rw[wi i (by omega)];exact⟨j,h1,h2⟩
  |false=>
   exact⟨(i:Int),rfl,by simp⟩
theorem Bb5{f:Nat}(hf:20<f):∀(ys:List (Int×A2)),X7 f ys=some (ys.all fun y=>Cc1 y.2.Act)
 |[]=>rfl
 |y::ys=>by
  rw[X7,all_cons];by_cases h8:y.2.Act.length<=8
  .rw[dF_ (show¬(y.2.Act.length:Int)>8 by omega)];simp only[cond_false];obtain⟨j,h1,h2⟩:=Ep8 (a:=y.2.Act) (by omega) y.2.Act.length 0 f (by omega) (by omega);unfold Ga5 Ga9;rw[show Ah5 (y.2.Act.map toI) f 0=some j from h1,sb,sb,sb,h2,drop_zero];unfold Cc1;rw[dT_ h8,Bool.true_and];cases hb:(y.2.Act.all fun c=>decide (97<=c.toNat)&&decide (c.toNat<=122)) with
   |true=>simp only[Bool.not_true,cond_false,Bool.true_and];exact Bb5 hf ys
   |false=>rfl
  .rw[dT_ (show(y.2.Act.length:Int)>8 by omega)];simp only[cond_true,sb];unfold Cc1;rw[dF_ h8];rfl
def gnP(v:Nat)(ts:List (List UInt8))(rs:List Rat)(w:Nat):Prop:=ts=rs.map T/\(∀r∈rs,shB r=true/\0<=r)/\Z8 v rs=some w
theorem Az3{r:Rat}(h:shB r=true):r.num.natAbs<10000/\0<r.den/\r.den<=9999:=by
 obtain⟨h1,h2⟩:=(Ak8 (k:=4) (by decide)).1 h;exact⟨h1,r.den_pos,by omega⟩
theorem Cq6{d0:List Int}{d1:List (List A2)}{d2:Int}:∀(ys:List (Int×A2)) (v:Nat),(∀y∈ys,y.2.Gain.length<=9000000)->0<v->v<=9999->
 (∃rs w,gnP v (ys.map (·.2.Gain)) rs w/\Ev fun f=>H0 f d0 d1 d2 ys (v:Int)=some (true,(w:Int)))\/
 ((¬∃rs w,gnP v (ys.map (·.2.Gain)) rs w)/\∃w:Int,Ev fun f=>H0 f d0 d1 d2 ys (v:Int)=some (false,w))
 |[],v,_,h0,h9=> .inl ⟨[],v,⟨rfl,fun r h=>(by cases h),rfl⟩,Ev.of fun f=>rfl⟩
 |y::ys,v,hl,h0,h9=>by
  have hy:=hl y ab_;have hys:∀z∈ys,z.2.Gain.length<=9000000:=fun z h=>hl z (mem_cons_of_mem _ h)
  have inv:∀{rs w},gnP v ((y::ys).map (·.2.Gain)) rs w->∃r rs',rs=r::rs'/\y.2.Gain=T r/\shB r=true/\0<=r/\Nat.lcm v r.den<=9999/\gnP (Nat.lcm v r.den) (ys.map (·.2.Gain)) rs' w:=fun{rs w} ⟨h1,h2,h3⟩=>by
   cases rs with
   |nil=>cases h1
   |cons r rs'=>
    rw[map_cons,map_cons]at h1;injection h1 with h4 h5
    unfold Z8 at h3;split at h3
    .rename_i hle;obtain⟨h6,h7⟩:=h2 r ab_;exact⟨r,rs',rfl,h4,h6,h7,hle,h5,fun x hx=>h2 x (mem_cons_of_mem _ hx),h3⟩
    .cases h3
  rcases Bd3 hy with⟨r,hr,hs,he⟩|⟨hn,he⟩
  .have hd:=Az3 hs;by_cases hneg:r<0
   .right;refine⟨fun⟨rs,w,h⟩=> ?_,(v:Int),he.mono fun f h=> ?_⟩
    .obtain⟨r',_,_,h2,_,h3,_⟩:=inv h;rw[Ab7 (hr.symm.trans h2)]at hneg;exact absurd h3 (Rat.not_le.2 hneg)
    .rw[H0];refine sbe h ?_;simp only[Bool.not_true,cond_false];rw[dT_ (show r.num<0 from Ct9.2 hneg)];rfl
   .have hnn:¬r.num<0:=fun h=>hneg (Ct9.1 h)
    by_cases hle:Nat.lcm v r.den<=9999
    .have step:∀{b:Bool} {w:Int},(Ev fun f=>H0 f d0 d1 d2 ys ((Nat.lcm v r.den:Nat):Int)=some (b,w))->Ev fun f=>H0 f d0 d1 d2 (y::ys) (v:Int)=some (b,w):=fun{b w} hE=>((he.and hE).and (Ev.ge 10001)).mono fun f h=>by
      obtain⟨⟨h1,h2⟩,h3⟩:=h;rw[H0];refine sbe h1 ?_;simp only[Bool.not_true,cond_false];rw[dF_ hnn];simp only[cond_false];rw[Bp1 h0 h9 hd.2.1 hd.2.2 (by omega),sb,sb,dT_ hle];simp only[Bool.not_true,cond_false];exact h2
     rcases Cq6 ys (Nat.lcm v r.den) hys (Nat.lcm_pos h0 hd.2.1) hle with⟨rs,w,⟨g1,g2,g3⟩,h⟩|⟨hno,w,h⟩
     .left;refine⟨r::rs,w,⟨by rw[map_cons,map_cons,hr,g1],fun x hx=> ?_,by unfold Z8;rw[if_pos hle];exact g3⟩,step h⟩;rcases mem_cons.1 hx with rfl|hx
      .exact⟨hs,Rat.not_lt.1 hneg⟩
      .exact g2 x hx
     .right;refine⟨fun⟨rs,w,h⟩=> ?_,w,step h⟩;obtain⟨r',rs',_,h2,_,_,_,h5⟩:=inv h;rw[<-Ab7 (hr.symm.trans h2)]at h5;exact hno ⟨rs',w,h5⟩
    .right;refine⟨fun⟨rs,w,h⟩=> ?_,((Nat.lcm v r.den:Nat):Int),(he.and (Ev.ge 10001)).mono fun f h=> ?_⟩
     .obtain⟨r',rs',_,h2,_,_,h4,_⟩:=inv h;rw[<-Ab7 (hr.symm.trans h2)]at h4;exact hle h4
     .obtain⟨h1,h3⟩:=h;rw[H0];refine sbe h1 ?_;simp only[Bool.not_true,cond_false];rw[dF_ hnn];simp only[cond_false];rw[Bp1 h0 h9 hd.2.1 hd.2.2 (by omega),sb,sb,dF_ hle];rfl
  .right;refine⟨fun⟨rs,w,h⟩=> ?_,(v:Int),he.mono fun f h=> ?_⟩
   .obtain⟨r',rs',_,h2,h3,_⟩:=inv h;exact hn ⟨r',h2,h3⟩
   .rw[H0];exact sbe h rfl
end
section
def asc(n:Nat):Int->List (Int×Rat)->Prop
 |_,[]=>True
 |last,b::l=>last<b.1/\b.1<n/\asc n b.1 l
theorem Bm0{n:Nat}:∀{l:List (Int×Rat)} {last:Int},asc n last l->last<n->(l.length:Int)<=n-1-last
 |[],last,_,h=>by simp;omega
 |b::l,last,⟨h1,h2,h3⟩,h=>by
  have:=Bm0 h3 h2;simp;omega
theorem Ay6{n:Nat}:∀{l:List (Int×Rat)} {last:Int},asc n last l->∀b∈l,last<b.1/\b.1<n
 |b::l,last,⟨h1,h2,h3⟩,x,hx=>by
  rcases mem_cons.1 hx with rfl|hx
  .exact⟨h1,h2⟩
  .have:=Ay6 h3 x hx;exact⟨by omega,this.2⟩
def Br6:List (Int×Rat)->Rat->Rat
 |[],x=>x
 |b::l,x=>Br6 l (x+b.2)
def brP(n:Nat)(last:Int)(v:Nat)(l:List B7)(nx:List (Int×Rat))(w:Nat):Prop:=l=nx.map eB/\asc n last nx/\(∀b∈nx,shB b.2=true/\0<b.2)/\Z8 v (nx.map (·.2))=some w
theorem Cb3{nx:List (Int×Rat)}{w:Nat}(hw:0<w)(hw9:w<=9999)(hlen:nx.length<=100)(hsm:∀b∈nx,(b.2).den∣w/\shB b.2=true/\0<b.2)(hq:∀b∈nx,(T b.2).length<=9000000):
 ∀(l:List (Int×Rat)) (i:Nat) (acc:Int) (x:Rat),nx.drop i=l->(acc:Rat)=(w:Rat)*x->0<=acc->acc<=99980001*i->
  Ev fun f=>∀k,l.length<k->X8 f (nx.map eB) (w:Int) k acc (i:Int)=some (decide (Br6 l x=1),(w:Int))
 |[],i,acc,x,hd,hx,_,_=>Ev.of fun f k hk=>by
  obtain⟨k,rfl⟩:∃j,k=j+1:=⟨k-1,by simp at hk;omega⟩
  have:=drop_nil hd;unfold X8;rw[dF_ (by simp;omega)];simp only[cond_false];congr 2;unfold Br6;have hw':(w:Rat)≠0:=by exact_mod_cast (by omega:w≠0)
  by_cases h:x=1
  .subst h;rw[Rat.mul_one]at hx;have:acc=(w:Int):=by exact_mod_cast hx
   simp[this]
  .rw[dF_ h,beq_eq_false_iff_ne];intro h';apply h;subst h';have:(w:Rat)*x=(w:Rat)*1:=by rw[<-hx,Rat.mul_one];norm_cast
   grind
 |b::l,i,acc,x,hd,hx,h0,h1=>by
  obtain⟨hi,hb,hd'⟩:=K1 hd;have hmem:b∈nx:=by rw[<-hb];exact af_ hi
  obtain⟨e1,e2,e3⟩:=hsm b hmem;have hs:=Az3 e2;obtain⟨c,hc⟩:=e1;have hc0:0<c:=Nat.pos_of_ne_zero fun e=>by subst e;simp at hc;omega
  have hcw:c<=9999:=by
   have:c<=b.2.den*c:=br_ _ hs.2.1;omega
  have hnum:0<b.2.num:=Av8.2 e3;have hq0:Int.tdiv (w:Int) (b.2.den:Int)=(c:Int):=by
   rw[(tdm (by omega)).1,hc];push_cast;exact bp_ _ (by omega)
  have hprod:0<=b.2.num*(c:Int)/\b.2.num*(c:Int)<=99980001:=by
   refine⟨bo_ (by omega) (by omega),?_⟩;have:b.2.num*(c:Int)<=9999*9999:=Int.mul_le_mul (by omega) (by omega) (by omega) (by omega);omega
  have hval:((acc+b.2.num*(c:Int):Int):Rat)=(w:Rat)*(x+b.2):=by
   have hb2:b.2=(b.2.num:Rat)/(b.2.den:Rat):=Ei1 b.2;have hdn:(b.2.den:Rat)≠0:=by exact_mod_cast (by omega:b.2.den≠0)
   have hcw':(w:Rat)=(b.2.den:Rat)*(c:Rat):=by rw[hc];push_cast;rfl
   have h5:(w:Rat)*b.2=(b.2.num:Rat)*(c:Rat):=by
    conv=>lhs;rw[hb2]
    rw[hcw'];have:=Rat.div_mul_cancel (a:=(b.2.num:Rat)) hdn;grind
   push_cast;rw[hx,Rat.mul_add,h5]
  have hsm0:Ev fun f=>Cm1 f (T b.2)=some (b.2.num,(b.2.den:Int),true):=by
   rcases Bd3 (hq b hmem) with⟨r,hr,_,he⟩|⟨hn,_⟩
   .rw[Ab7 hr];exact Ab7 hr▸he
   .exact absurd ⟨b.2,rfl,e2⟩ hn
  have hih:acc+b.2.num*(c:Int)<=99980001*((i+1:Nat):Int):=by push_cast;omega
  refine(hsm0.and (Cb3 hw hw9 hlen hsm hq l (i+1) _ _ hd' hval (by omega) hih)).mono fun f h k hk=> ?_
  obtain⟨h2,h3⟩:=h;obtain⟨k,rfl⟩:∃j,k=j+1:=⟨k-1,by simp at hk;omega⟩
  unfold X8;rw[dT_ (by simp;omega)];simp only[cond_true];refine sbe (x:=eB b) (by rw[D8 hi,hb]) (sbe h2 ?_);have hi100:i<100:=by omega
  rw[D1 (dT_ (by show(b.2.den:Int)≠0;omega))];show X8 f (nx.map eB) (w:Int) k (i64.wrap (acc+i64.wrap (b.2.num*i64.wrap (Int.tdiv (w:Int) (b.2.den:Int))))) (i64.wrap ((i:Int)+1))=_;rw[hq0,E3 (i:=(c:Int)) (by omega) (by omega),E3 (i:=b.2.num*(c:Int)) (by omega) (by omega),E3 (i:=acc+b.2.num*(c:Int)) (by omega) (by omega),wi i (by omega)];exact h3 k (by simp at hk;omega)
theorem Aq2{n:Nat}{last:Int}{v:Nat}{b:B7}{l:List B7}{nx:List (Int×Rat)}{w:Nat}(h:brP n last v (b::l) nx w):∃r nx',nx=(b.To,r)::nx'/\b.P=T r/\last<b.To/\b.To<n/\shB r=true/\0<r/\Nat.lcm v r.den<=9999/\brP n b.To (Nat.lcm v r.den) l nx' w:=by
 obtain⟨h1,h2,h3,h4⟩:=h;cases nx with
 |nil=>cases h1
 |cons c nx'=>
  rw[map_cons]at h1;injection h1 with h5 h6
  obtain⟨a1,a2,a3⟩:=h2;obtain⟨b1,b2⟩:=h3 c ab_;rw[map_cons]at h4;unfold Z8 at h4;split at h4
  .rename_i hle;subst h5;exact⟨c.2,nx',rfl,rfl,a1,a2,b1,b2,hle,h6,a3,fun x hx=>h3 x (mem_cons_of_mem _ hx),h4⟩
  .cases h4
theorem Cb2{full:List B7}{d1:List Int}{d2:List (List A2)}{d4:Int}(hn:d1.length<=12)(hlen:full.length<=1000000)(hq:∀b∈full,b.P.length<=9000000):
 ∀(l:List B7) (i:Nat) (last:Int) (v:Nat) (pre:List (Int×Rat)),full.drop i=l->full.take i=pre.map eB->pre.length<=12->(i:Int)<=last+1->last<d1.length\/i=0->(∀b∈pre,b.2.den∣v/\shB b.2=true/\0<b.2)->0<v->v<=9999->
  (∃nx w,brP d1.length last v l nx w/\Ev fun f=>∀k,l.length<k->K4 f full d1 d2 d4 k last (i:Int) (v:Int)=some (decide (Br6 (pre++nx) 0=1),(w:Int)))\/
  ((¬∃nx w,brP d1.length last v l nx w)/\∃w:Int,Ev fun f=>∀k,l.length<k->K4 f full d1 d2 d4 k last (i:Int) (v:Int)=some (false,w))
 |[],i,last,v,pre,hd,ht,hp,hil,hla,hpre,h0,h9=>by
  have hi:=drop_nil hd;have hfull:full=pre.map eB:=by rw[<-ht,ap_ hi]
  left;refine⟨[],v,⟨rfl,trivial,fun b h=>(by cases h),rfl⟩,?_⟩;have hq':∀b∈pre,(T b.2).length<=9000000:=fun b hb=>hq (eB b) (by rw[hfull];exact bb_ hb)
  refine((Cb3 h0 h9 (by omega) hpre hq' pre 0 0 0 rfl (by simp) (by omega) (by omega)).and (Ev.ge 20)).mono fun f h k hk=> ?_
  obtain⟨h1,h2⟩:=h;obtain⟨k,rfl⟩:∃j,k=j+1:=⟨k-1,by simp at hk;omega⟩
  unfold K4;rw[dF_ (by simp;omega)];simp only[cond_false];rw[append_nil,hfull];exact h1 f (by omega)
 |b::l,i,last,v,pre,hd,ht,hp,hil,hla,hpre,h0,h9=>by
  obtain⟨hi,hb,hd'⟩:=K1 hd;have hbm:b∈full:=by rw[<-hb];exact af_ hi
  have start:∀{f k:Nat} {z:Option (Bool×Int)} {y:Int×Int×Bool},Cm1 f b.P=some y->((bif decide (b.To<=last) then some (true,(v:Int)) else bif decide (b.To>=((d1.map A3).length:Int)) then some (true,(v:Int)) else bif !y.2.2 then some (true,(v:Int)) else bif decide (y.1<1) then some (true,(v:Int)) else (Cd9 f y.2.1 d1 d2 (v:Int) d4).bind fun y15=>some (!y15.1,y15.2)).bind fun o3=>bif o3.1 then some (false,o3.2) else K4 f full d1 d2 d4 k b.To (i64.wrap ((i:Int)+1)) o3.2)=z->K4 f full d1 d2 d4 (k+1) last (i:Int) (v:Int)=z:=fun{f k z y} hy hz=>by
   conv=>lhs;unfold K4
   rw[dT_ (by simp;omega)];simp only[cond_true];exact sbe (x:=b) (by rw[C3 hi,hb]) (sbe hy hz)
  have fail:∀{y:Int×Int×Bool} {w:Int},(¬∃nx w,brP d1.length last v (b::l) nx w)->(Ev fun f=>Cm1 f b.P=some y)->(Ev fun f=>(bif decide (b.To<=last) then some (true,(v:Int)) else bif decide (b.To>=((d1.map A3).length:Int)) then some (true,(v:Int)) else bif !y.2.2 then some (true,(v:Int)) else bif decide (y.1<1) then some (true,(v:Int)) else (Cd9 f y.2.1 d1 d2 (v:Int) d4).bind fun y15=>some (!y15.1,y15.2))=some (true,w))->
   (∃nx w,brP d1.length last v (b::l) nx w/\Ev fun f=>∀k,(b::l).length<k->K4 f full d1 d2 d4 k last (i:Int) (v:Int)=some (decide (Br6 (pre++nx) 0=1),(w:Int)))\/
   ((¬∃nx w,brP d1.length last v (b::l) nx w)/\∃w:Int,Ev fun f=>∀k,(b::l).length<k->K4 f full d1 d2 d4 k last (i:Int) (v:Int)=some (false,w)):=fun{y w} hno he hw=> .inr ⟨hno,w,(he.and hw).mono fun f h k hk=>by
    obtain⟨h1,h2⟩:=h;obtain⟨k,rfl⟩:∃j,k=j+1:=⟨k-1,by simp at hk;omega⟩
    exact start h1 (sbe h2 rfl)⟩
  have hlm:((d1.map A3).length:Int)=(d1.length:Int):=by simp
  rcases Bd3 (hq b hbm) with⟨r,hr,hs,he⟩|⟨hno,he⟩
  .have hd:=Az3 hs;by_cases c1:b.To<=last
   .exact fail (fun⟨nx,w,h⟩=>by obtain⟨_,_,_,_,h1,_⟩:=Aq2 h;omega) he (w:=v) (Ev.of fun f=>by rw[dT_ c1];rfl)
   by_cases c2:b.To>=d1.length
   .exact fail (fun⟨nx,w,h⟩=>by obtain⟨_,_,_,_,_,h1,_⟩:=Aq2 h;omega) he (w:=v) (Ev.of fun f=>by rw[dF_ c1,hlm,dT_ c2];rfl)
   by_cases c3:r.num<1
   .exact fail (fun⟨nx,w,h⟩=>by
     obtain⟨r',_,_,h0,_,_,_,h1,_⟩:=Aq2 h;rw[<-Ab7 (hr.symm.trans h0)]at h1;have:=Av8.2 h1;omega) he (w:=v) (Ev.of fun f=>by rw[dF_ c1,hlm,dF_ c2];simp only[cond_false,Bool.not_true];rw[dT_ c3];rfl)
   have hval:∀f,10001<=f->(bif decide (b.To<=last) then some (true,(v:Int)) else bif decide (b.To>=((d1.map A3).length:Int)) then some (true,(v:Int)) else bif !(r.num,(r.den:Int),true).2.2 then some (true,(v:Int)) else bif decide ((r.num,(r.den:Int),true).1<1) then some (true,(v:Int)) else (Cd9 f (r.num,(r.den:Int),true).2.1 d1 d2 (v:Int) d4).bind fun y15=>some (!y15.1,y15.2))=some (!decide (Nat.lcm v r.den<=9999),((Nat.lcm v r.den:Nat):Int)):=fun f hf=>by
    rw[dF_ c1,hlm,dF_ c2];simp only[cond_false,Bool.not_true];rw[dF_ c3];simp only[cond_false];rw[Eg0 h0 h9 hd.2.1 hd.2.2 (by omega),sb]
   by_cases c4:Nat.lcm v r.den<=9999
   .have hpos:0<r:=Av8.1 (by omega);have hdv:v∣Nat.lcm v r.den:=Nat.dvd_lcm_left ..;have hlast0:(0:Int)<=b.To:=by omega
    have key:=Cb2 (d4:=d4) (d2:=d2) hn hlen hq l (i+1) b.To (Nat.lcm v r.den) (pre++[(b.To,r)]) hd' (by
     rw[b0_ hi,ht,hb,List.map_append];congr 1;show[b]=[eB (b.To,r)];unfold eB;rw[<-hr]) (by
     have:pre.length=i:=by have:=congrArg List.length ht;simp at this;omega
     simp;omega) (by push_cast;omega) (.inl (by omega)) (fun x hx=>by
     rcases List.mem_append.1 hx with hx|hx
     .obtain⟨a1,a2,a3⟩:=hpre x hx;exact⟨Nat.dvd_trans a1 hdv,a2,a3⟩
     .rw[bt_]at hx;subst hx;exact⟨Nat.dvd_lcm_right ..,hs,hpos⟩) (Nat.lcm_pos h0 hd.2.1) c4
    have step:∀{z:Option (Bool×Int)},(Ev fun f=>∀k,l.length<k->K4 f full d1 d2 d4 k b.To ((i+1:Nat):Int) ((Nat.lcm v r.den:Nat):Int)=z)->Ev fun f=>∀k,(b::l).length<k->K4 f full d1 d2 d4 k last (i:Int) (v:Int)=z:=fun{z} hE=>((he.and hE).and (Ev.ge 10001)).mono fun f h k hk=>by
     obtain⟨⟨h1,h2⟩,h3⟩:=h;obtain⟨k,rfl⟩:∃j,k=j+1:=⟨k-1,by simp at hk;omega⟩
     refine start h1 (sbe (hval f h3) ?_);rw[dT_ c4];simp only[Bool.not_true,cond_false];rw[wi i (by omega)];exact h2 k (by simp at hk;omega)
    rcases key with⟨nx,w,⟨g1,g2,g3,g4⟩,hE⟩|⟨hno,w,hE⟩
    .left;refine⟨(b.To,r)::nx,w,⟨?_,⟨by omega,by omega,g2⟩,fun x hx=> ?_,?_⟩,?_⟩
     .rw[map_cons,<-g1];congr 1;unfold eB;rw[<-hr]
     .rcases mem_cons.1 hx with rfl|hx
      .exact⟨hs,hpos⟩
      .exact g3 x hx
     .rw[map_cons];unfold Z8;rw[if_pos c4];exact g4
     .have:=step hE;rw[List.append_assoc]at this;exact this
    .right;refine⟨fun⟨nx,w,h⟩=> ?_,w,step hE⟩;obtain⟨r',nx',_,h2,_,_,_,_,_,h3⟩:=Aq2 h;rw[<-Ab7 (hr.symm.trans h2)]at h3;exact hno ⟨nx',w,h3⟩
   .exact fail (fun⟨nx,w,h⟩=>by
     obtain⟨r',_,_,h2,_,_,_,_,h3,_⟩:=Aq2 h;rw[<-Ab7 (hr.symm.trans h2)]at h3;exact c4 h3) he (w:=((Nat.lcm v r.den:Nat):Int)) ((Ev.ge 10001).mono fun f h=>by rw[hval f h,dF_ c4];rfl)
  .refine fail (fun⟨nx,w,h⟩=> ?_) he (w:=v) (Ev.of fun f=> ?_)
   .obtain⟨r',_,_,h2,_,_,h3,_⟩:=Aq2 h;exact hno ⟨r',h2,h3⟩
   .cases decide (b.To<=last)
    .cases decide (b.To>=((d1.map A3).length:Int))<;>rfl
    .rfl
def spP(n v:Nat)(l:List B7)(nx:List (Int×Rat))(w:Nat):Prop:=brP n (-1) v l nx w/\Br6 nx 0=1
theorem Eo3:∀{nx nx':List (Int×Rat)},nx.map eB=nx'.map eB->nx=nx'
 |[],[],_=>rfl
 |[],_::_,h=>by cases h
 |_::_,[],h=>by cases h
 |b::nx,b'::nx',h=>by
  rw[map_cons,map_cons]at h;injection h with e1 e2
  unfold eB at e1;injection e1 with e3 e4
  rw[Eo3 e2];congr 1;exact Prod.ext e3 (Ab7 e4)
theorem Co2{n:Nat}{last:Int}{v:Nat}{l:List B7}{nx nx':List (Int×Rat)}{w w':Nat}(h:brP n last v l nx w)(h':brP n last v l nx' w'):nx=nx'/\w=w':=by
 obtain⟨h1,_,_,h4⟩:=h;obtain⟨h1',_,_,h4'⟩:=h';have e:nx=nx':=Eo3 (h1.symm.trans h1');subst e;exact⟨rfl,by rw[h4]at h4';exact ax_ h4'⟩
theorem Dw1{l:List B7}{d1:List Int}{d2:List (List A2)}{d4:Int}{v:Nat}(hn:d1.length<=12)(hlen:l.length<=1000000)(hq:∀b∈l,b.P.length<=9000000)(h0:0<v)(h9:v<=9999):
 (∃nx w,spP d1.length v l nx w/\Ev fun f=>Df2 f l d1 d2 (v:Int) d4=some (true,(w:Int)))\/
 ((¬∃nx w,spP d1.length v l nx w)/\∃w:Int,Ev fun f=>Df2 f l d1 d2 (v:Int) d4=some (false,w)):=by
 rcases Cb2 (d4:=d4) (d2:=d2) hn hlen hq l 0 (-1) v [] rfl rfl (by simp) (by omega) (.inr rfl) (fun b h=>(by cases h)) h0 h9 with⟨nx,w,h1,h2⟩|⟨h1,w,h2⟩
 .by_cases hs:Br6 nx 0=1
  .left;refine⟨nx,w,⟨h1,hs⟩,(h2.and (Ev.ge 1000001)).mono fun f h=> ?_⟩;have:=h.1 f (by have:=h.2;omega);rw[nil_append,dT_ hs]at this;exact this
  .right;refine⟨fun⟨nx',w',h3,h4⟩=> ?_,(w:Int),(h2.and (Ev.ge 1000001)).mono fun f h=> ?_⟩
   .obtain⟨e1,e2⟩:=Co2 h1 h3;subst e1;exact hs h4
   .have:=h.1 f (by have:=h.2;omega);rw[nil_append,dF_ hs]at this;exact this
 .right;refine⟨fun⟨nx,w,h3,_⟩=>h1 ⟨nx,w,h3⟩,w,(h2.and (Ev.ge 1000001)).mono fun f h=>h.1 f (by have:=h.2;omega)⟩
def Fl4(n:Nat):Nat->List (List B7)->List (List (Int×Rat))->Nat->Prop
 |v,[],nxs,w=>nxs=[]/\v=w
 |v,l::ls,nxs,w=>∃nx nxs' u,nxs=nx::nxs'/\spP n v l nx u/\Fl4 n u ls nxs' w
theorem Bi0{d0:List Int}{d1:List (List A2)}{d3:Int}(hn:d0.length<=12):∀(ys:List (Int×A2)) (v:Nat),(∀y∈ys,y.2.Next.length<=1000000/\∀b∈y.2.Next,b.P.length<=9000000)->0<v->v<=9999->
 (∃nxs w,Fl4 d0.length v (ys.map (·.2.Next)) nxs w/\Ev fun f=>K3 f d0 d1 d3 ys (v:Int)=some (true,(w:Int)))\/
 ((¬∃nxs w,Fl4 d0.length v (ys.map (·.2.Next)) nxs w)/\∃w:Int,Ev fun f=>K3 f d0 d1 d3 ys (v:Int)=some (false,w))
 |[],v,_,_,_=> .inl ⟨[],v,⟨rfl,rfl⟩,Ev.of fun f=>rfl⟩
 |y::ys,v,hl,h0,h9=>by
  obtain⟨a1,a2⟩:=hl y ab_;rcases Dw1 (d4:=d3) (d2:=d1) hn a1 a2 h0 h9 with⟨nx,u,h1,he⟩|⟨hno,w,he⟩
  .obtain⟨hu0,hu9,_,_⟩:=Ac4 h1.1.2.2.2 h0 h9;have step:∀{z:Option (Bool×Int)},(Ev fun f=>K3 f d0 d1 d3 ys (u:Int)=z)->Ev fun f=>K3 f d0 d1 d3 (y::ys) (v:Int)=z:=fun{z} hE=>(he.and hE).mono fun f h=>by
    rw[K3];exact sbe h.1 h.2
   rcases Bi0 (d1:=d1) (d3:=d3) hn ys u (fun z hz=>hl z (mem_cons_of_mem _ hz)) hu0 hu9 with⟨nxs,w,h2,hE⟩|⟨hno,w,hE⟩
   .exact .inl ⟨nx::nxs,w,⟨nx,nxs,u,rfl,h1,h2⟩,step hE⟩
   .refine .inr ⟨fun⟨nxs,w',h⟩=> ?_,w,step hE⟩;obtain⟨nx',nxs',u',_,h3,h4⟩:=h;obtain⟨_,e⟩:=Co2 h1.1 h3.1;subst e;exact hno ⟨nxs',w',h4⟩
  .refine .inr ⟨fun⟨nxs,w',h⟩=> ?_,w,he.mono fun f h=> ?_⟩
   .obtain⟨nx',nxs',u',_,h3,h4⟩:=h;exact hno ⟨nx',u',h3⟩
   .rw[K3];exact sbe h rfl
end
end Go.Proofs.YtfgbhfphjmmiaaaGreatDoor
end
section
namespace Go.Proofs.YtfgbhfphjmmiaaaGreatDoor
open Go Go.RowKit Kx Go.IntKind
set_option maxRecDepth 100000
open Classical in
section
noncomputable def unT (q:List UInt8):Rat:=if h:∃r,q=T r then h.choose else 0
theorem Ej2(r:Rat):unT (T r)=r:=by
 have h:∃r',T r=T r':=⟨r,rfl⟩
 unfold unT;rw[dif_pos h];exact(Ab7 h.choose_spec).symm
noncomputable def unB (b:B7):Int×Rat:=(b.To,unT b.P)
noncomputable def unC (x:A2):Cho:=⟨x.Act,unT x.Gain,x.Next.map unB⟩
noncomputable def unM (y:A9):Mdl:=⟨y.Owner,y.Choices.map (·.map unC)⟩
theorem Dx9(b:Int×Rat):unB (eB b)=b:=by unfold unB eB;rw[Ej2]
theorem Es6(c:Cho):unC (eC c)=c:=by
 unfold unC eC;rw[Ej2,List.map_map,show unB∘eB=id from funext Dx9,bx_]
theorem Fy9(m:Mdl):unM (eM m)=m:=by
 unfold unM eM eL;rw[List.map_map,show((fun x:List A2=>x.map unC)∘fun l:List Cho=>l.map eC)=id from funext fun l=>by
  simp only[Function.comp_def,List.map_map,Es6];exact bx_ _,bx_]
def Ay3(s:Nat):List (List A2)->List (Int×A2)
 |[]=>[]
 |l::ls=>l.map (fun c=>((s:Int),c))++Ay3 (s+1) ls
theorem Y0{α:Type}(h:A2->α):∀(s:Nat) (ls:List (List A2)),(Ay3 s ls).map (fun y=>h y.2)=ls.flatten.map h
 |s,[]=>rfl
 |s,l::ls=>by
  rw[Ay3,List.map_append,Y0 h (s+1) ls,flatten_cons,List.map_append,List.map_map];rfl
theorem Cn4{s:Nat}{ls:List (List A2)}{y:Int×A2}(hy:y∈Ay3 s ls):y.2∈ls.flatten:=by
 have:=Y0 id s ls;rw[bx_]at this;rw[<-this];exact bb_ hy
theorem Em6{l:List A2}{s:Nat}{z:List (Int×A2)}{rec_:Int->Option (List (Int×A2))}(hl:l.length<=1000000)(hs:s<=1000000)(hz:rec_ ((s+1:Nat):Int)=some z):∀(r i k:Nat),i+r=l.length->r<k->Ap3 (s:Int) l rec_ k (i:Int)=some ((l.drop i).map (fun c=>((s:Int),c))++z)
 |_,_,0,_,h=>absurd h (by omega)
 |0,i,k+1,hi,_=>by
  unfold Ap3;rw[dF_ (by simp;omega),ag_ (by omega),wi s (by omega)];exact hz
 |r+1,i,k+1,hi,hk=>by
  have hil:i<l.length:=by omega
  unfold Ap3;rw[dT_ (by simp;omega)];simp only[cond_true];rw[C3 hil,sb,wi i (by omega),Em6 hl hs hz r (i+1) k (by omega) (by omega),sb,ai_ hil];rfl
theorem Em5{fuel:Nat}{ch:List (List A2)}(hf:1000001<fuel)(hc:ch.length<=1000000)(hl:∀l∈ch,l.length<=1000000):∀(r i k:Nat),i+r=ch.length->r<k->Ab3 fuel ch k (i:Int)=some (Ay3 i (ch.drop i))
 |_,_,0,_,h=>absurd h (by omega)
 |0,i,k+1,hi,_=>by
  unfold Ab3;rw[dF_ (by simp;omega),ag_ (by omega)];rfl
 |r+1,i,k+1,hi,hk=>by
  have hil:i<ch.length:=by omega
  have h1:=hl ch[i] (af_ hil);unfold Ab3;rw[dT_ (by simp;omega)];simp only[cond_true];rw[C3 hil,sb];have:=Em6 (s:=i) (rec_:=Ab3 fuel ch k) h1 (by omega) (Em5 hf hc hl r (i+1) k (by omega) (by omega)) ch[i].length 0 fuel (by omega) (by omega);rw[drop_zero]at this;rw[ai_ hil,Ay3];exact this
theorem Fs0{fuel:Nat}{own:List Int}{ch:List (List A2)}(hf:1000001<fuel)(hc:ch.length<=1000000)(hl:∀l∈ch,l.length<=1000000):Ex8 fuel own ch=some (Ay3 0 ch):=by
 have:=Em5 hf hc hl ch.length 0 fuel (by omega) (by omega);rw[drop_zero]at this;exact this
def clB(l:List A2):Bool:=decide (1<=l.length)&&decide (l.length<=4)
theorem Ep9{a:List (List A2)}(hl:a.length<=1000):∀(r i k:Nat),i+r=a.length->r<k->∃j:Int,Ah3 a k (i:Int)=some j/\decide (j>=0)= !((a.drop i).all clB)
 |_,_,0,_,h=>absurd h (by omega)
 |0,i,k+1,hi,_=>by
  unfold Ah3;rw[dF_ (by simp;omega),ag_ (by omega)];exact⟨-1,rfl,rfl⟩
 |r+1,i,k+1,hi,hk=>by
  have hil:i<a.length:=by omega
  obtain⟨j,h1,h2⟩:=Ep9 hl r (i+1) k (by omega) (by omega);unfold Ah3;rw[dT_ (by simp;omega),C3 hil,ai_ hil,all_cons];simp only[cond_true,sb];have hc:Ga3 a[i]=some (!clB a[i]):=by
   unfold Ga3 clB;rw[length_map];by_cases h3:1<=a[i].length
   .rw[dF_ (show¬((a[i].length:Nat):Int)<1 by omega),dT_ h3];simp only[cond_false,sb,Bool.true_and];by_cases h4:a[i].length<=4
    .rw[dT_ h4,dF_ (by omega)];rfl
    .rw[dF_ h4,dT_ (by omega)];rfl
   .rw[dT_ (show((a[i].length:Nat):Int)<1 by omega),dF_ h3];rfl
  rw[hc,sb];cases hb:clB a[i] with
  |true=>
   simp only[Bool.not_true,cond_false,Bool.true_and];rw[wi i (by omega)];exact⟨j,h1,h2⟩
  |false=>exact⟨(i:Int),rfl,by simp⟩
def owB(o:Int):Bool:=o==0||o==1
theorem Eq0{a:List Int}(hl:a.length<=1000):∀(r i k:Nat),i+r=a.length->r<k->∃j:Int,Ah4 a k (i:Int)=some j/\decide (j>=0)= !((a.drop i).all owB)
 |_,_,0,_,h=>absurd h (by omega)
 |0,i,k+1,hi,_=>by
  unfold Ah4;rw[dF_ (by simp;omega),ag_ (by omega)];exact⟨-1,rfl,rfl⟩
 |r+1,i,k+1,hi,hk=>by
  have hil:i<a.length:=by omega
  obtain⟨j,h1,h2⟩:=Eq0 hl r (i+1) k (by omega) (by omega);unfold Ah4;rw[dT_ (by simp;omega),C3 hil,ai_ hil,all_cons];simp only[cond_true,sb];have hc:Ga4 a[i]=some (!owB a[i]):=by
   unfold Ga4 owB;cases h0:(a[i]==0)<;>simp[bne,h0]
  rw[hc,sb];cases hb:owB a[i] with
  |true=>
   simp only[Bool.not_true,cond_false,Bool.true_and];rw[wi i (by omega)];exact⟨j,h1,h2⟩
  |false=>exact⟨(i:Int),rfl,by simp⟩
def szB(y:A9):Bool:=decide (1<=y.Owner.length)&&decide (y.Owner.length<=12)&&decide (y.Choices.length=y.Owner.length)&&y.Choices.all clB
theorem Af0{f:Nat}{y:A9}{a b:Int}(hf:20<f):Cw7 f y.Owner y.Choices a b=some (szB y):=by
 unfold Cw7 szB;simp only[length_map];by_cases h1:1<=y.Owner.length
 .rw[dT_ (show((y.Owner.length:Nat):Int)>=1 by omega),dT_ h1];by_cases h2:y.Owner.length<=12
  .rw[dT_ (show((y.Owner.length:Nat):Int)<=12 by omega),dT_ h2];by_cases h3:y.Choices.length=y.Owner.length
   .obtain⟨j,e1,e2⟩:=Ep9 (a:=y.Choices) (by omega) y.Choices.length 0 f (by omega) (by omega);rw[show(((y.Choices.length:Nat):Int)==((y.Owner.length:Nat):Int))=true by rw[h3];exact beq_self_eq_true _,dT_ h3];simp only[cond_true,Bool.true_and];unfold Ge5 Ga2;rw[show Ah3 y.Choices f 0=some j from e1,sb,sb,sb,e2,drop_zero,Bool.not_not]
   .rw[show(((y.Choices.length:Nat):Int)==((y.Owner.length:Nat):Int))=false by rw[beq_eq_false_iff_ne];omega,dF_ h3];rfl
  .rw[dF_ (show¬((y.Owner.length:Nat):Int)<=12 by omega),dF_ h2];rfl
 .rw[dF_ (show¬((y.Owner.length:Nat):Int)>=1 by omega),dF_ h1];rfl
theorem Al7{f:Nat}{own:List Int}{ch:List (List A2)}{a b:Int}(hf:1010<f)(hl:own.length<=1000):Cw8 f own ch a b=some (own.all owB):=by
 obtain⟨j,e1,e2⟩:=Eq0 (a:=own) hl own.length 0 f (by omega) (by omega);unfold Cw8 Ge9 Ga8;rw[show Ah4 own f 0=some j from e1,sb,sb,e2,drop_zero,Bool.not_not]
def Bx1(m:Mdl):List Rat:=m.ch.flatten.map (·.gain)
def Cc3(m:Mdl):List Rat:=m.ch.flatten.flatMap fun c=>c.next.map (·.2)
def Fs7(n:Nat)(nx:List (Int×Rat)):Prop:=asc n (-1) nx/\(∀b∈nx,shB b.2=true/\0<b.2)/\Br6 nx 0=1
structure okM(m:Mdl):Prop where
 n1:1<=m.own.length
 n12:m.own.length<=12
 len:m.ch.length=m.own.length
 cl:∀l∈m.ch,1<=l.length/\l.length<=4
 ow:∀o∈m.own,o=0\/o=1
 ac:∀c∈m.ch.flatten,Cc1 c.act=true
 ga:∀c∈m.ch.flatten,shB c.gain=true/\0<=c.gain
 br:∀c∈m.ch.flatten,Fs7 m.own.length c.next
 gg:(Z8 1 (Bx1 m)).isSome=true
 gp:(Z8 1 (Cc3 m)).isSome=true
def gG(m:Mdl):Nat:=(Z8 1 (Bx1 m)).getD 0
def gP(m:Mdl):Nat:=(Z8 1 (Cc3 m)).getD 0
theorem Aw0{n:Nat}:∀{ls:List (List B7)} {v w:Nat} {nxs:List (List (Int×Rat))},Fl4 n v ls nxs w↔ls=nxs.map (·.map eB)/\(∀nx∈nxs,Fs7 n nx)/\Z8 v (nxs.flatMap fun nx=>nx.map (·.2))=some w
 |[],v,w,nxs=>by
  constructor
  .rintro ⟨rfl,rfl⟩;exact⟨rfl,fun nx h=>(by cases h),rfl⟩
  .rintro ⟨h1,h2,h3⟩
   cases nxs with
   |nil=>exact⟨rfl,ax_ h3⟩
   |cons _ _=>cases h1
 |l::ls,v,w,nxs=>by
  constructor
  .rintro ⟨nx,nxs',u,rfl,⟨⟨h1,h2,h3,h4⟩,h5⟩,h6⟩
   obtain⟨g1,g2,g3⟩:=Aw0.1 h6;refine⟨by rw[map_cons,<-h1,<-g1],fun x hx=> ?_,?_⟩
   .rcases mem_cons.1 hx with rfl|hx
    .exact⟨h2,h3,h5⟩
    .exact g2 x hx
   .rw[flatMap_cons];exact Bo7.2 ⟨u,h4,g3⟩
  .rintro ⟨h1,h2,h3⟩
   cases nxs with
   |nil=>cases h1
   |cons nx nxs'=>
    rw[map_cons]at h1;injection h1 with e1 e2
    rw[flatMap_cons]at h3;obtain⟨u,g1,g2⟩:=Bo7.1 h3;obtain⟨a1,a2,a3⟩:=h2 nx ab_;exact⟨nx,nxs',u,rfl,⟨⟨e1,a1,a2,g1⟩,a3⟩,Aw0.2 ⟨e2,fun x hx=>h2 x (mem_cons_of_mem _ hx),g2⟩⟩
theorem Cg7(m:Mdl):(eM m).Choices.flatten=m.ch.flatten.map eC:=by
 unfold eM eL;rw[List.map_flatten]
def szY(y:A9):Prop:=∀l∈y.Choices,l.length<=1000000/\∀c∈l,c.Gain.length<=9000000/\c.Next.length<=1000000/\∀b∈c.Next,b.P.length<=9000000
theorem Bb8{m:Mdl}(h:okM m):szB (eM m)=true/\(eM m).Owner.all owB=true/\((Ay3 0 (eM m).Choices).all fun y=>Cc1 y.2.Act)=true/\(∃rs,gnP 1 ((Ay3 0 (eM m).Choices).map (·.2.Gain)) rs (gG m))/\∃nxs,Fl4 (eM m).Owner.length 1 ((Ay3 0 (eM m).Choices).map (·.2.Next)) nxs (gP m):=by
 obtain⟨h1,h2,h3,h4,h5,h6,h7,h8,h9,h10⟩:=h;refine⟨?_,?_,?_,⟨Bx1 m,?_,?_,?_⟩,m.ch.flatten.map (·.next),?_⟩
 .unfold szB;rw[Bool.and_eq_true,Bool.and_eq_true,Bool.and_eq_true];refine⟨⟨⟨dT_ h1,dT_ h2⟩,dT_ (by simp[eM,h3])⟩,?_⟩;rw[List.all_eq_true];intro l hl;obtain⟨l',hl',rfl⟩:=av_.1 (show l∈m.ch.map eL from hl);obtain⟨a,b⟩:=h4 l' hl';unfold clB eL;rw[length_map,dT_ a,dT_ b];rfl
 .rw[List.all_eq_true];intro o ho;rcases h5 o ho with rfl|rfl<;>rfl
 .rw[List.all_eq_true];intro y hy;have:=Cn4 hy;rw[Cg7]at this;obtain⟨c,hc,e⟩:=av_.1 this;rw[<-e];exact h6 c hc
 .rw[Y0 (fun c=>c.Gain),Cg7,List.map_map];unfold Bx1;rw[List.map_map];rfl
 .intro r hr;obtain⟨c,hc,rfl⟩:=av_.1 hr;exact h7 c hc
 .unfold gG;rw[<-Option.some_get h9];rfl
 .refine Aw0.2 ⟨?_,fun nx hnx=> ?_,?_⟩
  .rw[Y0 (fun c=>c.Next),Cg7,List.map_map,List.map_map];rfl
  .obtain⟨c,hc,rfl⟩:=av_.1 hnx;exact h8 c hc
  .rw[List.flatMap_map];unfold gP;show Z8 1 (Cc3 m)=_;rw[<-Option.some_get h10];rfl
theorem Fw1{y:A9}(h1:szB y=true)(h2:y.Owner.all owB=true)(h3:((Ay3 0 y.Choices).all fun y=>Cc1 y.2.Act)=true){rs:List Rat}{w:Nat}(h4:gnP 1 ((Ay3 0 y.Choices).map (·.2.Gain)) rs w){nxs:List (List (Int×Rat))}{u:Nat}(h5:Fl4 y.Owner.length 1 ((Ay3 0 y.Choices).map (·.2.Next)) nxs u):
 ∃m,okM m/\y=eM m/\gG m=w/\gP m=u:=by
 rw[Y0 (fun c=>c.Gain)]at h4;rw[Y0 (fun c=>c.Next)]at h5;obtain⟨a1,a2,a3⟩:=h4;obtain⟨b1,b2,b3⟩:=Aw0.1 h5;have hrs:rs=y.Choices.flatten.map fun c=>unT c.Gain:=by
  have:(y.Choices.flatten.map fun c=>c.Gain).map unT=(rs.map T).map unT:=by rw[a1]
  rw[List.map_map,List.map_map,show unT∘T=id from funext Ej2,bx_]at this;exact this.symm
 have hnx:nxs=y.Choices.flatten.map fun c=>c.Next.map unB:=by
  have:(y.Choices.flatten.map fun c=>c.Next).map (·.map unB)=(nxs.map (·.map eB)).map (·.map unB):=by rw[b1]
  rw[List.map_map,List.map_map,show((fun x:List B7=>x.map unB)∘fun x:List (Int×Rat)=>x.map eB)=id from funext fun l=>by
   simp only[Function.comp_def,List.map_map,Dx9];exact bx_ _,bx_]at this
  exact this.symm
 have hg:∀c∈y.Choices.flatten,c.Gain=T (unT c.Gain):=fun c hc=>by
  have:c.Gain∈rs.map T:=by rw[<-a1];exact bb_ (f:=fun c:A2=>c.Gain) hc
  obtain⟨r,_,e⟩:=av_.1 this;rw[<-e,Ej2]
 have hb:∀c∈y.Choices.flatten,(c.Next.map unB).map eB=c.Next:=fun c hc=>by
  have:c.Next∈nxs.map (·.map eB):=by rw[<-b1];exact bb_ (f:=fun c:A2=>c.Next) hc
  obtain⟨nx,_,e⟩:=av_.1 this;have e2:(nx.map eB).map unB=nx:=by rw[List.map_map,show unB∘eB=id from funext Dx9,bx_]
  rw[<-e,e2]
 have hc:∀c∈y.Choices.flatten,eC (unC c)=c:=fun c hc=>by
  unfold eC unC;show(⟨c.Act,T (unT c.Gain),(c.Next.map unB).map eB⟩:A2)=c;rw[hb c hc,<-hg c hc]
 have hm:eM (unM y)=y:=by
  unfold eM unM eL;show(⟨y.Owner,(y.Choices.map (·.map unC)).map fun l=>l.map eC⟩:A9)=y;have:(y.Choices.map (·.map unC)).map (fun l=>l.map eC)=y.Choices:=by
   rw[List.map_map];refine(b8_ fun l hl=> ?_).trans (bx_ _);simp only[Function.comp_def,List.map_map];exact(b8_ fun c h=>hc c (bg_.2 ⟨l,hl,h⟩)).trans (bx_ _)
  rw[this]
 have hfl:(unM y).ch.flatten=y.Choices.flatten.map unC:=by
  unfold unM;rw[List.map_flatten]
 have hgn:Bx1 (unM y)=rs:=by
  unfold Bx1;rw[hfl,List.map_map,hrs];rfl
 have hpr:Cc3 (unM y)=nxs.flatMap fun nx=>nx.map (·.2):=by
  unfold Cc3;rw[hfl,List.flatMap_map,hnx,List.flatMap_map];rfl
 unfold szB at h1;rw[Bool.and_eq_true,Bool.and_eq_true,Bool.and_eq_true,decide_eq_true_eq,decide_eq_true_eq,decide_eq_true_eq]at h1;obtain⟨⟨⟨c1,c2⟩,c3⟩,c4⟩:=h1;rw[List.all_eq_true]at c4 h2 h3;have hact:∀c∈y.Choices.flatten,Cc1 c.Act=true:=fun c hc=>by
  have e:=Y0 id 0 y.Choices;rw[bx_]at e;rw[<-e]at hc;obtain⟨z,hz,rfl⟩:=av_.1 hc;exact h3 z hz
 refine⟨unM y,⟨c1,c2,by simp[unM,c3],fun l hl=> ?_,fun o ho=> ?_,fun c hc'=> ?_,fun c hc'=> ?_,fun c hc'=> ?_,by rw[hgn,a3];rfl,by rw[hpr,b3];rfl⟩,hm.symm,by unfold gG;rw[hgn,a3];rfl,by unfold gP;rw[hpr,b3];rfl⟩
 .obtain⟨l',hl',rfl⟩:=av_.1 (show l∈y.Choices.map (·.map unC) from hl);have:=c4 l' hl';unfold clB at this;rw[Bool.and_eq_true,decide_eq_true_eq,decide_eq_true_eq]at this;rw[length_map];exact this
 .have:=h2 o ho;unfold owB at this;rw[Bool.or_eq_true,beq_iff_eq,beq_iff_eq]at this;exact this
 .rw[hfl]at hc';obtain⟨x,hx,rfl⟩:=av_.1 hc';exact hact x hx
 .rw[hfl]at hc';obtain⟨x,hx,rfl⟩:=av_.1 hc';exact a2 (unT x.Gain) (by rw[hrs];exact bb_ (f:=fun c:A2=>unT c.Gain) hx)
 .rw[hfl]at hc';obtain⟨x,hx,rfl⟩:=av_.1 hc';exact b2 (x.Next.map unB) (by rw[hnx];exact bb_ (f:=fun c:A2=>c.Next.map unB) hx)
theorem Dr0{y:A9}(hz:szY y):
 (∃m,okM m/\y=eM m/\Ev fun f=>Dd2 f y=some (⟨y,(gP m:Int),(gG m:Int)⟩,true))\/((¬∃m,okM m/\y=eM m)/\∃c,Ev fun f=>Dd2 f y=some (c,false)):=by
 have s0:∀f k a b,I9 f y (k+1) 0 a b=(Cw7 f y.Owner y.Choices a b).bind fun z=>bif !z then some ((⟨y,a,b⟩:B1),false) else I9 f y k 1 a b:=fun f k a b=>by kernel_rfl
 have s1:∀f k a b,I9 f y (k+1) 1 a b=(Cw8 f y.Owner y.Choices a b).bind fun z=>bif !z then some ((⟨y,a,b⟩:B1),false) else I9 f y k 2 a b:=fun f k a b=>by kernel_rfl
 have s2:∀f k a b,I9 f y (k+1) 2 a b=(Br9 f y.Owner y.Choices a b).bind fun z=>bif !z then some ((⟨y,a,b⟩:B1),false) else I9 f y k 3 a b:=fun f k a b=>by kernel_rfl
 have s3:∀f k a b,I9 f y (k+1) 3 a b=(Cd5 f y.Owner y.Choices a b).bind fun z=>bif !z.1 then some ((⟨y,a,z.2⟩:B1),false) else I9 f y k 4 a z.2:=fun f k a b=>by kernel_rfl
 have s4:∀f k a b,I9 f y (k+1) 4 a b=(Cw9 f y.Owner y.Choices a b).bind fun z=>bif !z.1 then some ((⟨y,z.2,b⟩:B1),false) else I9 f y k 5 z.2 b:=fun f k a b=>by kernel_rfl
 have s5:∀f k a b,I9 f y (k+1) 5 a b=some ((⟨y,a,b⟩:B1),true):=fun f k a b=>by kernel_rfl
 have peel:∀{f:Nat},10<=f->∃k,f=k+6:=fun{f} h=>⟨f-6,by omega⟩
 cases c1:szB y with
 |false=>
  refine .inr ⟨fun⟨m,hm,he⟩=> ?_,(⟨y,0,0⟩:B1),(Ev.ge 100).mono fun f hf=> ?_⟩
  .have:=(Bb8 hm).1;rw[<-he,c1]at this;cases this
  .obtain⟨k,hk⟩:=peel (show 10<=f by omega);unfold Dd2
   conv=>lhs;arg 3;rw[hk]
   rw[s0,Af0 (by omega),sb,c1];rfl
 |true=>
  have d1:=c1;unfold szB at d1;rw[Bool.and_eq_true,Bool.and_eq_true,Bool.and_eq_true,decide_eq_true_eq,decide_eq_true_eq,decide_eq_true_eq]at d1;obtain⟨⟨⟨e1,e2⟩,e3⟩,e4⟩:=d1;have hall:∀f,1000002<=f->Ex8 f y.Owner y.Choices=some (Ay3 0 y.Choices):=fun f hf=>Fs0 (by omega) (by omega) fun l hl=>(hz l hl).1
  have hzc:∀z∈Ay3 0 y.Choices,z.2.Gain.length<=9000000/\z.2.Next.length<=1000000/\∀b∈z.2.Next,b.P.length<=9000000:=fun z hz'=>by
   obtain⟨l,hl,hc⟩:=bg_.1 (Cn4 hz');exact(hz l hl).2 _ hc
  cases c2:y.Owner.all owB with
  |false=>
   refine .inr ⟨fun⟨m,hm,he⟩=> ?_,(⟨y,0,0⟩:B1),(Ev.ge 2000).mono fun f hf=> ?_⟩
   .have:=(Bb8 hm).2.1;rw[<-he,c2]at this;cases this
   .obtain⟨k,hk⟩:=peel (show 10<=f by omega);unfold Dd2
    conv=>lhs;arg 3;rw[hk]
    rw[s0,Af0 (by omega),sb,c1];simp only[Bool.not_true,cond_false];rw[s1,Al7 (by omega) (by omega),sb,c2];rfl
  |true=>
   cases c3:(Ay3 0 y.Choices).all fun y=>Cc1 y.2.Act with
   |false=>
    refine .inr ⟨fun⟨m,hm,he⟩=> ?_,(⟨y,0,0⟩:B1),(Ev.ge 1000002).mono fun f hf=> ?_⟩
    .have:=(Bb8 hm).2.2.1;rw[<-he,c3]at this;cases this
    .obtain⟨k,hk⟩:=peel (show 10<=f by omega);unfold Dd2
     conv=>lhs;arg 3;rw[hk]
     rw[s0,Af0 (by omega),sb,c1];simp only[Bool.not_true,cond_false];rw[s1,Al7 (by omega) (by omega),sb,c2];simp only[Bool.not_true,cond_false];rw[s2];unfold Br9 Cm0;rw[sb,hall f hf,sb,Bb5 (by omega),sb,c3];rfl
   |true=>
    rcases Cq6 (d0:=y.Owner) (d1:=y.Choices) (d2:=0) (Ay3 0 y.Choices) 1 (fun z h=>(hzc z h).1) (by decide) (by decide) with⟨rs,w,h4,E4⟩|⟨hno,w,E4⟩
    .rcases Bi0 (d0:=y.Owner) (d1:=y.Choices) (d3:=(w:Int)) e2 (Ay3 0 y.Choices) 1 (fun z h=>(hzc z h).2) (by decide) (by decide) with⟨nxs,u,h5,E5⟩|⟨hno,u,E5⟩
     .obtain⟨m,hm,he,hw,hu⟩:=Fw1 c1 c2 c3 h4 h5;refine .inl ⟨m,hm,he,((E4.and E5).and (Ev.ge 1000002)).mono fun f hf=> ?_⟩;obtain⟨⟨f4,f5⟩,hf⟩:=hf;obtain⟨k,hk⟩:=peel (show 10<=f by omega);unfold Dd2
      conv=>lhs;arg 3;rw[hk]
      rw[s0,Af0 (by omega),sb,c1];simp only[Bool.not_true,cond_false];rw[s1,Al7 (by omega) (by omega),sb,c2];simp only[Bool.not_true,cond_false];rw[s2];unfold Br9 Cm0;rw[sb,hall f hf,sb,Bb5 (by omega),sb,c3];simp only[Bool.not_true,cond_false];rw[s3];unfold Cd5 Cm0;rw[sb,hall f hf,sb,show H0 f y.Owner y.Choices 0 (Ay3 0 y.Choices) 1=some (true,(w:Int)) from f4,sb];simp only[Bool.not_true,cond_false];rw[s4];unfold Cw9 Cm0;rw[sb,hall f hf,sb,show K3 f y.Owner y.Choices (w:Int) (Ay3 0 y.Choices) 1=some (true,(u:Int)) from f5,sb];simp only[Bool.not_true,cond_false];rw[s5,hw,hu]
     .refine .inr ⟨fun⟨m,hm,he⟩=> ?_,(⟨y,u,(w:Int)⟩:B1),((E4.and E5).and (Ev.ge 1000002)).mono fun f hf=> ?_⟩
      .obtain⟨_,_,_,_,nxs,h6⟩:=Bb8 hm;rw[<-he]at h6;exact hno ⟨nxs,_,h6⟩
      .obtain⟨⟨f4,f5⟩,hf⟩:=hf;obtain⟨k,hk⟩:=peel (show 10<=f by omega);unfold Dd2
       conv=>lhs;arg 3;rw[hk]
       rw[s0,Af0 (by omega),sb,c1];simp only[Bool.not_true,cond_false];rw[s1,Al7 (by omega) (by omega),sb,c2];simp only[Bool.not_true,cond_false];rw[s2];unfold Br9 Cm0;rw[sb,hall f hf,sb,Bb5 (by omega),sb,c3];simp only[Bool.not_true,cond_false];rw[s3];unfold Cd5 Cm0;rw[sb,hall f hf,sb,show H0 f y.Owner y.Choices 0 (Ay3 0 y.Choices) 1=some (true,(w:Int)) from f4,sb];simp only[Bool.not_true,cond_false];rw[s4];unfold Cw9 Cm0;rw[sb,hall f hf,sb,show K3 f y.Owner y.Choices (w:Int) (Ay3 0 y.Choices) 1=some (false,u) from f5,sb];rfl
    .refine .inr ⟨fun⟨m,hm,he⟩=> ?_,(⟨y,0,w⟩:B1),(E4.and (Ev.ge 1000002)).mono fun f hf=> ?_⟩
     .obtain⟨_,_,_,⟨rs,h6⟩,_⟩:=Bb8 hm;rw[<-he]at h6;exact hno ⟨rs,_,h6⟩
     .obtain⟨f4,hf⟩:=hf;obtain⟨k,hk⟩:=peel (show 10<=f by omega);unfold Dd2
      conv=>lhs;arg 3;rw[hk]
      rw[s0,Af0 (by omega),sb,c1];simp only[Bool.not_true,cond_false];rw[s1,Al7 (by omega) (by omega),sb,c2];simp only[Bool.not_true,cond_false];rw[s2];unfold Br9 Cm0;rw[sb,hall f hf,sb,Bb5 (by omega),sb,c3];simp only[Bool.not_true,cond_false];rw[s3];unfold Cd5 Cm0;rw[sb,hall f hf,sb,show H0 f y.Owner y.Choices 0 (Ay3 0 y.Choices) 1=some (false,w) from f4,sb];rfl
theorem Dq6{y:A9}(hz:szY y):(∃m,okM m/\y=eM m/\Ev fun f=>F93 f y=some 0)\/((¬∃m,okM m/\y=eM m)/\Ev fun f=>F93 f y=some 110):=by
 rcases Dr0 hz with⟨m,h1,h2,h3⟩|⟨h1,c,h3⟩
 .refine .inl ⟨m,h1,h2,h3.mono fun f h=> ?_⟩;unfold F93;exact sbe h rfl
 .refine .inr ⟨h1,h3.mono fun f h=> ?_⟩;unfold F93;exact sbe h rfl
end
end Go.Proofs.YtfgbhfphjmmiaaaGreatDoor
end
section
namespace Go.Proofs.YtfgbhfphjmmiaaaGreatDoor
open Go Go.RowKit Kx Go.IntKind
set_option maxRecDepth 100000
section
theorem Co0{a:Int}(h:(Lit.int .u8 a).wf=true):0<=a/\a<256:=by
 have e1:IntKind.u8.min=0:=by kernel_rfl
 have e2:IntKind.u8.max=255:=by kernel_rfl
 simp[Lit.wf,e1,e2]at h;omega
def u8(x:Int):Prop:=0<=x/\x<256
def Er0(p:C8):Prop:=u8 p.State/\u8 p.Act/\u8 p.Gain/\u8 p.To.a0/\u8 p.To.a1/\u8 p.To.a2/\u8 p.Part.a0/\u8 p.Part.a1
def Ai4(d:B4):Prop:=u8 d.States/\u8 d.Owners/\u8 d.Grain/\u8 d.Cents/\∀p∈d.Picks,Er0 p
def cnt(d:B4):Nat:=1+(d.States%5).toNat
theorem Az1(d:B4):1<=cnt d/\cnt d<=5:=by unfold cnt;omega
theorem Cp0{d:B4}(h:Ai4 d):F60 d=some ((cnt d:Nat):Int):=by
 obtain⟨⟨h0,h1⟩,_⟩:=h;unfold F60 cnt;rw[(tdm h0).2,E3 (i:=d.States%5) (by omega) (by omega),E3 (by omega) (by omega)];congr 1;omega
theorem Ds1{α:Type}{l:List α}{v:Int}(h0:0<=v)(h1:v<l.length):∃x∈l,C2 l v=some x:=by
 rw[Ep5 h0 (by omega)];exact⟨_,af_ _,rfl⟩
def prt(w:Int):Nat->List Int->List (Int×Rat)
 |_,[]=>[]
 |i,x::l=>if x>0 then((i:Int),Rat.divInt x w)::prt w (i+1) l else prt w (i+1) l
theorem Cg4{x w:Int}(hw:0<w):((Rat.divInt x w).den:Int)∣w/\(Rat.divInt x w).num.natAbs<=x.natAbs:=by
 have hg:((Int.gcd w x:Nat):Int)∣w:=cw_ ..;have hg2:((Int.gcd w x:Nat):Int)∣x:=dc_ ..;constructor
 .rw[cu_,if_neg (by omega)];have:(Int.gcd w x:Nat)∣w.natAbs:=by have:=Int.natAbs_dvd_natAbs.2 hg;rwa [a6_]at this
  have h2:w.natAbs/Int.gcd w x∣w.natAbs:=Nat.div_dvd_of_dvd this;have h3:((w.natAbs/Int.gcd w x:Nat):Int)∣((w.natAbs:Nat):Int):=by exact_mod_cast h2
  rwa [show((w.natAbs:Nat):Int)=w by omega]at h3
 .rw[db_,ca_ hw,Int.one_mul,Int.natAbs_ediv_of_dvd hg2];exact c4_ _ _
theorem Eo2{x w:Int}(hw:0<w)(hw9:w<=100)(hx:x.natAbs<=1000):shB (Rat.divInt x w)=true:=by
 obtain⟨h1,h2⟩:=Cg4 (x:=x) hw;have h3:=Int.le_of_dvd hw h1;exact(Ak8 (k:=4) (by decide)).2 ⟨by omega,by omega⟩
theorem Cp5{x w:Int}(hx:0<x)(hw:0<w):0<Rat.divInt x w:=by
 rw[Rat.divInt_eq_div];have h1:(0:Rat)<(x:Rat):=Rat.intCast_pos.2 hx;have h2:(0:Rat)<(w:Rat):=Rat.intCast_pos.2 hw;rw[Rat.div_def];exact Rat.mul_pos h1 (Rat.inv_pos.2 h2)
theorem Bp6{w:Int}(hw:0<w)(hw9:w<=100):∀(l:List Int) (i n:Nat) (last:Int),(∀x∈l,0<=x/\x<=w)->last<i->i+l.length<=n->asc n last (prt w i l)/\(∀b∈prt w i l,shB b.2=true/\0<b.2/\(b.2.den:Int)∣w)/\∀x0:Rat,Br6 (prt w i l) x0=x0+Rat.divInt l.sum w
 |[],i,n,last,_,_,_=>⟨trivial,fun b h=>(by cases h),fun x0=>by
  show x0=x0+Rat.divInt 0 w;rw[Rat.zero_divInt,Rat.add_zero]⟩
 |x::l,i,n,last,hx,hl,hn=>by
  simp only[length_cons]at hn;have hxx:=hx x ab_;have hs:∀y:Rat,y+Rat.divInt (x::l).sum w=y+Rat.divInt x w+Rat.divInt l.sum w:=fun y=>by
   rw[sum_cons,Rat.add_assoc,Rat.divInt_add_divInt _ _ (by omega) (by omega),<-Int.add_mul,cx_ (by omega)]
  rw[prt];by_cases h0:x>0
  .rw[if_pos h0];obtain⟨h1,h2,h3⟩:=Bp6 hw hw9 l (i+1) n (i:Int) (fun y hy=>hx y (mem_cons_of_mem _ hy)) (by omega) (by omega);refine⟨⟨hl,by omega,h1⟩,fun b hb=> ?_,fun y=> ?_⟩
   .rcases mem_cons.1 hb with rfl|hb
    .exact⟨Eo2 hw hw9 (by omega),Cp5 h0 hw,(Cg4 hw).1⟩
    .exact h2 b hb
   .rw[Br6,h3,hs]
  .rw[if_neg h0];obtain⟨h1,h2,h3⟩:=Bp6 hw hw9 l (i+1) n last (fun y hy=>hx y (mem_cons_of_mem _ hy)) (by omega) (by omega);refine⟨h1,h2,fun y=> ?_⟩;rw[h3,hs,show x=0 by omega,Rat.zero_divInt,Rat.add_zero]
theorem Cj6{l4:List Int}{y1:Nat}{w:Int}{a b:List UInt8}(hw:0<w)(hw9:w<=100)(hl:l4.length=y1)(hy:y1<=5)(hx:∀x∈l4,0<=x/\x<=w):
 ∀(l:List Int) (i:Nat) (acc:List B7),l4.drop i=l->acc.length<=i->Ev fun f=>∀k,l.length<k->Aj6 f l4 (y1:Int) w a b k (i:Int) acc=some ⟨a,b,acc++(prt w i l).map eB⟩
 |[],i,acc,hd,_=>Ev.of fun f k hk=>by
  obtain⟨k,rfl⟩:∃j,k=j+1:=⟨k-1,by simp at hk;omega⟩
  have:=drop_nil hd;unfold Aj6;rw[dF_ (by omega)];simp[prt]
 |x::l,i,acc,hd,ha=>by
  obtain⟨hi,hb,hd'⟩:=K1 hd;have hxx:=hx x (by rw[<-hb];exact af_ hi);have hof:=Gq0 (n:=x) (d:=w) (by omega) (by omega) hw (by omega);by_cases h0:x>0
  .refine(hof.and (Cj6 (a:=a) (b:=b) hw hw9 hl hy hx l (i+1) (acc++[⟨(i:Int),T (Rat.divInt x w)⟩]) hd' (by simp;omega))).mono fun f h k hk=> ?_
   obtain⟨h1,h2⟩:=h;obtain⟨k,rfl⟩:∃j,k=j+1:=⟨k-1,by simp at hk;omega⟩
   unfold Aj6;rw[dT_ (by omega),C3 hi,hb];simp only[cond_true,sb];rw[dT_ h0];simp only[cond_true];refine sbe h1 (sbe (T8 _ _ (by simp;omega)) ?_);unfold Bg7;rw[wi i (by omega),h2 k (by simp at hk;omega),prt,if_pos h0,map_cons,List.append_assoc];rfl
  .refine(Cj6 (a:=a) (b:=b) hw hw9 hl hy hx l (i+1) acc hd' (by omega)).mono fun f h2 k hk=> ?_
   obtain⟨k,rfl⟩:∃j,k=j+1:=⟨k-1,by simp at hk;omega⟩
   unfold Aj6;rw[dT_ (by omega),C3 hi,hb];simp only[cond_true,sb];rw[dF_ h0];simp only[cond_false];unfold Bg7;rw[wi i (by omega),h2 k (by simp at hk;omega),prt,if_neg h0]
theorem Dw6:∀(l:List Int) (i:Nat) (y:Int),i<l.length->(l.set i (l.getD i 0+y)).sum=l.sum+y
 |[],i,y,h=>by simp at h
 |x::l,0,y,_=>by simp;omega
 |x::l,i+1,y,h=>by
  have:=Dw6 l i y (by simpa using h);simp only[set_cons_succ,sum_cons,getD_cons_succ];omega
theorem Bb7:∀(l:List Int),(∀x∈l,0<=x)->0<=l.sum/\∀x∈l,x<=l.sum
 |[],_=>⟨by simp,fun x h=>(by cases h)⟩
 |y::l,h=>by
  obtain⟨h1,h2⟩:=Bb7 l fun x hx=>h x (mem_cons_of_mem _ hx)
  have h0:=h y ab_;rw[sum_cons];refine⟨by omega,fun x hx=> ?_⟩;rcases mem_cons.1 hx with rfl|hx
  .omega
  .have:=h2 x hx;omega
theorem Di7{l:List Int}{n:Nat}{j y:Int}(hl:l.length=n)(hn:l.sum<=1000)(hx:∀x∈l,0<=x)(j0:0<=j)(j1:j<n)(y0:0<=y)(y1:y<=1000):
 ∃x,C2 l j=some x/\∃l',l.set (0+Int.toNat j) (i64.wrap (x+y))=l'/\l'.length=n/\l'.sum=l.sum+y/\∀x∈l',0<=x:=by
 have hj:j.toNat<l.length:=by omega
 have hm:=af_ hj;have h2:=(Bb7 l hx).2 _ hm;have h3:=hx _ hm;refine⟨l[j.toNat],Ep5 j0 hj,_,rfl,by simp[hl],?_,fun x hx'=> ?_⟩
 .rw[E3 (by omega) (by omega),show 0+Int.toNat j=j.toNat by omega,show l[j.toNat]=l.getD j.toNat 0 by simp[hj],Dw6 l _ y hj]
 .rw[E3 (by omega) (by omega)]at hx';rcases b2_ hx' with h|rfl
  .exact hx x h
  .omega
structure By8(n w:Nat)(g:Nat)(c:Cho):Prop where
 ac:Cc1 c.act=true
 ga:shB c.gain=true/\0<=c.gain/\c.gain.den∣g
 br:Fs7 n c.next
 dv:∀b∈c.next,b.2.den∣w
theorem Dk4{d:B4}{p:C8}(hd:Ai4 d)(hp:Er0 p){w g:Int}(hw:C2 [1,2,3,4,6,10,100,5] (Int.tmod d.Grain 8)=some w)(hg:C2 [1,2,3,1] (Int.tmod d.Cents 4)=some g)(w0:0<w)(w9:w<=100)(g0:0<g)(g9:g<=3):
 ∃c,By8 (cnt d) w.toNat g.toNat c/\Ev fun f=>F61 f d p=some (eC c):=by
 obtain⟨⟨p1,q1⟩,⟨p2,q2⟩,⟨p3,q3⟩,⟨p4,q4⟩,⟨p5,q5⟩,⟨p6,q6⟩,⟨p7,q7⟩,⟨p8,q8⟩⟩:=hp;obtain⟨c1,c5⟩:=Az1 d
 have t0:=a4_ p.Part.a0 (show w+1≠0 by omega);have t1:=a2_ p.Part.a0 (show 0<w+1 by omega);have t2:=a4_ p.Part.a1 (show w-p.Part.a0%(w+1)+1≠0 by omega);have t3:=a2_ p.Part.a1 (show 0<w-p.Part.a0%(w+1)+1 by omega);have j0:∀x:Int,0<=x->0<=x%(cnt d:Int)/\x%(cnt d:Int)<cnt d:=fun x _=>⟨a4_ _ (by omega),a2_ _ (by omega)⟩
 have z0:(List.replicate (cnt d) (0:Int)).sum=0:=by
  induction cnt d with
  |zero=>rfl
  |succ n ih=>rw[List.replicate_succ,sum_cons,ih];rfl
 obtain⟨x1,e1,l2,s1,n1,m1,k1⟩:=Di7 (l:=List.replicate (cnt d) 0) (n:=cnt d) (j:=p.To.a0%(cnt d:Int)) (y:=p.Part.a0%(w+1)) (by simp) (by omega) (fun x hx=>by rw[(List.mem_replicate.1 hx).2];omega) (j0 _ p4).1 (j0 _ p4).2 (by omega) (by omega);obtain⟨x2,e2,l3,s2,n2,m2,k2⟩:=Di7 (l:=l2) (n:=cnt d) (j:=p.To.a1%(cnt d:Int)) (y:=p.Part.a1%(w-p.Part.a0%(w+1)+1)) n1 (by omega) k1 (j0 _ p5).1 (j0 _ p5).2 (by omega) (by omega);obtain⟨x3,e3,l4,s3,n3,m3,k3⟩:=Di7 (l:=l3) (n:=cnt d) (j:=p.To.a2%(cnt d:Int)) (y:=w-p.Part.a0%(w+1)-p.Part.a1%(w-p.Part.a0%(w+1)+1)) n2 (by omega) k2 (j0 _ p6).1 (j0 _ p6).2 (by omega) (by omega);have hsum:l4.sum=w:=by omega
 have hle:∀x∈l4,0<=x/\x<=w:=fun x hx=>⟨k3 x hx,by rw[<-hsum];exact(Bb7 l4 k3).2 x hx⟩
 obtain⟨r1,r2,r3⟩:=Bp6 w0 w9 l4 0 (cnt d) (-1) hle (by omega) (by omega);obtain⟨ac,hac,eac⟩:=Ds1 (l:=([[],[97],[103,111],[97,98,99,100,101,102,103,104]]:List (List UInt8))) (v:=Int.tmod p.Act 4) (by rw[(tdm p2).2];omega) (by rw[(tdm p2).2];simp;omega);have gd:=Cg4 (x:=p.Gain%20) g0;refine⟨⟨ac,Rat.divInt (p.Gain%20) g,prt w 0 l4⟩,⟨?_,⟨Eo2 g0 (by omega) (by omega),?_,?_⟩,⟨r1,fun b hb=>⟨(r2 b hb).1,(r2 b hb).2.1⟩,?_⟩,fun b hb=> ?_⟩,?_⟩
 .exact(by decide:∀x∈([[],[97],[103,111],[97,98,99,100,101,102,103,104]]:List (List UInt8)),Cc1 x=true) ac hac
 .exact(Rat.divInt_nonneg_iff_of_pos_right g0).2 (by omega)
 .have:(((Rat.divInt (p.Gain%20) g).den:Nat):Int)∣((g.toNat:Nat):Int):=by rw[cj_ (by omega)];exact gd.1
  exact Int.natCast_dvd_natCast.1 this
 .show Br6 (prt w 0 l4) 0=1;rw[r3,hsum,Rat.zero_add,Rat.divInt_self' (by omega)]
 .have:((b.2.den:Nat):Int)∣((w.toNat:Nat):Int):=by rw[cj_ (by omega)];exact(r2 b hb).2.2
  exact Int.natCast_dvd_natCast.1 this
 .refine((Cj6 (a:=ac) (b:=T (Rat.divInt (p.Gain%20) g)) w0 w9 n3 c5 hle l4 0 [] rfl (by simp)).and ((Gq0 (n:=p.Gain%20) (d:=g) (by omega) (by omega) g0 (by omega)).and (Ev.ge 10))).mono fun f h=> ?_
  obtain⟨h1,h2,h3⟩:=h;have W:∀{x:Int},-1000<=x->x<=1000->i64.wrap x=x:=fun a b=>E3 (by omega) (by omega)
  have a1:Int.tmod (i64.wrap p.Part.a0) (i64.wrap (w+1))=p.Part.a0%(w+1):=by rw[W (by omega) (by omega),W (by omega) (by omega),(tdm p7).2]
  have a2:i64.wrap (w-p.Part.a0%(w+1))=w-p.Part.a0%(w+1):=W (by omega) (by omega);have a3:i64.wrap (w-p.Part.a0%(w+1)+1)=w-p.Part.a0%(w+1)+1:=W (by omega) (by omega);have a4:Int.tmod (i64.wrap p.Part.a1) (w-p.Part.a0%(w+1)+1)=p.Part.a1%(w-p.Part.a0%(w+1)+1):=by rw[W (by omega) (by omega),(tdm p8).2]
  have a5:i64.wrap (w-p.Part.a0%(w+1)-p.Part.a1%(w-p.Part.a0%(w+1)+1))=w-p.Part.a0%(w+1)-p.Part.a1%(w-p.Part.a0%(w+1)+1):=W (by omega) (by omega);have b1:∀x:Int,0<=x->x<256->Int.tmod (i64.wrap x) ((cnt d:Nat):Int)=x%(cnt d:Int):=fun x h h'=>by rw[W (by omega) (by omega),(tdm h).2]
  unfold F61;rw[Cp0 hd,sb,hw,sb,a1,a2,a3,a4,a5,b1 _ p4 q4,b1 _ p5 q5,b1 _ p6 q6,W (x:=w+1) (by omega) (by omega)];rw[D1 (dT_ (by omega)),D1 (dT_ (by omega)),At9 (by omega),sb,D1 (dT_ (by omega)),e1,sb,sb,s1,sb,D1 (dT_ (by omega)),e2,sb,sb,s2,sb,D1 (dT_ (by omega)),e3,sb,sb,s3,sb,eac,sb,hg,sb,(tdm p3).2,W (x:=p.Gain%20) (by omega) (by omega),h2,sb];exact h1 f (by omega)
theorem T0:T 0=[48]:=rfl
theorem T1:T 1=[49]:=by
 have:=Di5 1;rw[tx1]at this;rw[<-this];congr 1
theorem Bo8:∀{l:List Rat} {v w:Nat},0<v->v∣w->0<w->w<=9999->(∀r∈l,r.den∣w)->∃u,Z8 v l=some u/\u∣w
 |[],v,w,_,hv,_,_,_=>⟨v,rfl,hv⟩
 |r::l,v,w,v0,hv,h0,h9,h=>by
  have h1:Nat.lcm v r.den∣w:=Nat.lcm_dvd hv (h r ab_);unfold Z8;rw[if_pos (ah_ (cm_ h0 h1) h9)];exact Bo8 (Nat.lcm_pos v0 r.den_pos) h1 h0 h9 fun x hx=>h x (mem_cons_of_mem _ hx)
def Bz3(d:B4):List Int:=(List.range (cnt d)).map fun s=>if d.Owners.toNat.testBit s then 1 else 0
theorem Fa8{s i:Nat}(hs:s<256)(hi:i<8):
 (IntKind.u8.wrap (BitVec.ofInt IntKind.u8.bits (Int.fdiv (s:Int) (2^(min (Int.toNat (i:Int)) IntKind.u8.bits)))&&&BitVec.ofInt IntKind.u8.bits 1).toNat)=if s.testBit i then 1 else 0:=by
 have h1:Int.fdiv (s:Int) (2^(min (Int.toNat (i:Int)) IntKind.u8.bits))=((s/2^i:Nat):Int):=by
  have:min (Int.toNat (i:Int)) IntKind.u8.bits=i:=by simp[IntKind.bits];omega
  rw[this,Int.fdiv_eq_ediv_of_nonneg _ (by exact_mod_cast at_ _)];norm_cast
 have h2:BitVec.ofInt IntKind.u8.bits 1=BitVec.ofNat 8 1:=rfl;have h8:∀x:Nat,(BitVec.ofInt IntKind.u8.bits (x:Int))=BitVec.ofNat 8 x:=fun x=>by
  show BitVec.ofInt 8 (x:Int)=BitVec.ofNat 8 x;simp
 rw[h1,h8,h2];have h4:s/2^i<2^8:=cc_ (c4_ _ _) hs;have h3:(BitVec.ofNat 8 (s/2^i)&&&BitVec.ofNat 8 1).toNat=if s.testBit i then 1 else 0:=by
  rw[BitVec.toNat_and,da_,da_,Nat.mod_eq_of_lt h4,show(1:Nat)%2^8=1 from rfl,Nat.and_one_is_mod];exact Es4 s i
 have h5:((BitVec.ofNat 8 (s/2^i)&&&BitVec.ofNat 8 1).toNat:Int)=if s.testBit i then 1 else 0:=by
  rw[h3];split<;>rfl
 have key:IntKind.u8.wrap ((BitVec.ofNat 8 (s/2^i)&&&BitVec.ofNat 8 1).toNat:Int)=if s.testBit i then 1 else 0:=by
  have hb:((BitVec.ofNat 8 (s/2^i)&&&BitVec.ofNat 8 1).toNat:Int)<256:=by rw[h5];split<;>decide
  rw[wu8 (by omega) hb,h5]
 exact key
theorem Bp4{f:Nat}{d:B4}(hd:Ai4 d){l2:List (List A2)}:∀(r i k:Nat),i+r=cnt d->r<k->As3 f d l2 (cnt d:Int) k (i:Int) (fil (fun s=>if d.Owners.toNat.testBit s then(1:Int) else 0) 0 (cnt d) i)=V8 f d (Bz3 d) (cnt d:Int) f 0 l2
 |_,_,0,_,h=>absurd h (by omega)
 |0,i,k+1,hi,_=>by
  obtain rfl:i=cnt d:=by omega
  unfold As3;rw[dF_ (by omega),Do1];rfl
 |r+1,i,k+1,hi,hk=>by
  have hil:i<cnt d:=by omega
  have c5:=(Az1 d).2;have⟨_,⟨o0,o1⟩,_⟩:=hd;unfold As3;rw[dT_ (by omega)];simp only[cond_true];have hb:=Fa8 (s:=d.Owners.toNat) (i:=i) (by omega) (by omega);rw[cj_ o0]at hb;rw[D1 (dT_ (by omega)),hb];cases hbit:d.Owners.toNat.testBit i with
  |true=>
   simp only[if_true,show((1:Int)==1)=true from rfl,cond_true];rw[Ak7 hil,sb,sb];unfold Bf7;have g1:(fil (fun s=>if d.Owners.toNat.testBit s then(1:Int) else 0) 0 (cnt d) i).set (0+Int.toNat (i:Int)) 1=fil (fun s=>if d.Owners.toNat.testBit s then(1:Int) else 0) 0 (cnt d) (i+1):=by
    rw[tn,<-Aq6 hil,hbit];rfl
   rw[g1,wi i (by omega)];exact Bp4 hd r (i+1) k (by omega) (by omega)
  |false=>
   simp only[Bool.false_eq_true,if_false,show((0:Int)==1)=false from rfl,cond_false];unfold Bf7;rw[wi i (by omega),Ee6 (f:=fun s=>if d.Owners.toNat.testBit s then(1:Int) else 0) hil (by simp[hbit])];exact Bp4 hd r (i+1) k (by omega) (by omega)
structure Gd0(d:B4)(m:Mdl):Prop where
 ok:okM m
 own:m.own=Bz3 d
 cl:∀l∈m.ch,l.length<=3
 gp:gP m<=100
 gg:gG m<=3
theorem Gv4(n s w g:Nat)(hs:s<n):By8 n w g ⟨[],0,[((s:Int),1)]⟩:=by
 refine⟨rfl,⟨rfl,Rat.le_refl,Nat.one_dvd _⟩,⟨⟨by show(-1:Int)<(s:Int);omega,by show(s:Int)<n;omega,trivial⟩,fun b hb=> ?_,Rat.zero_add 1⟩,fun b hb=> ?_⟩
 .rw[bt_]at hb;subst hb;exact⟨rfl,(by decide:(0:Rat)<1)⟩
 .rw[bt_]at hb;subst hb;exact Nat.one_dvd _
theorem Ft4(s:Nat):eC ⟨[],0,[((s:Int),1)]⟩=(⟨[],[48],[(⟨(s:Int),[49]⟩:B7)]⟩:A2):=by
 unfold eC eB;rw[List.map_singleton,T0,T1]
theorem Ff4{d:B4}{cs:List (List Cho)}{w g:Nat}(hc:cs.length=cnt d)(hl:∀l∈cs,1<=l.length/\l.length<=3/\∀c∈l,By8 (cnt d) w g c)(w0:0<w)(w9:w<=100)(g0:0<g)(g9:g<=3):Gd0 d ⟨Bz3 d,cs⟩:=by
 have ho:(Bz3 d).length=cnt d:=by simp[Bz3]
 obtain⟨c1,c5⟩:=Az1 d;have hf:∀c∈cs.flatten,By8 (cnt d) w g c:=fun c hc=>by
  obtain⟨l,h1,h2⟩:=bg_.1 hc;exact(hl l h1).2.2 c h2
 obtain⟨u,hu,hud⟩:=Bo8 (l:=Bx1 ⟨Bz3 d,cs⟩) (v:=1) (w:=g) (by decide) (Nat.one_dvd _) g0 (by omega) fun r hr=>by
  obtain⟨c,hc,rfl⟩:=av_.1 hr;exact(hf c hc).ga.2.2
 obtain⟨u',hu',hud'⟩:=Bo8 (l:=Cc3 ⟨Bz3 d,cs⟩) (v:=1) (w:=w) (by decide) (Nat.one_dvd _) w0 (by omega) fun r hr=>by
  obtain⟨c,hc,hr⟩:=List.mem_flatMap.1 hr;obtain⟨b,hb,rfl⟩:=av_.1 hr;exact(hf c hc).dv b hb
 refine⟨⟨by show 1<=(Bz3 d).length;omega,by show(Bz3 d).length<=12;omega,by show cs.length=(Bz3 d).length;omega,fun l h=>⟨(hl l h).1,by have:=(hl l h).2.1;omega⟩,fun o h=> ?_,fun c h=>(hf c h).ac,fun c h=>⟨(hf c h).ga.1,(hf c h).ga.2.1⟩,fun c h=>by rw[ho];exact(hf c h).br,by rw[hu];rfl,by rw[hu'];rfl⟩,rfl,fun l h=>(hl l h).2.1,?_,?_⟩
 .obtain⟨s,_,rfl⟩:=av_.1 h;split
  .exact .inr rfl
  .exact .inl rfl
 .unfold gP;rw[hu'];exact ah_ (cm_ w0 hud') w9
 .unfold gG;rw[hu];exact ah_ (cm_ g0 hud) g9
theorem Bd1{α β:Type}(f:α->β)(l:List α)(i:Nat)(x:α):(l.map f).set i (f x)=(l.set i x).map f:=by rw[List.map_set]
theorem Bq4{α:Type}{l:List α}{i:Nat}(h:i<l.length):l.set i l[i]=l:=by
 refine ext_getElem (by simp) fun j h1 h2=> ?_
 rw[List.getElem_set];split
 .subst_vars;rfl
 .rfl
theorem Ch9{d:B4}{w g:Nat}:∀(r i:Nat) (cs:List (List Cho)),i+r=cnt d->cs.length=cnt d->(∀l∈cs,l.length<=3/\∀c∈l,By8 (cnt d) w g c)->(∀j,j<i->∀l,cs[j]? =some l->l≠[])->
 ∃cs':List (List Cho),cs'.length=cnt d/\(∀l∈cs',1<=l.length/\l.length<=3/\∀c∈l,By8 (cnt d) w g c)/\∀k,r<k->Aj3 (Bz3 d) (cnt d:Int) k (i:Int) (cs.map eL)=some (eM ⟨Bz3 d,cs'⟩)
 |0,i,cs,hi,hc,hl,hn=>by
  refine⟨cs,hc,fun l h=> ?_,fun k hk=> ?_⟩
  .obtain⟨j,hj,rfl⟩:=List.mem_iff_getElem.1 h;have:=hn j (by omega) cs[j] (aa_ hj);obtain⟨h1,h2⟩:=hl _ h;exact⟨as_.2 this,h1,h2⟩
  .obtain⟨k,rfl⟩:∃j,k=j+1:=⟨k-1,by omega⟩
   unfold Aj3;rw[dF_ (by omega)];rfl
 |r+1,i,cs,hi,hc,hl,hn=>by
  have hil:i<cs.length:=by omega
  have c5:=(Az1 d).2;by_cases he:cs[i]=[]
  .obtain⟨cs',h1,h2,h3⟩:=Ch9 (d:=d) (w:=w) (g:=g) r (i+1) (cs.set i [⟨[],0,[((i:Int),1)]⟩]) (by omega) (by simp[hc]) (fun l h=>by
    rcases b2_ h with h|rfl
    .exact hl l h
    .exact⟨by simp,fun c hc=>by rw[bt_]at hc;subst hc;exact Gv4 _ _ _ _ (by omega)⟩) (fun j hj l h=>by
    rw[dd_]at h;split at h
    .cases h;simp
    .exact hn j (by omega) l h)
   refine⟨cs',h1,h2,fun k hk=> ?_⟩;obtain⟨k,rfl⟩:∃j,k=j+1:=⟨k-1,by omega⟩
   unfold Aj3;rw[dT_ (by omega),D8 hil];simp only[cond_true,sb];rw[show Int.toNat (i:Int)=i by omega,Bd1 eL,Bq4 hil,he];rw[show((((eL []).map A1).length:Nat):Int)==0 from rfl];simp only[cond_true];rw[D8 hil];simp only[sb];rw[<-Ft4 i,show[eC ⟨[],0,[((i:Int),1)]⟩]=eL [⟨[],0,[((i:Int),1)]⟩] from rfl,Bd1 eL];unfold Bf8;rw[wi i (by omega)];exact h3 k (by omega)
  .obtain⟨cs',h1,h2,h3⟩:=Ch9 (d:=d) (w:=w) (g:=g) r (i+1) cs (by omega) hc hl (fun j hj l h=>by
    rcases bc_ j i with h'|h'
    .exact hn j h' l h
    .obtain rfl:j=i:=by omega
     rw[aa_ hil]at h;cases h;exact he)
   refine⟨cs',h1,h2,fun k hk=> ?_⟩;obtain⟨k,rfl⟩:∃j,k=j+1:=⟨k-1,by omega⟩
   unfold Aj3;rw[dT_ (by omega),D8 hil];simp only[cond_true,sb];rw[show Int.toNat (i:Int)=i by omega,Bd1 eL,Bq4 hil];have hpos:0<cs[i].length:=as_.2 he;rw[show(((((eL cs[i]).map A1).length:Nat):Int)==0)=false by
    rw[beq_eq_false_iff_ne,length_map];unfold eL;rw[length_map];omega]
   simp only[cond_false];unfold Bf8;rw[wi i (by omega)];exact h3 k (by omega)
theorem Ff8{d:B4}(hd:Ai4 d){w g:Int}(hw:C2 [1,2,3,4,6,10,100,5] (Int.tmod d.Grain 8)=some w)(hg:C2 [1,2,3,1] (Int.tmod d.Cents 4)=some g)(w0:0<w)(w9:w<=100)(g0:0<g)(g9:g<=3):
 ∀(r i:Nat) (cs:List (List Cho)),i+r=20->cs.length=cnt d->(∀l∈cs,l.length<=3/\∀c∈l,By8 (cnt d) w.toNat g.toNat c)->
  ∃m,Gd0 d m/\Ev fun f=>∀k,r<k->V8 f d (Bz3 d) (cnt d:Int) k (i:Int) (cs.map eL)=some (eM m):=by
 have stop:∀(i:Nat) (cs:List (List Cho)),i<=20->(d.Picks.length<=i\/20<=i)->cs.length=cnt d->(∀l∈cs,l.length<=3/\∀c∈l,By8 (cnt d) w.toNat g.toNat c)->∃m,Gd0 d m/\Ev fun f=>∀k,0<k->V8 f d (Bz3 d) (cnt d:Int) k (i:Int) (cs.map eL)=some (eM m):=fun i cs hi hs hc hl=>by
  obtain⟨cs',h1,h2,h3⟩:=Ch9 (cnt d) 0 cs (by omega) hc hl (fun j hj=>absurd hj (by omega));refine⟨_,Ff4 h1 h2 (by omega) (by omega) (by omega) (by omega),(Ev.ge 10).mono fun f hf k hk=> ?_⟩;obtain⟨k,rfl⟩:∃j,k=j+1:=⟨k-1,by omega⟩
  have c5:=(Az1 d).2;unfold V8;have ho:(bif decide ((i:Int)<((d.Picks.map B6).length:Int)) then some (decide ((i:Int)<20)) else some false)=some false:=by
   rw[length_map];by_cases h:i<d.Picks.length
   .rw[dT_ (by omega),dF_ (show¬(i:Int)<20 by omega)];rfl
   .rw[dF_ (by omega)];rfl
  rw[ho,sb];simp only[cond_false];exact h3 f (by omega)
 intro r
 induction r with
 |zero=>
  intro i cs hi hc hl;exact stop i cs (by omega) (.inr (by omega)) hc hl
 |succ r ih=>
  intro i cs hi hc hl;by_cases hp:i<d.Picks.length
  .have hpk:=hd.2.2.2.2 d.Picks[i] (af_ hp);obtain⟨c,hcc,hce⟩:=Dk4 hd hpk hw hg w0 w9 g0 g9;obtain⟨c1,c5⟩:=Az1 d;have q0:=hpk.1;obtain⟨s,hs,hsc⟩:∃s:Nat,(s:Int)=d.Picks[i].State%(cnt d:Int)/\s<cs.length:=by
    have a:=a4_ d.Picks[i].State (show(cnt d:Int)≠0 by omega);have b:=a2_ d.Picks[i].State (show 0<(cnt d:Int) by omega);exact⟨(d.Picks[i].State%(cnt d:Int)).toNat,by omega,by omega⟩
   have hidx:Int.tmod (i64.wrap d.Picks[i].State) ((cnt d:Nat):Int)=(s:Int):=by
    obtain⟨a,b⟩:=q0;rw[E3 (by omega) (by omega),(tdm a).2,hs]
   have hsl:=hl cs[s] (af_ hsc);have start:∀{f k:Nat} {z:Option A9},(bif decide ((((eL cs[s]).map A1).length:Int)<3) then
    ((C2 (cs.map eL) (s:Int)).bind fun y47=>
    (C2 d.Picks (i:Int)).bind fun y48=>
    (F61 f d y48).bind fun y49=>
    (app y47 [y49]).bind fun l41=>
    (some ((cs.map eL).set s l41)).bind fun l42=>
    As2 (i:Int) (V8 f d (Bz3 d) (cnt d:Int) k) l42)
   else
    (As2 (i:Int) (V8 f d (Bz3 d) (cnt d:Int) k) (cs.map eL)))=z->V8 f d (Bz3 d) (cnt d:Int) (k+1) (i:Int) (cs.map eL)=z:=fun{f k z} hz=>by
    conv=>lhs;unfold V8
    rw[length_map,dT_ (by omega)];simp only[cond_true];rw[sb,dT_ (show(i:Int)<20 by omega)];simp only[cond_true];rw[C3 hp,sb,D1 (dT_ (by omega)),hidx,D8 hsc,sb,sb,show Int.toNat (s:Int)=s by omega,Bd1 eL,Bq4 hsc];rw[C3 hp,D8 hsc]at hz;rw[D8 hsc];exact hz
   by_cases h3:cs[s].length<3
   .obtain⟨m,hm,hE⟩:=ih (i+1) (cs.set s (cs[s]++[c])) (by omega) (by simp[hc]) (fun l h=>by
     rcases b2_ h with h|rfl
     .exact hl l h
     .refine⟨by simp;omega,fun x hx=> ?_⟩;rcases List.mem_append.1 hx with hx|hx
      .exact hsl.2 x hx
      .rw[bt_]at hx;subst hx;exact hcc)
    refine⟨m,hm,(hce.and hE).mono fun f h k hk=> ?_⟩;obtain⟨h1,h2⟩:=h;obtain⟨k,rfl⟩:∃j,k=j+1:=⟨k-1,by omega⟩
    refine start ?_;rw[show decide ((((eL cs[s]).map A1).length:Int)<3)=true from dT_ (by unfold eL;simp;omega)];simp only[cond_true];rw[D8 hsc,sb,C3 hp,sb,h1,sb,T8 _ _ (by unfold eL;simp;omega),sb,sb,show eL cs[s]++[eC c]=eL (cs[s]++[c]) by simp[eL],Bd1 eL];unfold As2;rw[wi i (by omega)];exact h2 k (by omega)
   .obtain⟨m,hm,hE⟩:=ih (i+1) cs (by omega) hc hl;refine⟨m,hm,hE.mono fun f h2 k hk=> ?_⟩;obtain⟨k,rfl⟩:∃j,k=j+1:=⟨k-1,by omega⟩
    refine start ?_;rw[show decide ((((eL cs[s]).map A1).length:Int)<3)=false from dF_ (by unfold eL;simp;omega)];simp only[cond_false];unfold As2;rw[wi i (by omega)];exact h2 k (by omega)
  .obtain⟨m,hm,hE⟩:=stop i cs (by omega) (.inl (by omega)) hc hl;exact⟨m,hm,hE.mono fun f h k hk=>h k (by omega)⟩
theorem Ed3{d:B4}(hd:Ai4 d):∃m,Gd0 d m/\Ev fun f=>F20 f d=some (eM m):=by
 have⟨_,_,⟨a0,a1⟩,⟨b0,b1⟩,_⟩:=hd;obtain⟨w,hw,ew⟩:=Ds1 (l:=([1,2,3,4,6,10,100,5]:List Int)) (v:=Int.tmod d.Grain 8) (by rw[(tdm a0).2];omega) (by rw[(tdm a0).2];simp;omega);obtain⟨g,hg,eg⟩:=Ds1 (l:=([1,2,3,1]:List Int)) (v:=Int.tmod d.Cents 4) (by rw[(tdm b0).2];omega) (by rw[(tdm b0).2];simp;omega);have w1:0<w/\w<=100:=(by decide:∀x∈([1,2,3,4,6,10,100,5]:List Int),0<x/\x<=100) w hw;have g1:0<g/\g<=3:=(by decide:∀x∈([1,2,3,1]:List Int),0<x/\x<=3) g hg;obtain⟨m,hm,hE⟩:=Ff8 hd ew eg w1.1 w1.2 g1.1 g1.2 20 0 (List.replicate (cnt d) []) rfl (by simp) (fun l h=>by
  rw[(List.mem_replicate.1 h).2];exact⟨by simp,fun c h=>(by cases h)⟩)
 refine⟨m,hm,(hE.and (Ev.ge 100)).mono fun f h=> ?_⟩;obtain⟨h1,h2⟩:=h;have c5:=(Az1 d).2;unfold F20;rw[Cp0 hd,sb,At9 (by omega),sb,At9 (by omega),sb];have h3:=Bp4 (f:=f) (l2:=List.replicate (cnt d) []) hd (cnt d) 0 f (by omega) (by omega);rw[Dn9]at h3;have h4:=h1 f (by omega);rw[cb_]at h4;exact h3.trans h4
end
section
theorem Dw5:∀(l:List (Int×Rat)) (x:Rat),(∀b∈l,0<b.2)->x<=Br6 l x/\∀b∈l,x+b.2<=Br6 l x
 |[],x,_=>⟨Rat.le_refl,fun b h=>(by cases h)⟩
 |c::l,x,h=>by
  obtain⟨h1,h2⟩:=Dw5 l (x+c.2) fun b hb=>h b (mem_cons_of_mem _ hb)
  have hc:=h c ab_;rw[Br6];refine⟨by grind,fun b hb=> ?_⟩;rcases mem_cons.1 hb with rfl|hb
  .exact h1
  .have:=h2 b hb;grind
theorem Fv3{r:Rat}(h0:0<r)(h1:r<=1):r.num.natAbs<=1*r.den:=by
 have h2:=Av8.2 h0;rw[Rat.le_iff]at h1;simp at h1;omega
theorem Ff3{n g:Nat}{c:Cho}(hn:n<=12)(h:Fs7 n c.next)(hg:0<g)(hd:∀b∈c.next,b.2.den∣g):okN g n c:=by
 obtain⟨h1,h2,h3⟩:=h;obtain⟨_,h4⟩:=Dw5 c.next 0 fun b hb=>(h2 b hb).2
 refine⟨?_,fun b hb=>⟨Fc9 hg (hd b hb) (Fv3 (h2 b hb).2 ?_),?_,?_⟩⟩
 .by_cases h0:0<n
  .have:=Bm0 h1 (by omega);omega
  .cases hc:c.next with
   |nil=>simp
   |cons b l=>rw[hc]at h1;obtain⟨a,b,_⟩:=h1;omega
 .have:=h4 b hb;rw[h3,Rat.zero_add]at this;exact this
 .have:=Ay6 h1 b hb;omega
 .have:=Ay6 h1 b hb;omega
theorem At2{m:Mdl}(h:okM m):0<gP m/\gP m<=9999/\∀c∈m.ch.flatten,∀b∈c.next,b.2.den∣gP m:=by
 have hp:Z8 1 (Cc3 m)=some (gP m):=by unfold gP;rw[<-Option.some_get h.gp];rfl
 obtain⟨a,b,_,d⟩:=Ac4 hp (by decide) (by decide);exact⟨a,b,fun c hc x hx=>d x.2 (List.mem_flatMap.2 ⟨c,hc,bb_ hx⟩)⟩
theorem Cs3{m:Mdl}(h:okM m):0<gG m/\gG m<=9999/\∀c∈m.ch.flatten,c.gain.den∣gG m:=by
 have hp:Z8 1 (Bx1 m)=some (gG m):=by unfold gG;rw[<-Option.some_get h.gg];rfl
 obtain⟨a,b,_,d⟩:=Ac4 hp (by decide) (by decide);exact⟨a,b,fun c hc=>d c.gain (bb_ hc)⟩
theorem Ds9{m:Mdl}(h:okM m):okS (gP m) m:=by
 obtain⟨a,b,c⟩:=At2 h;have h12:=h.n12;have hle:=h.len;refine⟨h.len.symm,by omega,fun l hl=>⟨fun e=> ?_,?_,fun x hx=> ?_⟩⟩
 .have:=(h.cl l hl).1;rw[e]at this;simp at this
 .have:=(h.cl l hl).2;omega
 .have hm:=bg_.2 ⟨l,hl,hx⟩;have:=h.br x hm;rw[<-h.len]at this;exact Ff3 (by omega) this a (c x hm)
theorem Di6{r:Rat}(h:shB r=true):(T r).length<=20:=by
 obtain⟨h1,h2⟩:=(Ak8 (k:=4) (by decide)).1 h;have:=Fr1 (L:=4) (r:=r) ⟨Ac5 (by
  have:(10:Int)^4=10000:=by decide
  rw[this];omega),Ac5 (by
  have:(10:Int)^4=10000:=by decide
  rw[this];omega)⟩
 omega
theorem Dt0{m:Mdl}(h:okM m):szY (eM m):=by
 intro l hl;obtain⟨l',hl',rfl⟩:=av_.1 (show l∈m.ch.map eL from hl);refine⟨by unfold eL;rw[length_map];have:=(h.cl l' hl').2;omega,fun c hc=> ?_⟩;obtain⟨c',hc',rfl⟩:=av_.1 hc;have hm:=bg_.2 ⟨l',hl',hc'⟩;have hb:=h.br c' hm;have h12:=h.n12;refine⟨ah_ (Di6 (h.ga c' hm).1) (by decide),?_,fun b hb'=> ?_⟩
 .have:=(Ff3 h12 hb (At2 h).1 ((At2 h).2.2 c' hm)).1;unfold eC;rw[length_map];omega
 .obtain⟨b',hb'',rfl⟩:=av_.1 hb';exact ah_ (Di6 (hb.2.1 b' hb'').1) (by decide)
theorem Dq7{m:Mdl}(h:okM m):Ev fun f=>F93 f (eM m)=some 0:=by
 rcases Dq6 (Dt0 h) with⟨m',_,_,h3⟩|⟨h1,_⟩
 .exact h3
 .exact absurd ⟨m,h,rfl⟩ h1
theorem Do5{n:Nat}(hn:n<62):u64.wrap (u64.wrap (1*2^(min (Int.toNat (n:Int)) u64.bits))-1)=((2^n-1:Nat):Int):=by
 rw[Fw6 hn];have h1:0<2^n:=bz_ (by decide);have h2:2^n<=2^62:=cg_ (by decide) (by omega);have:((2^n:Nat):Int)-1=((2^n-1:Nat):Int):=by omega
 rw[this,wu (by omega)]
theorem Bd2{tg n:Nat}(hn:n<62)(ht:tg<18446744073709551616):((sd tg (2^n-1):Nat):Int)=0↔tg<2^n:=by
 have h2:2^n<=2^62:=cg_ (by decide) (by omega);have h62:(2:Nat)^62=4611686018427387904:=by decide
 constructor
 .intro h;refine Da2 fun i hi=> ?_
  have:=Es1 (a:=tg) (b:=2^n-1) (i:=i) ht (by omega);rw[show sd tg (2^n-1)=0 by omega,Nat.zero_testBit,hi,Cq4,Bool.true_and]at this;simpa using this.symm
 .intro h;have:sd tg (2^n-1)=0:=Ec4 fun i=>by
   rw[Es1 ht (by omega),Nat.zero_testBit,Cq4];cases hi:tg.testBit i with
   |false=>rfl
   |true=>rw[dT_ (Fs6 h hi)];rfl
  rw[this];rfl
theorem Ca8{m:Mdl}(h:okM m){tg:Nat}{n:Int}(ht:tg<18446744073709551616):Ev fun f=>F43 f (eM m) (tg:Int) n=some (if tg<2^m.own.length/\0<=n/\n<=60 then 0 else 2):=by
 have h12:=h.n12;refine(Dq7 h).mono fun f hf=> ?_
 unfold F43;refine sbe hf ?_;rw[show(((0:Int) !=0))=false from rfl];simp only[cond_false];rw[length_map,show(eM m).Owner=m.own from rfl,D1 (dT_ (by omega)),Do5 (by omega),Fh5];by_cases h1:tg<2^m.own.length
 .rw[(Bd2 (by omega) ht).2 h1];simp only[show((0:Int) !=0)=false from rfl,cond_false];by_cases h2:n<0
  .rw[dT_ h2,if_neg (by omega)];rfl
  .rw[dF_ h2];simp only[cond_false,sb];by_cases h3:n>60
   .rw[dT_ h3,if_neg (by omega)];rfl
   .rw[dF_ h3,if_pos ⟨h1,by omega,by omega⟩];rfl
 .rw[show(((sd tg (2^m.own.length-1):Nat):Int) !=0)=true by
   rw[bne_iff_ne];exact fun e=>h1 ((Bd2 (by omega) ht).1 e),if_neg (fun h=>h1 h.1)]
  rfl
end
section
theorem Q4{α:Type}{a b:List α}(h:a.length+b.length<=2147483648):app a b=some (a++b):=by
 unfold app;rw[dT_ h];rfl
theorem Fi2{d:List UInt8}{c:UInt8}:((c::d).drop (Int.toNat 1)).take (Int.toNat (((c::d).length:Int)-1))=d:=by
 rw[show Int.toNat 1=1 from rfl,drop_succ_cons,drop_zero,ap_ (by rw[length_cons];omega)]
end
section
def szC(c:A2):Prop:=c.Act.length<=9000000/\c.Gain.length<=9000000/\c.Next.length<=1000000/\∀b∈c.Next,b.P.length<=9000000
def szR(l:List A2):Prop:=l.length<=1000000/\∀c∈l,szC c
def szZ(y:A9):Prop:=∀l∈y.Choices,szR l
theorem Z7{o:List Int}{cs:List (List A2)}(h:∀l∈cs,szR l):szZ ⟨o,cs⟩:=h
theorem Gl5{y:A9}(h:szZ y):szY y:=fun l hl=>⟨(h l hl).1,fun c hc=>((h l hl).2 c hc).2⟩
theorem Cj2{m:Mdl}(h:okM m):szZ (eM m):=fun l hl=>⟨(Dt0 h l hl).1,fun c hc=>⟨by
 obtain⟨l',hl',rfl⟩:=av_.1 (show l∈m.ch.map eL from hl);obtain⟨c',hc',rfl⟩:=av_.1 hc;have:=h.ac c' (bg_.2 ⟨l',hl',hc'⟩);unfold Cc1 at this;rw[Bool.and_eq_true,decide_eq_true_eq]at this;show c'.act.length<=9000000;omega,(Dt0 h l hl).2 c hc⟩⟩
theorem R3{α:Type}{P:α->Prop}{l:List α}{i:Nat}{x:α}(h:∀y∈l,P y)(hx:P x):∀y∈l.set i x,P y:=fun y hy=>by
 rcases b2_ hy with h'|h'
 .exact h y h'
 .rw[h'];exact hx
theorem Fi0{l:List A2}(h:szR l){i:Nat}{c:A2}(hc:szC c):szR (l.set i c):=⟨by rw[length_set];exact h.1,R3 h.2 hc⟩
theorem Fe9{m:Mdl}(h:okM m){c:Cho}(hc:c∈m.ch.flatten):c.next≠[]:=fun e=>by
 have:=(h.br c hc).2.2;rw[e,Br6]at this;exact absurd this (by decide)
theorem Am4{α:Type}{l:List α}{i:Nat}{x:α}(h:l[i]? =some x):l.set i x=l:=by
 refine b6_ fun j=> ?_
 rw[dd_];by_cases e:i=j
 .subst e;rw[if_pos rfl,if_pos (ac_.1 h).1,h]
 .rw[if_neg e]
section
variable {y:A9} {f:Nat}
theorem Dj7{l21:List (List A2)}{v:Nat}{cL:Int->List (List A2)->Option A9}{row:List A2}(hg:y.Choices[v]? =some row)(hr:row.length<=1000)(hn:∀c∈row,c.Next.length<=1000):∀(r i k:Nat),i+r=row.length->r<k->Bf9 y l21 (v:Int) cL k (i:Int) (row.take i)=(app l21 [row]).bind fun l30=>cL (i64.wrap ((v:Int)+1)) l30
 |0,i,k,hi,hk=>by
  obtain⟨k,rfl⟩:∃j,k=j+1:=⟨k-1,by omega⟩
  unfold Bf9;rw[D3,hg,sb,dF_ (by simp;omega),ap_ (by omega)];rfl
 |r+1,i,k,hi,hk=>by
  obtain⟨k,rfl⟩:∃j,k=j+1:=⟨k-1,by omega⟩
  have hil:i<row.length:=by omega
  have:=hn row[i] (af_ hil);unfold Bf9;rw[D3,hg,sb,dT_ (by simp;omega)];simp only[cond_true];rw[sb,C3 hil,sb,Q4 (by simp;omega),sb,Q4 (by simp;omega),sb,wi i (by omega),nil_append];have e:row.take i++[(⟨row[i].Act,row[i].Gain,row[i].Next⟩:A2)]=row.take (i+1):=by
   rw[take_add_one,aa_ hil];rfl
  rw[e];exact Dj7 hg hr hn r (i+1) k (by omega) (by omega)
theorem Dj6{b:C6}{l1:List Int}(hlen:y.Choices.length=y.Owner.length)(hl:y.Owner.length<=1000)(hr:∀l∈y.Choices,l.length<=1000/\∀c∈l,c.Next.length<=1000)(hf:1000<f):∀(r i k:Nat),i+r=y.Owner.length->r<k->∃k',K7 f b y l1 k (i:Int) (y.Choices.take i)=K7 f b y l1 (k'+1) (y.Owner.length:Int) y.Choices
 |0,i,k,hi,hk=>⟨k-1,by
  rw[show k-1+1=k by omega,show i=y.Owner.length by omega,ap_ (by omega)]⟩
 |r+1,i,k,hi,hk=>by
  obtain⟨k,rfl⟩:∃j,k=j+1:=⟨k-1,by omega⟩
  have hil:i<y.Choices.length:=by omega
  have hrow:=hr _ (af_ hil);obtain⟨k',hk'⟩:=Dj6 (b:=b) (l1:=l1) hlen hl hr hf r (i+1) k (by omega) (by omega);refine⟨k',?_⟩;rw[<-hk']
  conv=>lhs;unfold K7
  rw[dT_ (by simp;omega)];simp only[cond_true];have:=Dj7 (l21:=y.Choices.take i) (cL:=K7 f b y l1 k) (aa_ hil) hrow.1 hrow.2 y.Choices[i].length 0 f (by omega) (by omega);rw[take_zero]at this;refine this.trans ?_;rw[Q4 (by simp;omega),sb,wi i (by omega),take_add_one,aa_ hil];rfl
theorem Dj8{b:C6}{l1:List Int}{s:Nat}(hs:Int.tmod (i64.wrap b.State) (((y.Owner.map A3).length:Nat):Int)=(s:Int)):∀(r:Nat) (l:List (List A2)) (row:List A2) (c:A2),5<=r+row.length->row.length<=1000->l[s]? =some row->row[0]? =some c->(∀r∈l,szR r)->∃z,szZ z/\∀k,r<k->Bg0 b y l1 k l=some z
 |r,l,row,c,hk,hlen,hg,h0,hsz=>by
  by_cases h5:row.length<5
  .obtain⟨r,rfl⟩:∃j,r=j+1:=⟨r-1,by omega⟩
   have hrow:=hsz row (bu_ hg);have hl:=(ac_.1 hg).1;obtain⟨z,hz,hE⟩:=Dj8 (b:=b) (l1:=l1) hs r (l.set s (row++[c])) (row++[c]) c (by simp;omega) (by simp;omega) (by rw[dd_,if_pos rfl,if_pos hl]) (by rw[an_ (by have:=(ac_.1 h0).1;omega),h0]) (R3 hsz ⟨by simp;omega,fun x hx=>by
    rcases List.mem_append.1 hx with hx|hx
    .exact hrow.2 x hx
    .rw[bt_.1 hx];exact hrow.2 c (bu_ h0)⟩)
   refine⟨z,hz,fun k hk'=> ?_⟩;obtain⟨k,rfl⟩:∃j,k=j+1:=⟨k-1,by omega⟩
   unfold Bg0;rw[hs,D3,hg,sb,sb,Int.toNat_natCast,Am4 hg,dT_ (by simp;omega)];simp only[cond_true];rw[D3,hg,sb,show(0:Int)=((0:Nat):Int) from rfl,D3,h0,sb,Q4 (by simp;omega),sb,sb];exact hE k (by omega)
  .refine⟨⟨l1.drop 0,l⟩,Z7 hsz,fun k hk'=> ?_⟩;obtain⟨k,rfl⟩:∃j,k=j+1:=⟨k-1,by omega⟩
   unfold Bg0;rw[hs,D3,hg,sb,sb,Int.toNat_natCast,Am4 hg,dF_ (by simp;omega)];rfl
theorem Dj9:∀(r:Nat) (l:List (List A2)) (o:List Int) (row:List A2),13<=r+o.length->o.length<=1000->l.length<=1000+o.length->l[0]? =some row->(∀r∈l,szR r)->∃z,szZ z/\∀k,r<k->Bg1 k l o=some z
 |r,l,o,row,hk,ho,hl,hg,hsz=>by
  by_cases h5:o.length<13
  .obtain⟨r,rfl⟩:∃j,r=j+1:=⟨r-1,by omega⟩
   obtain⟨z,hz,hE⟩:=Dj9 r (l++[row]) (o++[0]) row (by simp;omega) (by simp;omega) (by simp;omega) (by rw[an_ (by have:=(ac_.1 hg).1;omega),hg]) (fun x hx=>by
    rcases List.mem_append.1 hx with hx|hx
    .exact hsz x hx
    .rw[bt_.1 hx];exact hsz row (bu_ hg))
   refine⟨z,hz,fun k hk'=> ?_⟩;obtain⟨k,rfl⟩:∃j,k=j+1:=⟨k-1,by omega⟩
   unfold Bg1;rw[dT_ (by simp;omega)];simp only[cond_true];rw[Q4 (by simp;omega),sb,show C2 l 0=some row from(D3 l 0).trans hg,sb,Q4 (by simp;omega),sb];exact hE k (by omega)
  .refine⟨⟨o.drop 0,l⟩,Z7 hsz,fun k hk'=> ?_⟩;obtain⟨k,rfl⟩:∃j,k=j+1:=⟨k-1,by omega⟩
   unfold Bg1;rw[dF_ (by simp;omega)];rfl
end
theorem Dx4{a:Int}{n:Nat}(h0:0<=a)(h1:a<256)(hn:0<n):∃s:Nat,s<n/\Int.tmod (i64.wrap a) (n:Int)=(s:Int):=by
 rw[E3 (i:=a) (by omega) (by omega),(tdm h0).2];have h2:=a4_ a (show(n:Int)≠0 by omega);have h3:=a2_ a (show(0:Int)<n by omega);exact⟨(a%n).toNat,by omega,by omega⟩
theorem Fa7{m:Mdl}(h:okM m){b:C6}(hS:u8 b.State)(hA:u8 b.At)(hQ:b.Q.length<=9000000)(hS2:b.S.length<=9000000):∃z,szZ z/\Ev fun f=>F21 f b (eM m)=some z:=by
 have h1:=h.n1;have h12:=h.n12;have hlen:=h.len;have hlenY:(eM m).Choices.length=(eM m).Owner.length:=by
  show(m.ch.map eL).length=m.own.length;rw[length_map,hlen]
 have hszR:∀l∈(eM m).Choices,szR l:=fun l hl=>Cj2 h l hl
 have hsm:∀l∈(eM m).Choices,l.length<=4/\∀c∈l,c.Next.length<=12/\c.Next≠[]:=fun l hl=>by
  obtain⟨l',hl',rfl⟩:=av_.1 (show l∈m.ch.map eL from hl);refine⟨by unfold eL;rw[length_map];exact(h.cl l' hl').2,fun c hc=> ?_⟩;obtain⟨c',hc',rfl⟩:=av_.1 hc;have hm:=bg_.2 ⟨l',hl',hc'⟩;have hb:=(Ff3 h12 (h.br c' hm) (At2 h).1 ((At2 h).2.2 c' hm)).1;refine⟨by unfold eC;rw[length_map];exact hb,fun e=>Fe9 h hm ?_⟩;exact map_eq_nil_iff.1 e
 obtain⟨s,hs,es⟩:=Dx4 (n:=m.own.length) hS.1 hS.2 (by omega);have es':Int.tmod (i64.wrap b.State) ((((eM m).Owner.map A3).length:Nat):Int)=(s:Int):=by rw[length_map];exact es
 have hsl:s<(eM m).Choices.length:=by rw[hlenY];exact hs
 obtain⟨row,hrow⟩:∃row,(eM m).Choices[s]? =some row:=⟨_,aa_ hsl⟩
 have mrow:=bu_ hrow;have hrl:0<row.length:=by
  obtain⟨l',hl',e⟩:=av_.1 (show row∈m.ch.map eL from mrow);rw[<-e];unfold eL;rw[length_map];exact(h.cl l' hl').1
 obtain⟨k,hk,ek⟩:=Dx4 (n:=row.length) hA.1 hA.2 hrl;have ek':Int.tmod (i64.wrap b.At) (((row.map A1).length:Nat):Int)=(k:Int):=by rw[length_map];exact ek
 obtain⟨c,hc⟩:∃c,row[k]? =some c:=⟨_,aa_ hk⟩
 have mc:=bu_ hc;have hcn:=(hsm row mrow).2 c mc;have hnl:0<c.Next.length:=as_.2 hcn.2;obtain⟨i,hi,ei⟩:=Dx4 (n:=c.Next.length) hA.1 hA.2 hnl;have ei':Int.tmod (i64.wrap b.At) (((c.Next.map A4).length:Nat):Int)=(i:Int):=by rw[length_map];exact ei
 obtain⟨br,hbr⟩:∃br,c.Next[i]? =some br:=⟨_,aa_ hi⟩
 have hR:=hszR row mrow;have hC:=hR.2 c mc;have hsC:∀c',szC c'->∀l∈((eM m).Choices.set s (row.set k c')),szR l:=fun c' h'=>R3 hszR (Fi0 hR h')
 obtain⟨o,ho⟩:∃o,(eM m).Owner[s]? =some o:=⟨_,aa_ (show s<(eM m).Owner.length from hs)⟩
 have key:∀f,2000<f->∃k',F21 f b (eM m)=K7 f b (eM m) (eM m).Owner (k'+1) ((eM m).Owner.length:Int) (eM m).Choices:=fun f hf=>by
  obtain⟨k',hk'⟩:=Dj6 (f:=f) (b:=b) (l1:=(eM m).Owner) hlenY (by show m.own.length<=1000;omega) (fun l hl=>⟨by have:=(hsm l hl).1;omega,fun c hc=>by have:=((hsm l hl).2 c hc).1;omega⟩) (by omega) (eM m).Owner.length 0 f (by omega) (by show m.own.length<f;omega);refine⟨k',?_⟩;unfold F21;rw[Q4 (by show(0:Nat)+m.own.length<=_;omega),sb,nil_append];rw[take_zero]at hk';exact hk'
 have fin:(∃z,szZ z/\∀f,2000<f->∀k',K7 f b (eM m) (eM m).Owner (k'+1) ((eM m).Owner.length:Int) (eM m).Choices=some z)->∃z,szZ z/\Ev fun f=>F21 f b (eM m)=some z:=fun⟨z,hz,hE⟩=>⟨z,hz,Ev.from_ 2001 fun f hf=>by
  obtain⟨k',hk'⟩:=key f (by omega);rw[hk'];exact hE f (by omega) k'⟩
 have hset1:row.set k c=row:=Am4 hc;have hset2:(eM m).Choices.set s row=(eM m).Choices:=Am4 hrow;have hn0:(((eM m).Owner.map A3).length:Int)≠0:=by rw[length_map];show(m.own.length:Int)≠0;omega
 have hr0:((row.map A1).length:Int)≠0:=by rw[length_map];omega
 have hc0:((c.Next.map A4).length:Int)≠0:=by rw[length_map];omega
 cases w0:(Int.tmod b.What 12==0) with
 |true=>
  exact fin ⟨⟨(((eM m).Owner.set (0+s) b.N).drop 0),(eM m).Choices.set s (row.set k c)⟩,Z7 (hsC _ hC),fun f hf k'=>by
   unfold K7;rw[dF_ (by simp)];simp only[cond_false];rw[D1 (dT_ hn0),es',D3,hrow,sb,D1 (dT_ hr0),ek',D3,hc,sb,D1 (dT_ hc0)];simp only[w0,cond_true];rw[D3,ho,sb];rfl⟩
 |false=>
 cases w1:(Int.tmod b.What 12==1) with
 |true=>
  exact fin ⟨⟨((eM m).Owner.drop (0+Int.toNat 1)),(eM m).Choices.set s (row.set k c)⟩,Z7 (hsC _ hC),fun f hf k'=>by
   unfold K7;rw[dF_ (by simp)];simp only[cond_false];rw[D1 (dT_ hn0),es',D3,hrow,sb,D1 (dT_ hr0),ek',D3,hc,sb,D1 (dT_ hc0)];simp only[w0,w1,cond_true,cond_false];rw[D1 (by simp only[drop_zero,length_map,Bool.and_eq_true,decide_eq_true_eq];exact⟨by omega,by show(1:Int)<=(m.own.length:Int);omega⟩),sb];rfl⟩
 |false=>
 cases w2:(Int.tmod b.What 12==2) with
 |true=>
  exact fin ⟨⟨((eM m).Owner.drop 0),(eM m).Choices.set s (row.set k ⟨b.S,c.Gain,c.Next⟩)⟩,Z7 (hsC _ ⟨hS2,hC.2⟩),fun f hf k'=>by
   unfold K7;rw[dF_ (by simp)];simp only[cond_false];rw[D1 (dT_ hn0),es',D3,hrow,sb,D1 (dT_ hr0),ek',D3,hc,sb,D1 (dT_ hc0)];simp only[w0,w1,w2,cond_true,cond_false];rfl⟩
 |false=>
 cases w3:(Int.tmod b.What 12==3) with
 |true=>
  exact fin ⟨⟨((eM m).Owner.drop 0),(eM m).Choices.set s (row.set k ⟨c.Act,b.Q,c.Next⟩)⟩,Z7 (hsC _ ⟨hC.1,hQ,hC.2.2⟩),fun f hf k'=>by
   unfold K7;rw[dF_ (by simp)];simp only[cond_false];rw[D1 (dT_ hn0),es',D3,hrow,sb,D1 (dT_ hr0),ek',D3,hc,sb,D1 (dT_ hc0)];simp only[w0,w1,w2,w3,cond_true,cond_false];rfl⟩
 |false=>
 cases w4:(Int.tmod b.What 12==4) with
 |true=>
  exact fin ⟨⟨((eM m).Owner.drop 0),(eM m).Choices.set s (row.set k ⟨c.Act,c.Gain,c.Next.set (0+i) ⟨b.N,br.P⟩⟩)⟩,Z7 (hsC _ ⟨hC.1,hC.2.1,by rw[length_set];exact hC.2.2.1,R3 hC.2.2.2 (hC.2.2.2 br (bu_ hbr))⟩),fun f hf k'=>by
   unfold K7;rw[dF_ (by simp)];simp only[cond_false];rw[D1 (dT_ hn0),es',D3,hrow,sb,D1 (dT_ hr0),ek',D3,hc,sb,D1 (dT_ hc0)];simp only[w0,w1,w2,w3,w4,cond_true,cond_false];rw[ei',D3,hbr,sb];rfl⟩
 |false=>
 cases w5:(Int.tmod b.What 12==5) with
 |true=>
  exact fin ⟨⟨((eM m).Owner.drop 0),(eM m).Choices.set s (row.set k ⟨c.Act,c.Gain,c.Next.set (0+i) ⟨br.To,b.Q⟩⟩)⟩,Z7 (hsC _ ⟨hC.1,hC.2.1,by rw[length_set];exact hC.2.2.1,R3 hC.2.2.2 hQ⟩),fun f hf k'=>by
   unfold K7;rw[dF_ (by simp)];simp only[cond_false];rw[D1 (dT_ hn0),es',D3,hrow,sb,D1 (dT_ hr0),ek',D3,hc,sb,D1 (dT_ hc0)];simp only[w0,w1,w2,w3,w4,w5,cond_true,cond_false];rw[ei',D3,hbr,sb];rfl⟩
 |false=>
 cases w6:(Int.tmod b.What 12==6) with
 |true=>
  exact fin ⟨⟨((eM m).Owner.drop 0),(eM m).Choices.set s (row.set k ⟨c.Act,c.Gain,c.Next++[⟨i64.wrap ((((eM m).Owner.map A3).length:Int)-1),b.Q⟩]⟩)⟩,Z7 (hsC _ ⟨hC.1,hC.2.1,by have:=hcn.1;simp;omega,fun x hx=>by
   rcases List.mem_append.1 hx with hx|hx
   .exact hC.2.2.2 x hx
   .rw[bt_.1 hx];exact hQ⟩),fun f hf k'=>by
   unfold K7;rw[dF_ (by simp)];simp only[cond_false];rw[D1 (dT_ hn0),es',D3,hrow,sb,D1 (dT_ hr0),ek',D3,hc,sb,D1 (dT_ hc0)];simp only[w0,w1,w2,w3,w4,w5,w6,cond_true,cond_false];rw[Q4 (by have:=hcn.1;simp;omega),sb];rfl⟩
 |false=>
 cases w7:(Int.tmod b.What 12==7) with
 |true=>
  exact fin ⟨⟨((eM m).Owner.drop 0),(eM m).Choices.set s (row.set k ⟨c.Act,c.Gain,[]⟩)⟩,Z7 (hsC _ ⟨hC.1,hC.2.1,at_ _,fun x hx=>(by cases hx)⟩),fun f hf k'=>by
   unfold K7;rw[dF_ (by simp)];simp only[cond_false];rw[D1 (dT_ hn0),es',D3,hrow,sb,D1 (dT_ hr0),ek',D3,hc,sb,D1 (dT_ hc0)];simp only[w0,w1,w2,w3,w4,w5,w6,w7,cond_true,cond_false];rfl⟩
 |false=>
 cases w8:(Int.tmod b.What 12==8) with
 |true=>
  obtain⟨c0,hc0'⟩:∃c0,row[0]? =some c0:=⟨_,aa_ hrl⟩
  obtain⟨z,hz,hE⟩:=Dj8 (b:=b) (l1:=(eM m).Owner) es' 5 (eM m).Choices row c0 (by omega) (by have:=(hsm row mrow).1;omega) hrow hc0' hszR;exact fin ⟨z,hz,fun f hf k'=>by
   unfold K7;rw[dF_ (by simp)];simp only[cond_false];rw[D1 (dT_ hn0),es',D3,hrow,sb,D1 (dT_ hr0),ek',D3,hc,sb,D1 (dT_ hc0)];simp only[w0,w1,w2,w3,w4,w5,w6,w7,w8,cond_true,cond_false];rw[sb,Int.toNat_natCast,Int.toNat_natCast,hset1,sb,hset2];exact hE f (by omega)⟩
 |false=>
 cases w9:(Int.tmod b.What 12==9) with
 |true=>
  exact fin ⟨⟨(eM m).Owner.drop 0,(eM m).Choices.set (0+s) []⟩,Z7 (R3 hszR ⟨at_ _,fun x hx=>(by cases hx)⟩),fun f hf k'=>by
   unfold K7;rw[dF_ (by simp)];simp only[cond_false];rw[D1 (dT_ hn0),es',D3,hrow,sb,D1 (dT_ hr0),ek',D3,hc,sb,D1 (dT_ hc0)];simp only[w0,w1,w2,w3,w4,w5,w6,w7,w8,w9,cond_true,cond_false];rw[sb,Int.toNat_natCast,Int.toNat_natCast,hset1,sb,hset2,D3,hrow];rfl⟩
 |false=>
 cases w10:(Int.tmod b.What 12==10) with
 |true=>
  exact fin ⟨⟨((eM m).Owner++[0]).drop 0,(eM m).Choices.set s (row.set k c)⟩,Z7 (hsC c hC),fun f hf k'=>by
   unfold K7;rw[dF_ (by simp)];simp only[cond_false];rw[D1 (dT_ hn0),es',D3,hrow,sb,D1 (dT_ hr0),ek',D3,hc,sb,D1 (dT_ hc0)];simp only[w0,w1,w2,w3,w4,w5,w6,w7,w8,w9,w10,cond_true,cond_false];rw[Q4 (by show m.own.length+1<=_;omega),sb];rfl⟩
 |false=>
 obtain⟨row0,hrow0⟩:∃r0,(eM m).Choices[0]? =some r0:=⟨_,aa_ (by omega)⟩
 obtain⟨z,hz,hE⟩:=Dj9 13 (eM m).Choices (eM m).Owner row0 (by omega) (by show m.own.length<=1000;omega) (by omega) hrow0 hszR;exact fin ⟨z,hz,fun f hf k'=>by
  unfold K7;rw[dF_ (by simp)];simp only[cond_false];rw[D1 (dT_ hn0),es',D3,hrow,sb,D1 (dT_ hr0),ek',D3,hc,sb,D1 (dT_ hc0)];simp only[w0,w1,w2,w3,w4,w5,w6,w7,w8,w9,w10,cond_false];rw[sb,Int.toNat_natCast,Int.toNat_natCast,hset1,sb,hset2];exact hE f (by omega)⟩
end
section
theorem Cp4{c:UInt8}{l:List UInt8}:Dc1 (c::l)=((decide (48<=c.toNat)&&decide (c.toNat<=57))&&Dc1 l):=rfl
theorem En8{c:UInt8}:(bif decide ((c.toNat:Int)<48) then some true else some (decide ((c.toNat:Int)>57)))=some (!(decide (48<=c.toNat)&&decide (c.toNat<=57))):=by
 by_cases h1:(c.toNat:Int)<48
 .rw[dT_ h1,dF_ (show¬48<=c.toNat by omega)];rfl
 .rw[dF_ h1,dT_ (show 48<=c.toNat by omega)];by_cases h2:(c.toNat:Int)>57
  .rw[dT_ h2,dF_ (show¬c.toNat<=57 by omega)];rfl
  .rw[dF_ h2,dT_ (show c.toNat<=57 by omega)];rfl
theorem Er8{c:UInt8}{d:List UInt8}(hl:d.length<=2000000000):∀(r i k:Nat),i+r=d.length->r<k->Ao3 (c::d) k (i:Int)=some (Dc1 (d.drop i))
 |_,_,0,_,h=>absurd h (by omega)
 |0,i,k+1,hi,_=>by
  unfold Ao3;rw[Fi2,dF_ (by omega),ag_ (by omega)];rfl
 |r+1,i,k+1,hi,hk=>by
  have hil:i<d.length:=by omega
  unfold Ao3;rw[Fi2,dT_ (by omega),C3 hil];simp only[cond_true,sb];rw[En8,sb,ai_ hil,Cp4];cases decide (48<=d[i].toNat)&&decide (d[i].toNat<=57) with
  |false=>rfl
  |true=>
   simp only[Bool.not_true,cond_false,Bool.true_and];rw[wi i (by omega)];exact Er8 hl r (i+1) k (by omega) (by omega)
theorem Er9{d:List UInt8}(hl:d.length<=2000000000):∀(r i k:Nat),i+r=d.length->r<k->Ao4 d k (i:Int)=some (Dc1 (d.drop i))
 |_,_,0,_,h=>absurd h (by omega)
 |0,i,k+1,hi,_=>by
  unfold Ao4;rw[dF_ (by omega),ag_ (by omega)];rfl
 |r+1,i,k+1,hi,hk=>by
  have hil:i<d.length:=by omega
  unfold Ao4;rw[dT_ (by omega),C3 hil];simp only[cond_true,sb];rw[En8,sb,ai_ hil,Cp4];cases decide (48<=d[i].toNat)&&decide (d[i].toNat<=57) with
  |false=>rfl
  |true=>
   simp only[Bool.not_true,cond_false,Bool.true_and];rw[wi i (by omega)];exact Er9 hl r (i+1) k (by omega) (by omega)
theorem c48{c:UInt8}:((c.toNat:Int)==48)= !decide (c.toNat≠48):=by
 by_cases h:c.toNat=48
 .rw[h];rfl
 .rw[beq_false_of_ne (by omega),dT_ h];rfl
theorem Ar6{fuel:Nat}{s:List UInt8}(hl:s.length<=2000000000)(hf:s.length<fuel):Fm0 fuel s=some (Be5 s):=by
 unfold Fm0 Be5;cases h0:s==[48] with
 |true=>rfl
 |false=>
  simp only[cond_false,Bool.false_or];cases s with
  |nil=>rfl
  |cons c d=>
   simp only[length_cons]at hl hf;rw[dT_ (by simp only[length_cons];omega),show C2 (c::d) 0=some c from rfl];simp only[cond_true,sb];by_cases h45:c=45
   .subst h45;rw[show(((45:UInt8).toNat:Int)==45)=true from rfl];simp only[cond_true];rw[Fi2,D1 (by simp only[length_cons,Bool.and_eq_true,decide_eq_true_eq];omega)];have hb:body (45::d)=d:=rfl;rw[hb];cases d with
    |nil=>rfl
    |cons e d=>
     rw[beq_false_of_ne (show((((e::d).length:Nat):Int))≠0 by simp only[length_cons];omega),show C2 (e::d) 0=some e from rfl];simp only[cond_false,sb];rw[c48];cases he:decide (e.toNat≠48) with
     |false=>rfl
     |true=>
      simp only[Bool.not_true,cond_false,Bool.true_and];have:=Er8 (c:=45) (d:=e::d) (by simp at hl⊢;omega) (e::d).length 0 fuel (by omega) (by omega);rw[drop_zero]at this;exact this
   .have hne:((c.toNat:Int)==45)=false:=beq_false_of_ne fun e=>h45 (UInt8.toNat_inj.1 (by
     have:c.toNat=45:=by omega
     rw[this];rfl))
    rw[hne];simp only[cond_false];have hb:body (c::d)=c::d:=by
     unfold body;rw[if_neg];simpa using h45
    rw[hb,beq_false_of_ne (show((((c::d).length:Nat):Int))≠0 by simp only[length_cons];omega)];simp only[cond_false,sb];rw[c48];cases he:decide (c.toNat≠48) with
    |false=>rfl
    |true=>
     simp only[Bool.not_true,cond_false,Bool.true_and];have:=Er9 (d:=c::d) (by simp at hl⊢;omega) (c::d).length 0 fuel (by omega) (by simp;omega);rw[drop_zero]at this;exact this
theorem Gg8{r:Rat}{L:Nat}(h:(T r).length<=L)(hL:1<=L):rsz L r:=by
 unfold T at h;have h1:=Bf0 r.num;by_cases hd:r.den=1
 .rw[if_pos hd]at h;refine⟨by omega,?_⟩;rw[hd];exact ah_ (Ac5 (L:=1) (by decide)) hL
 .rw[if_neg hd]at h;have h2:=Bf0 (r.den:Int);simp only[length_append,length_cons]at h;exact⟨by omega,by omega⟩
theorem Fg3{q:List UInt8}(hq:q.length<=9000000):∃b,(b=true↔∃r,q=T r)/\Ev fun f=>F82 f q=some b:=by
 rcases Az2 q with⟨hno,_⟩|⟨a,b,hqe,hno,_⟩
 .refine⟨Be5 q,⟨fun h=> ?_,fun⟨r,hr⟩=> ?_⟩,Ev.from_ 20000000 fun f hf=> ?_⟩
  .obtain⟨n,rfl⟩:=(At6 q).2 h;exact⟨Rat.divInt n 1,(Di5 n).symm⟩
  .rcases Cx3 r with⟨n,h⟩|⟨n,d,h,_⟩
   .exact(At6 q).1 ⟨n,by rw[hr,h]⟩
   .exact absurd rfl (hno 47 (by rw[hr,h];simp))
  .unfold F82 Dz8;have hc:=Cf8 hno (by omega) q.length 0 f (by omega) (by omega);rw[show(0:Int)=((0:Nat):Int) from rfl,hc,sb];simp only;rw[Ar6 (by omega) (by omega),Ar6 (s:=[49]) (by decide) (by simp;omega)];simp only[sb];cases Be5 q<;>rfl
 .have hlen:a.length+b.length+1=q.length:=by rw[hqe];simp;omega
  have hcut:∀f,20000000<=f->Dz8 f q=some (a,b,true):=fun f hf=>by
   unfold Dz8;rw[hqe,show(0:Int)=((0:Nat):Int) from rfl];exact Dk8 hno (by omega) a.length 0 f (by omega) (by omega)
  have bad:Be5 a=false\/Be5 b=false->∃b,(b=true↔∃r,q=T r)/\Ev fun f=>F82 f q=some b:=fun hb=>by
   refine⟨false,⟨fun h=>(by cases h),fun⟨r,hr⟩=> ?_⟩,Ev.from_ 20000000 fun f hf=> ?_⟩
   .rcases Cx3 r with⟨n,h⟩|⟨n,d,h,_⟩
    .rw[h,hqe]at hr;exact(Gc9 hr.symm).elim
    .rw[h,hqe]at hr;obtain⟨e1,e2⟩:=Eb8 hno An1 hr;rcases hb with h|h
     .exact(Ak0 h ⟨n,e1⟩).elim
     .exact(Ak0 h ⟨d,e2⟩).elim
   .unfold F82;rw[hcut f hf,sb];simp only;rw[Ar6 (s:=a) (by omega) (by omega),Ar6 (s:=b) (by omega) (by omega)];simp only[sb];rcases hb with h|h
    .rw[h];rfl
    .rw[h];cases Be5 a<;>rfl
  cases hca:Be5 a with
  |false=>exact bad (.inl hca)
  |true=>
  cases hcb:Be5 b with
  |false=>exact bad (.inr hcb)
  |true=>
  obtain⟨n,rfl⟩:=(At6 a).2 hca;obtain⟨d,rfl⟩:=(At6 b).2 hcb;have hln:=Bf0 n;have hld:=Bf0 d;refine⟨decide (1<d/\Int.gcd n d=1),⟨fun h=> ?_,fun⟨r,hr⟩=> ?_⟩,Ev.from_ (2000000011+d.natAbs) fun f hf=> ?_⟩
  .obtain⟨h1,h2⟩:=of_decide_eq_true h;exact⟨Rat.divInt n d,by rw[hqe,Em3 h1 h2]⟩
  .refine dT_ ?_;rcases Cx3 r with⟨k,h⟩|⟨k,e,h,h1,h2⟩
   .rw[h,hqe]at hr;exact(Gc9 hr.symm).elim
   .rw[h,hqe]at hr;obtain⟨e1,e2⟩:=Eb8 An1 An1 hr;rw[Am9 e1,Am9 e2];exact⟨h1,h2⟩
  .unfold F82;rw[hcut f (by omega),sb];simp only;rw[Ar6 (s:=tx n) (by omega) (by omega),Ar6 (s:=tx d) (by omega) (by omega),hca,hcb];simp only[sb,Bool.not_true,cond_false];rw[show([49]:List UInt8)=tx 1 from tx1.symm,Fw8 (by omega) (by decide) (by omega),sb];by_cases hd:1<d
   .rw[dT_ (by rw[D6 hd];decide)];simp only[cond_true];rw[Gq3 (by omega) (by omega) (by omega),sb,sb,tx1,Gd7];by_cases hg:Int.gcd n d=1
    .rw[dT_ (show((Int.gcd n d:Nat):Int)=1 by omega),dT_ ⟨hd,hg⟩]
    .rw[dF_ (show¬((Int.gcd n d:Nat):Int)=1 by omega),dF_ (fun h=>hg h.2)]
   .rw[dF_ (by
     rcases cp_ (show d<=1 by omega) with h|h
     .rw[D4 h];decide
     .rw[h,I0];decide),dF_ (fun h=>hd h.1)]
    rfl
theorem Dl7{n:Int}(hn:lt n<=100000000):Fm7 (tx n)=some (((dtx (n.natAbs:Int)).length:Nat):Int):=by
 unfold Fm7 tx;by_cases h:n<0
 .have hb:=L0 n;rw[show tx n=45::dtx (-n) by unfold tx;rw[if_pos h],length_cons]at hb;rw[if_pos h,show((n.natAbs:Nat):Int)= -n by omega];show Option.bind (some (45:UInt8)) _=_;rw[sb,show(((45:UInt8).toNat:Int)==45)=true from rfl];simp only[cond_true,length_cons];rw[E3 (by omega) (by omega)];congr 1;omega
 .rw[if_neg h,show((n.natAbs:Nat):Int)=n by omega];have hc:=H2 (show 0<=n by omega);cases hd:dtx n with
  |nil=>
   rcases cp_ (show 0<=n by omega) with h'|h'
   .obtain⟨c,t,e,_⟩:=Bn3 h';rw[hd]at e;cases e
   .subst h';cases hd
  |cons c t=>
   rw[hd]at hc;have h48:=(hc c ab_).1;show Option.bind (some c) _=_;rw[sb,beq_false_of_ne (show((c.toNat:Nat):Int)≠45 by omega)];rfl
theorem Dv7{q:List UInt8}(hq:q.length<=9000000):∃b,(b=true↔∃r,q=T r/\shB r=true)/\Ev fun f=>Dz2 f q=some b:=by
 obtain⟨b,hb,hE⟩:=Fg3 hq;cases hbb:b with
 |false=>
  subst hbb;refine⟨false,⟨fun h=>(by cases h),fun⟨r,h,_⟩=>hb.2 ⟨r,h⟩⟩,hE.mono fun f h=> ?_⟩;unfold Dz2;rw[h];rfl
 |true=>
  subst hbb;obtain⟨r,rfl⟩:=hb.1 rfl;have hr:=Gg8 hq (by decide);refine⟨shB r,⟨fun h=>⟨r,rfl,h⟩,fun⟨r',h,h'⟩=>by rwa [Ab7 h]⟩,(hE.and (Ev.ge 2000000011)).mono fun f h=> ?_⟩;unfold Dz2 Ge3;rw[h.1,sb];simp only[cond_true];rw[At3 hr (by decide) (by have:=h.2;omega),sb,Dl7 (ah_ hr.1 (by decide)),sb,Dl7 (ah_ hr.2 (by decide))];unfold shB Cz2;rw[a6_];cases decide (((dtx (r.num.natAbs:Int)).length:Int)<=4)<;>rfl
end
section
theorem Fy8:([45,57,50,50,51,51,55,50,48,51,54,56,53,52,55,55,53,56,48,56]:List UInt8)=tx (-9223372036854775808):=by kernel_rfl
theorem Fy7:([57,50,50,51,51,55,50,48,51,54,56,53,52,55,55,53,56,48,55]:List UInt8)=tx 9223372036854775807:=by kernel_rfl
theorem Fu9{s:List UInt8}(hc:∀c∈s,48<=c.toNat/\c.toNat<=57)(hl:s.length<=9)(hn:Bk2 s=some false):∀(r i k:Nat) (a:Int),i+r=s.length->r<k->0<=a->a<10^i->Aa6 s k (-a) (i:Int)=some (fv a (s.drop i),true)
 |_,_,0,_,_,h,_,_=>absurd h (by omega)
 |0,i,k+1,a,hi,_,h0,h1=>by
  have h9:(10:Int)^i<=10^9:=E8 h10 (by omega);have e9:(10:Int)^9=1000000000:=by decide
  unfold Aa6;rw[dF_ (by omega),ag_ (by omega)];simp only[cond_false];rw[hn,sb];simp only[Bool.not_false,cond_true];rw[show(0:Int)- -a=a by omega,E3 (i:=a) (by omega) (by omega)];rfl
 |r+1,i,k+1,a,hi,hk,h0,h1=>by
  have h9:(10:Int)^i<=10^9:=E8 h10 (by omega);have e9:(10:Int)^9=1000000000:=by decide
  have hil:i<s.length:=by omega
  obtain⟨c1,c2⟩:=hc s[i] (af_ hil);unfold Aa6;rw[dT_ (by omega)];simp only[cond_true];rw[C3 hil,sb,show(((s[i].toNat:Int)) !=45)=true by rw[bne_iff_ne];omega];simp only[cond_true,sb];unfold Ax3;have e8:IntKind.u8.wrap ((s[i].toNat:Int)-48)=(s[i].toNat:Int)-48:=by
   obtain⟨d,hd⟩:∃d:Nat,(s[i].toNat:Int)-48=(d:Int):=⟨s[i].toNat-48,by omega⟩
   have hd9:d<10:=by omega
   rw[hd]
   match d,hd9 with
   |0,_=>rfl
   |1,_=>rfl
   |2,_=>rfl
   |3,_=>rfl
   |4,_=>rfl
   |5,_=>rfl
   |6,_=>rfl
   |7,_=>rfl
   |8,_=>rfl
   |9,_=>rfl
  rw[e8,E3 (i:=10* -a) (by omega) (by omega),E3 (i:=(s[i].toNat:Int)-48) (by omega) (by omega),E3 (by omega) (by omega),wi i (by omega)];rw[show 10* -a-((s[i].toNat:Int)-48)= -(10*a+((s[i].toNat:Int)-48)) by omega,ai_ hil];have hp:(10:Int)^(i+1)=10*10^i:=by rw[a3_];omega
  exact Fu9 hc hl hn r (i+1) k _ (by omega) (by omega) (by omega) (by omega)
theorem Fv0{d:Int}(h0:0<d)(h9:d<1000000000){f:Nat}(hf:2000000010<f):Fz9 f (tx d)=some (d,true):=by
 have hlt:lt d<=9:=Ac5 (by
  have e9:(10:Int)^9=1000000000:=by decide
  rw[e9];omega)
 unfold Fz9;rw[Fy8,Fy7,Fw8 (by omega) (Ac5 (L:=20) (by decide)|>fun h=>ah_ h (by decide)) hf,sb,Fw8 (by omega) (Ac5 (L:=20) (by decide)|>fun h=>ah_ h (by decide)) hf,D6 (by omega),D4 (by omega)];have hd:=H2 (show 0<=d by omega);have hn:= @Ag3 d;rw[dF_ (show¬d<0 by omega)]at hn;have ht:tx d=dtx d:=An0 (by omega);rw[ht]at hn⊢;have hlen:(dtx d).length<=9:=by
  rw[Ai1 h0];unfold lt at hlt
  rwa [show((d.natAbs:Nat):Int)=d by omega]at hlt
 have:=Fu9 hd hlen hn (dtx d).length 0 f 0 (by omega) (by omega) (Int.le_refl _) (by decide);rw[drop_zero,Bw6 (by omega),Int.neg_zero]at this;exact this
theorem Fv2{v w k9:Nat}{v8:Int}{bt:Bool}(hv:0<v)(hv9:v<=9999)(hw:0<w)(hw9:w<=9999){cL:Int->Int->Option Int}(hk9:k9=Nat.lcm v w/v):∀(r j k:Nat),j+r=k9->0<j->r<k->Aw4 (v:Int) v8 ((w:Int),bt) cL k ((v*j:Nat):Int)=if Nat.lcm v w<=9999 then cL (Nat.lcm v w:Int) (i64.wrap (v8+1)) else some 0
 |_,_,0,_,_,h=>absurd h (by omega)
 |r,j,k+1,hj,h0,hk=>by
  have hd:v∣Nat.lcm v w:=Nat.dvd_lcm_left v w;have hl:Nat.lcm v w=v*k9:=by rw[hk9];exact(Nat.mul_div_cancel' hd).symm
  have hlw:Nat.lcm v w<=v*w:=cm_ (bl_ hv hw) (Nat.lcm_dvd (Nat.dvd_mul_right _ _) (Nat.dvd_mul_left _ _));have hvw:v*w<=9999*9999:=a7_ hv9 hw9;have hvj:v*j<=v*k9:=Nat.mul_le_mul_left _ (by omega);unfold Aw4;rw[D1 (dT_ (show(w:Int)≠0 by omega))];have hm:Int.tmod ((v*j:Nat):Int) (w:Int)=((v*j%w:Nat):Int):=by rw[(tdm (Int.natCast_nonneg _)).2];rfl
  simp only;rw[hm];by_cases hz:v*j%w=0
  .have hdv:Nat.lcm v w∣v*j:=Nat.lcm_dvd (Nat.dvd_mul_right _ _) (Nat.dvd_of_mod_eq_zero hz);have hle:=cm_ (bl_ hv h0) hdv;have he:v*j=Nat.lcm v w:=by omega
   rw[hz,show(((0:Nat):Int) !=0)=false from rfl,he];simp only[cond_false];by_cases h9:Nat.lcm v w<=9999
   .rw[if_pos h9,dF_ (by omega)];rfl
   .rw[if_neg h9,dT_ (by omega)];rfl
  .rw[show(((v*j%w:Nat):Int) !=0)=true by rw[bne_iff_ne];omega];simp only[cond_true];have hlt:j<k9:=by
    rcases bc_ j k9 with h|h
    .exact h
    .exfalso;have:j=k9:=by omega
     apply hz;rw[this,<-hl];exact Nat.mod_eq_zero_of_dvd (Nat.dvd_lcm_right v w)
   obtain⟨r,rfl⟩:∃q,r=q+1:=⟨r-1,by omega⟩
   have e:((v*j:Nat):Int)+(v:Int)=((v*(j+1):Nat):Int):=by rw[Nat.mul_add];omega
   rw[e,E3 (i:=((v*(j+1):Nat):Int)) (by omega) (by
    have:v*(j+1)<=v*k9:=Nat.mul_le_mul_left _ (by omega);omega)]
   exact Fv2 hv hv9 hw hw9 hk9 r (j+1) k (by omega) (by omega) (by omega)
theorem Bm8{l:List Rat}(hl:l.length<=1000000)(hs:∀r∈l,shB r=true):∀(r i k v:Nat) (f:Nat),3000000000<=f->i+r=l.length->r<k->0<v->v<=9999->Aa2 f (l.map T) k (v:Int) (i:Int)=some (((Z8 v (l.drop i)).getD 0:Nat):Int)
 |_,_,0,_,_,_,_,h,_,_=>absurd h (by omega)
 |0,i,k+1,v,f,_,hi,_,h0,_=>by
  unfold Aa2;rw[dF_ (by simp;omega),ag_ (by omega)];rfl
 |r+1,i,k+1,v,f,hf,hi,hk,h0,h9=>by
  have hil:i<l.length:=by omega
  obtain⟨d1,d2,d3⟩:=Az3 (hs l[i] (af_ hil));have hrs:rsz 100 l[i]:=by
   refine⟨ah_ (Ac5 (L:=4) ?_) (by decide),ah_ (Ac5 (L:=4) ?_) (by decide)⟩
   .have:(10:Int)^4=10000:=by decide
    rw[this];omega
   .have:(10:Int)^4=10000:=by decide
    rw[this];omega
  unfold Aa2;rw[dT_ (by simp;omega)];simp only[cond_true,sb];rw[dT_ (by omega)];simp only[cond_true];rw[D8 hil,sb,At3 hrs (by decide) (by omega),sb,Fv0 (by omega) (by omega) (by omega),sb];simp only[Bool.not_true,cond_false,sb];rw[dF_ (by omega)];simp only[cond_false];have hkk:Nat.lcm v l[i].den/v<=9999:=by
   have hkl:Nat.lcm v l[i].den<=v*l[i].den:=cm_ (bl_ h0 d2) (Nat.lcm_dvd (Nat.dvd_mul_right _ _) (Nat.dvd_mul_left _ _));exact ah_ (Nat.div_le_of_le_mul hkl) d3
  have hk1:0<Nat.lcm v l[i].den/v:=Nat.div_pos (cm_ (Nat.lcm_pos h0 d2) (Nat.dvd_lcm_left _ _)) h0;have:=Fv2 (v8:=(i:Int)) (bt:=true) (cL:=Aa2 f (l.map T) k) h0 h9 d2 d3 rfl (Nat.lcm v l[i].den/v-1) 1 f (by omega) (by decide) (by omega);rw[ch_]at this;refine this.trans ?_;rw[ai_ hil,Z8];split
  .rename_i hle;rw[wi i (by omega)];exact Bm8 hl hs r (i+1) k _ f hf (by omega) (by omega) (Nat.lcm_pos h0 d2) hle
  .rfl
end
section
theorem Fr6{c:UInt8}:(bif decide ((c.toNat:Int)<97) then some true else some (decide ((c.toNat:Int)>122)))=some (!(decide (97<=c.toNat)&&decide (c.toNat<=122))):=by
 by_cases h1:(c.toNat:Int)<97
 .rw[dT_ h1,dF_ (show¬97<=c.toNat by omega)];rfl
 .rw[dF_ h1,dT_ (show 97<=c.toNat by omega)];by_cases h2:(c.toNat:Int)>122
  .rw[dT_ h2,dF_ (show¬c.toNat<=122 by omega)];rfl
  .rw[dF_ h2,dT_ (show c.toNat<=122 by omega)];rfl
theorem Fr4{a:List UInt8}(hl:a.length<=9000000):∀(r i k:Nat),i+r=a.length->r<k->Ap1 a k (i:Int)=some ((a.drop i).all (fun c=>decide (97<=c.toNat)&&decide (c.toNat<=122))&&decide (a.length<=8))
 |_,_,0,_,h=>absurd h (by omega)
 |0,i,k+1,hi,_=>by
  unfold Ap1;rw[dF_ (by omega),ag_ (by omega)];simp only[cond_false,all_nil,Bool.true_and];congr 1;exact decide_eq_decide.2 (by omega)
 |r+1,i,k+1,hi,hk=>by
  have hil:i<a.length:=by omega
  unfold Ap1;rw[dT_ (by omega),C3 hil];simp only[cond_true,sb];rw[Fr6,sb,ai_ hil,all_cons];cases decide (97<=a[i].toNat)&&decide (a[i].toNat<=122) with
  |false=>rfl
  |true=>
   simp only[Bool.not_true,cond_false,Bool.true_and];rw[wi i (by omega)];exact Fr4 hl r (i+1) k (by omega) (by omega)
theorem Fr5{a:List UInt8}{f:Nat}(hl:a.length<=9000000)(hf:a.length<f):Ek5 f a=some (Cc1 a):=by
 unfold Ek5 Cc1;have:=Fr4 hl a.length 0 f (by omega) hf;rw[drop_zero]at this;rw[show(0:Int)=((0:Nat):Int) from rfl,this,Bool.and_comm]
theorem Fx8{r:Rat}(h:shB r=true):fr r.den 9999 r:=by
 obtain⟨h1,h2,h3⟩:=Az3 h;refine Fc9 h2 (Nat.dvd_refl _) ?_;have:9999*1<=9999*r.den:=Nat.mul_le_mul_left _ h2;omega
theorem Co7{c:A2}{n:Nat}(hn:c.Next.length<=12)(hq:∀b∈c.Next,b.P.length<=9000000):
 ∀(l:List B7) (i:Nat) (x:Rat) (last:Int),c.Next.drop i=l->(∃D,0<D/\D<=10^(4*i)/\fr D (9999*i) x)->
  ∃b,(b=true↔∃nx,l=nx.map eB/\asc n last nx/\(∀b∈nx,shB b.2=true/\0<b.2)/\Br6 nx x=1)/\Ev fun f=>∀k,l.length<k->X2 f c (n:Int) k (T x) last (i:Int)=some b
 |[],i,x,last,hd,hx=>by
  have:=drop_nil hd;refine⟨decide (x=1),⟨fun h=>⟨[],rfl,trivial,fun _ h=>(by cases h),of_decide_eq_true h⟩,fun⟨nx,h1,_,_,h4⟩=> ?_⟩,Ev.of fun f k hk=> ?_⟩
  .cases nx with
   |nil=>exact dT_ h4
   |cons a t=>cases h1
  .obtain⟨k,rfl⟩:∃j,k=j+1:=⟨k-1,by simp at hk;omega⟩
   unfold X2;rw[dF_ (by simp;omega)];simp only[cond_false];congr 1;rw[<-T1];by_cases h:x=1
   .rw[h,dT_ rfl,beq_self_eq_true]
   .rw[dF_ h,beq_false_of_ne fun e=>h (Ab7 e)]
 |b::l,i,x,last,hd,⟨D,hD,hD4,hx⟩=>by
  obtain⟨hi,hb,hd'⟩:=K1 hd;have hi12:i<12:=by omega
  have mb:b∈c.Next:=by rw[<-hb];exact af_ hi
  obtain⟨s,hs,hsE⟩:=Dv7 (hq b mb)
  have step:∀f k,(b::l).length<k->∃j,k=j+1/\X2 f c (n:Int) k (T x) last (i:Int)=(
   bif decide (b.To<=last) then some true
   else bif decide (b.To>=(n:Int)) then some true
   else (Dz2 f b.P).bind fun y29=>bif !y29 then some true else (F41 f b.P).bind fun y30=>some (decide (y30<1))).bind fun o4=>bif o4 then some false else (F37 f (T x) b.P).bind fun y28=>X2 f c (n:Int) j y28 b.To (i64.wrap ((i:Int)+1)):=fun f k hk=>by
   obtain⟨k,rfl⟩:∃j,k=j+1:=⟨k-1,by simp at hk;omega⟩
   refine⟨k,rfl,?_⟩
   conv=>lhs;unfold X2
   rw[dT_ (by simp;omega)];simp only[cond_true];rw[C3 hi,sb,hb]
  have bad:(∀nx,b::l=nx.map eB->asc n last nx->(∀b∈nx,shB b.2=true/\0<b.2)->False)->(Ev fun f=>(bif decide (b.To<=last) then some true else bif decide (b.To>=(n:Int)) then some true else (Dz2 f b.P).bind fun y29=>bif !y29 then some true else (F41 f b.P).bind fun y30=>some (decide (y30<1)))=some true)->∃z,(z=true↔∃nx,b::l=nx.map eB/\asc n last nx/\(∀b∈nx,shB b.2=true/\0<b.2)/\Br6 nx x=1)/\Ev fun f=>∀k,(b::l).length<k->X2 f c (n:Int) k (T x) last (i:Int)=some z:=fun h1 h2=>by
   refine⟨false,⟨fun h=>(by cases h),fun⟨nx,a1,a2,a3,_⟩=>(h1 nx a1 a2 a3).elim⟩,h2.mono fun f hf k hk=> ?_⟩;obtain⟨j,_,e⟩:=step f k hk;rw[e,hf];rfl
  by_cases c1:b.To<=last
  .refine bad (fun nx a1 a2 _=> ?_) (Ev.of fun f=>by rw[dT_ c1];rfl);cases nx with
   |nil=>cases a1
   |cons y t=>cases a1;have:=a2.1;exact absurd c1 (by show¬y.1<=last;omega)
  by_cases c2:b.To>=(n:Int)
  .refine bad (fun nx a1 a2 _=> ?_) (Ev.of fun f=>by rw[dF_ c1,dT_ c2];rfl);cases nx with
   |nil=>cases a1
   |cons y t=>cases a1;have:=a2.2.1;exact absurd c2 (by show¬y.1>=(n:Int);omega)
  cases hss:s with
  |false=>
   subst hss;refine bad (fun nx a1 _ a3=> ?_) (hsE.mono fun f hf=>by rw[dF_ c1,dF_ c2];simp only[cond_false];rw[hf];rfl);cases nx with
   |nil=>cases a1
   |cons y t=>cases a1;have:=hs.2 ⟨y.2,rfl,(a3 y ab_).1⟩;cases this
  |true=>
   subst hss;obtain⟨p,hp,hps⟩:=hs.1 rfl;have hpf:=Fx8 hps;obtain⟨_,hp0,hp9⟩:=Az3 hps;have hpr:rs p:=Aq8 hpf (p:=4) (q:=4) (by omega) (by decide) (by decide);by_cases c3:0<p
   .have hx2:fr (D*p.den) (9999*(i+1)) (x+p):=by
     have h1:=Ba1 hx hp0;have h2:fr (D*p.den) 9999 p:=Eo6 hpf (Nat.dvd_mul_left _ _) (bl_ hD hp0);have:=Bw3 h1 h2
     rwa [show 9999*i+9999=9999*(i+1) by omega]at this
    have hD2:D*p.den<=10^(4*(i+1)):=by
     rw[show 4*(i+1)=4*i+4 by omega,bs_];exact a7_ hD4 (by omega)
    have hxr:rs x:=Aq8 hx (p:=4*i) (q:=6) hD4 (by omega) (by omega);obtain⟨z,hz,hE⟩:=Co7 hn hq l (i+1) (x+p) b.To hd' ⟨D*p.den,bl_ hD hp0,hD2,hx2⟩;refine⟨z,⟨fun h=> ?_,fun⟨nx,a1,a2,a3,a4⟩=>hz.2 ?_⟩,((hsE.and (Dm1 hpr)).and ((Gj0 hxr hpr).and hE)).mono fun f hf k hk=> ?_⟩
    .obtain⟨nx,a1,a2,a3,a4⟩:=hz.1 h;refine⟨(b.To,p)::nx,?_,⟨by show last<b.To;omega,by show b.To<(n:Int);omega,a2⟩,fun y hy=> ?_,a4⟩
     .rw[map_cons,<-a1];show b::l=(⟨b.To,T p⟩:B7)::l;rw[<-hp]
     .rcases mem_cons.1 hy with rfl|hy
      .exact⟨hps,c3⟩
      .exact a3 y hy
    .cases nx with
     |nil=>cases a1
     |cons y t=>
      cases a1;obtain rfl:y.2=p:=Ab7 hp;exact⟨t,rfl,a2.2.2,fun w hw=>a3 w (mem_cons_of_mem _ hw),a4⟩
    .obtain⟨⟨f1,f2⟩,f3,f4⟩:=hf;obtain⟨j,ej,e⟩:=step f k hk;rw[e,dF_ c1,dF_ c2];simp only[cond_false];rw[f1,sb,hp];simp only[Bool.not_true,cond_false];rw[f2,sb,dF_ (by
      have:Br4 p 0=1:=by unfold Br4;rw[if_neg (by grind),if_pos c3]
      omega),sb]
     simp only[cond_false];rw[f3,sb,wi i (by omega)];exact f4 j (by simp at hk;omega)
   .refine bad (fun nx a1 _ a3=> ?_) ((hsE.and (Dm1 hpr)).mono fun f hf=> ?_)
    .cases nx with
     |nil=>cases a1
     |cons y t=>
      cases a1;obtain rfl:y.2=p:=Ab7 hp;exact c3 (a3 y ab_).2
    .rw[dF_ c1,dF_ c2];simp only[cond_false];rw[hf.1,sb,hp];simp only[Bool.not_true,cond_false];rw[hf.2,sb,dT_ (by
      unfold Br4;split
      .decide
      .first|decide|(rw[if_neg c3];decide))]
def Eg6(n:Nat)(c:Cho):Prop:=Cc1 c.act=true/\(shB c.gain=true/\0<=c.gain)/\Fs7 n c.next
theorem Dk5{c:A2}{n:Nat}(h12:n<=12)(hz:szC c):∃b,(b=true↔∃c0,c=eC c0/\Eg6 n c0)/\Ev fun f=>Et5 f c (n:Int)=some b:=by
 obtain⟨z1,z2,z3,z4⟩:=hz;obtain⟨s,hs,hsE⟩:=Dv7 z2;have hA:Ev fun f=>Ek5 f c.Act=some (Cc1 c.Act):=Ev.from_ (c.Act.length+1) fun f hf=>Fr5 z1 (by omega)
 have bad:(∀c0,c=eC c0->Eg6 n c0->False)->(Ev fun f=>Option.bind (Ek5 f c.Act) (fun y31=>bif !y31 then some true else (Dz2 f c.Gain).bind fun y32=>bif !y32 then some true else (F41 f c.Gain).bind fun y33=>bif decide (y33<0) then some true else bif ((c.Next.map A4).length:Int)==0 then some true else some (decide (((c.Next.map A4).length:Int)>(n:Int))))=some true)->∃b,(b=true↔∃c0,c=eC c0/\Eg6 n c0)/\Ev fun f=>Et5 f c (n:Int)=some b:=fun h1 h2=>by
  refine⟨false,⟨fun h=>(by cases h),fun⟨c0,a,b⟩=>(h1 c0 a b).elim⟩,h2.mono fun f hf=> ?_⟩;unfold Et5;exact sbe hf rfl
 cases ha:Cc1 c.Act with
 |false=>
  refine bad (fun c0 e h=> ?_) (hA.mono fun f hf=>by rw[hf,sb,ha];rfl);subst e;have:=h.1;rw[show(eC c0).Act=c0.act from rfl,this]at ha;cases ha
 |true=>
 cases hss:s with
 |false=>
  subst hss;refine bad (fun c0 e h=> ?_) ((hA.and hsE).mono fun f hf=>by rw[hf.1,sb,ha];simp only[Bool.not_true,cond_false];rw[hf.2,sb];rfl);subst e;have:=hs.2 ⟨c0.gain,rfl,h.2.1.1⟩;cases this
 |true=>
 subst hss;obtain⟨g,hg,hgs⟩:=hs.1 rfl;have hgr:rs g:=Aq8 (Fx8 hgs) (p:=4) (q:=4) (by have:=(Az3 hgs).2.2;omega) (by decide) (by decide);have hS:=Dm1 hgr;by_cases g0:g<0
 .refine bad (fun c0 e h=> ?_) (((hA.and hsE).and hS).mono fun f hf=> ?_)
  .subst e;obtain rfl:c0.gain=g:=Ab7 hg;have:=h.2.1.2;grind
  .obtain⟨⟨f1,f2⟩,f3⟩:=hf;rw[f1,sb,ha];simp only[Bool.not_true,cond_false];rw[f2,sb];simp only[Bool.not_true,cond_false];rw[hg,f3,sb,Bm7,dT_ g0];rfl
 have pre:Ev fun f=>Option.bind (Ek5 f c.Act) (fun y31=>bif !y31 then some true else (Dz2 f c.Gain).bind fun y32=>bif !y32 then some true else (F41 f c.Gain).bind fun y33=>bif decide (y33<0) then some true else bif ((c.Next.map A4).length:Int)==0 then some true else some (decide (((c.Next.map A4).length:Int)>(n:Int))))=some (decide (c.Next.length=0\/n<c.Next.length)):=((hA.and hsE).and hS).mono fun f hf=>by
  obtain⟨⟨f1,f2⟩,f3⟩:=hf;rw[f1,sb,ha];simp only[Bool.not_true,cond_false];rw[f2,sb];simp only[Bool.not_true,cond_false];rw[hg,f3,sb,Bm7,dF_ g0,length_map];simp only[cond_false];by_cases h0:c.Next.length=0
  .rw[h0,dT_ (Or.inl rfl)];rfl
  .rw[beq_false_of_ne (show(c.Next.length:Int)≠0 by omega)];simp only[cond_false];congr 1;exact decide_eq_decide.2 (by omega)
 by_cases h3:c.Next.length=0\/n<c.Next.length
 .refine bad (fun c0 e h=> ?_) (pre.mono fun f hf=>by rw[hf,dT_ h3]);subst e;have hb:=h.2.2;rw[show(eC c0).Next=c0.next.map eB from rfl,length_map]at h3;rcases h3 with h3|h3
  .have h4:=b7_.1 h3;have h5:=hb.2.2;rw[h4,Br6]at h5;exact absurd h5 (by decide)
  .cases hnn:n with
   |zero=>
    subst hnn;cases hnx:c0.next with
    |nil=>rw[hnx]at h3;cases h3
    |cons b t=>
     have:=Ay6 hb.1 b (by rw[hnx];exact ab_);omega
   |succ q=>have:=Bm0 hb.1 (by omega);omega
 .obtain⟨z,hz,hE⟩:=Co7 (c:=c) (n:=n) (by omega) z4 c.Next 0 0 (-1) rfl ⟨1,by decide,by decide,Aq9 (by decide)⟩;refine⟨z,⟨fun h=> ?_,fun⟨c0,e,h⟩=>hz.2 ?_⟩,((pre.and hE).and (Ev.ge 14)).mono fun f hf=> ?_⟩
  .obtain⟨nx,a1,a2,a3,a4⟩:=hz.1 h;refine⟨⟨c.Act,g,nx⟩,?_,ha,⟨hgs,Rat.not_lt.1 g0⟩,a2,a3,a4⟩;unfold eC;rw[<-hg,<-a1]
  .subst e;exact⟨c0.next,rfl,h.2.2.1,h.2.2.2.1,h.2.2.2.2⟩
  .obtain⟨⟨f1,f2⟩,f3⟩:=hf;rw[dF_ h3]at f1;unfold Et5;refine sbe f1 ?_;simp only[cond_false];rw[<-T0];exact f2 f (by omega)
end
section
def prR(l:List Cho):List Rat:=l.flatMap fun c=>c.next.map (·.2)
section
variable {m:Mdl} {f:Nat}
theorem Ds6{l65:List (List UInt8)}{v24:Int}{c:Cho}(hn:c.next.length<=12){cL:Int->List (List UInt8)->List (List UInt8)->Option (List (List UInt8)×List (List UInt8))}:∀(l:List (Int×Rat)) (i k:Nat) (acc:List (List UInt8)),c.next.drop i=l->l.length<k->acc.length<=1000000+i->An9 l65 v24 (eC c) cL k (i:Int) acc=cL (i64.wrap (v24+1)) l65 (acc++l.map fun b=>T b.2)
 |[],i,k,acc,hd,hk,_=>by
  obtain⟨k,rfl⟩:∃j,k=j+1:=⟨k-1,by omega⟩
  have:=drop_nil hd;unfold An9;rw[dF_ (by simp[eC];omega),map_nil,append_nil];rfl
 |b::l,i,k,acc,hd,hk,ha=>by
  obtain⟨k,rfl⟩:∃j,k=j+1:=⟨k-1,by omega⟩
  obtain⟨hi,hb,hd'⟩:=K1 hd;unfold An9;rw[dT_ (by simp[eC];omega)];simp only[cond_true];rw[show C2 (eC c).Next (i:Int)=some (eB b) by rw[show(eC c).Next=c.next.map eB from rfl,D8 hi,hb],sb,Q4 (by simp;omega),sb,wi i (by omega),Ds6 hn l (i+1) k _ hd' (by simp at hk;omega) (by simp;omega),map_cons,List.append_assoc];rfl
theorem Ds5{s:Nat}{row:List Cho}(hg:m.ch[s]? =some row)(hr:row.length<=4)(hn:∀c∈row,c.next.length<=12)(hf:20<f){cL:Int->List (List UInt8)->List (List UInt8)->Option (List (List UInt8)×List (List UInt8))}:∀(l:List Cho) (i k:Nat) (G P:List (List UInt8)),row.drop i=l->l.length<k->G.length<=1000+i->P.length<=1000+12*i->Aa1 f (eM m) (s:Int) cL k (i:Int) G P=cL (i64.wrap ((s:Int)+1)) (G++l.map fun c=>T c.gain) (P++(prR l).map T)
 |[],i,k,G,P,hd,hk,_,_=>by
  obtain⟨k,rfl⟩:∃j,k=j+1:=⟨k-1,by omega⟩
  have:=drop_nil hd;unfold Aa1;rw[show C2 (eM m).Choices (s:Int)=some (eL row) by rw[D3,show(eM m).Choices=m.ch.map eL from rfl,List.getElem?_map,hg];rfl,sb,dF_ (by simp[eL];omega),map_nil,append_nil];simp[prR]
 |c::l,i,k,G,P,hd,hk,hG,hP=>by
  obtain⟨k,rfl⟩:∃j,k=j+1:=⟨k-1,by omega⟩
  obtain⟨hi,hb,hd'⟩:=K1 hd;have hc:=hn c (by rw[<-hb];exact af_ hi);unfold Aa1;rw[show C2 (eM m).Choices (s:Int)=some (eL row) by rw[D3,show(eM m).Choices=m.ch.map eL from rfl,List.getElem?_map,hg];rfl,sb,dT_ (by simp[eL];omega)];simp only[cond_true];rw[sb,show C2 (eL row) (i:Int)=some (eC c) by unfold eL;rw[D8 hi,hb],sb,Q4 (by simp;omega),sb];have h3:=Ds6 (l65:=G++[(eC c).Gain]) (v24:=(i:Int)) (c:=c) hc (cL:=Aa1 f (eM m) (s:Int) cL k) c.next 0 f P rfl (by omega) (by omega);rw[show((0:Nat):Int)=0 from rfl]at h3;rw[h3,wi i (by omega),Ds5 hg hr hn hf l (i+1) k _ _ hd' (by simp at hk;omega) (by simp;omega) (by simp;omega),map_cons,List.append_assoc,List.append_assoc];congr 2;unfold prR;rw[flatMap_cons,List.map_append,List.map_map];rfl
theorem Ds4(h12:m.ch.length<=12)(hr:∀row∈m.ch,row.length<=4/\∀c∈row,c.next.length<=12)(hf:20<f):∀(ls:List (List Cho)) (s k:Nat) (G P:List (List UInt8)),m.ch.drop s=ls->ls.length<k->G.length<=4*s->P.length<=48*s->X3 f (eM m) k (s:Int) G P=some (P++(prR ls.flatten).map T,G++ls.flatten.map fun c=>T c.gain)
 |[],s,k,G,P,hd,hk,_,_=>by
  obtain⟨k,rfl⟩:∃j,k=j+1:=⟨k-1,by omega⟩
  have:=drop_nil hd;unfold X3;rw[dF_ (by simp[eM];omega)];simp[prR]
 |row::ls,s,k,G,P,hd,hk,hG,hP=>by
  obtain⟨k,rfl⟩:∃j,k=j+1:=⟨k-1,by omega⟩
  obtain⟨hi,hb,hd'⟩:=K1 hd;obtain⟨r1,r2⟩:=hr row (by rw[<-hb];exact af_ hi);have hlp:∀l:List Cho,(∀c∈l,c.next.length<=12)->(prR l).length<=12*l.length:=fun l=>by
   induction l with
   |nil=>intro _;simp[prR]
   |cons c l ih=>
    intro h;have h1:=ih fun x hx=>h x (mem_cons_of_mem _ hx)
    have h2:=h c ab_;unfold prR at h1⊢;rw[flatMap_cons,length_append,length_map,length_cons];omega
  have hp:=hlp row r2;unfold X3;rw[dT_ (by simp[eM];omega)];simp only[cond_true];have h2:=Ds5 (s:=s) (row:=row) (by rw[aa_ hi,hb]) r1 r2 hf (cL:=X3 f (eM m) k) row 0 f G P rfl (by omega) (by omega) (by omega);rw[show((0:Nat):Int)=0 from rfl]at h2;rw[h2,wi s (by omega),Ds4 h12 hr hf ls (s+1) k _ _ hd' (by simp at hk;omega) (by simp;omega) (by simp;omega),flatten_cons,List.map_append,List.append_assoc,List.append_assoc];congr 3;unfold prR;rw[List.flatMap_append,List.map_append]
end
structure Gd1(m:Mdl):Prop where
 n12:m.own.length<=12
 len:m.ch.length=m.own.length
 cl:∀l∈m.ch,1<=l.length/\l.length<=4
 ch:∀l∈m.ch,∀c∈l,Eg6 m.own.length c
theorem Ds8{n:Nat}{c:Cho}(h:Eg6 n c)(hn:n<=12):c.next.length<=12:=by
 rcases c5_ n with h0|h0
 .cases hc:c.next with
  |nil=>simp
  |cons b t=>have:=Ay6 h.2.2.1 b (by rw[hc];exact ab_);omega
 .have:=Bm0 h.2.2.1 (by omega);omega
theorem Bx2{m:Mdl}(h:Gd1 m):Ev fun f=>F63 f (eM m)=some ((((Z8 1 (Cc3 m)).getD 0:Nat):Int),(((Z8 1 (Bx1 m)).getD 0:Nat):Int)):=Ev.from_ 3000000001 fun f hf=>by
 have h12:=h.n12;have hl:=h.len;have hN:=Ds4 (f:=f) (m:=m) (by omega) (fun row hr=>⟨(h.cl row hr).2,fun c hc=>Ds8 (h.ch row hr c hc) h12⟩) (by omega) m.ch 0 f [] [] rfl (by omega) (by simp) (by simp);rw[nil_append,nil_append]at hN;have hg:m.ch.flatten.map (fun c=>T c.gain)=(Bx1 m).map T:=by unfold Bx1;rw[List.map_map];rfl
 have hp:prR m.ch.flatten=Cc3 m:=rfl;rw[hg,hp]at hN;have hfl:m.ch.flatten.length<=48:=by
  have key:∀ls:List (List Cho),(∀l∈ls,l.length<=4)->ls.flatten.length<=4*ls.length:=fun ls=>by
   induction ls with
   |nil=>intro _;simp
   |cons l ls ih=>
    intro h;have h1:=ih fun x hx=>h x (mem_cons_of_mem _ hx)
    have h2:=h l ab_;rw[flatten_cons,length_append,length_cons];omega
  have:=key m.ch fun l hl=>(h.cl l hl).2
  omega
 have hch:∀c∈m.ch.flatten,Eg6 m.own.length c:=fun c hc=>by
  obtain⟨l,hl,hc⟩:=bg_.1 hc;exact h.ch l hl c hc
 have hpl:(Cc3 m).length<=1000000:=by
  have key:∀l:List Cho,(∀c∈l,c.next.length<=12)->(l.flatMap fun c=>c.next.map (·.2)).length<=12*l.length:=fun l=>by
   induction l with
   |nil=>intro _;simp
   |cons c l ih=>
    intro h;have h1:=ih fun x hx=>h x (mem_cons_of_mem _ hx)
    have h2:=h c ab_;rw[flatMap_cons,length_append,length_map,length_cons];omega
  have:=key m.ch.flatten fun c hc=>Ds8 (hch c hc) h12
  unfold Cc3;omega
 have c1:=Bm8 (l:=Cc3 m) hpl (fun r hr=>by
  obtain⟨c,hc,hr⟩:=List.mem_flatMap.1 hr;obtain⟨b,hb,rfl⟩:=av_.1 hr;exact((hch c hc).2.2.2.1 b hb).1) (Cc3 m).length 0 f 1 f (by omega) (by omega) (by omega) (by decide) (by decide)
 have c2:=Bm8 (l:=Bx1 m) (by unfold Bx1;rw[length_map];omega) (fun r hr=>by
  obtain⟨c,hc,rfl⟩:=av_.1 hr;exact(hch c hc).2.1.1) (Bx1 m).length 0 f 1 f (by omega) (by omega) (by unfold Bx1;rw[length_map];omega) (by decide) (by decide)
 rw[drop_zero]at c1 c2;unfold F63 Fz6;rw[show(0:Int)=((0:Nat):Int) from rfl,hN,sb];unfold Fl8;refine sbe c1 (sbe c2 rfl)
end
section
section
variable {y:A9}
def Eg8(n:Nat)(l:List A2):Prop:=∃l0,l=eL l0/\∀c∈l0,Eg6 n c
theorem Ct7{s:Nat}{row:List A2}(hg:y.Choices[s]? =some row)(hr:row.length<=1000)(h12:y.Owner.length<=12)(hz:∀c∈row,szC c):
 ∀(l:List A2) (i:Nat),row.drop i=l->(Eg8 y.Owner.length l/\Ev fun f=>∀(k:Nat) (cL:Int->Option Bool),l.length<k->Af7 f y (s:Int) cL k (i:Int)=cL (i64.wrap ((s:Int)+1)))\/(¬Eg8 y.Owner.length l/\Ev fun f=>∀(k:Nat) (cL:Int->Option Bool),l.length<k->Af7 f y (s:Int) cL k (i:Int)=some false)
 |[],i,hd=> .inl ⟨⟨[],rfl,fun _ h=>(by cases h)⟩,Ev.of fun f k cL hk=>by
  obtain⟨k,rfl⟩:∃j,k=j+1:=⟨k-1,by omega⟩
  have:=drop_nil hd;unfold Af7;rw[D3,hg,sb,dF_ (by simp;omega)];rfl⟩
 |c::l,i,hd=>by
  obtain⟨hi,hb,hd'⟩:=K1 hd;have mc:c∈row:=by rw[<-hb];exact af_ hi
  obtain⟨b,hbb,hE⟩:=Dk5 h12 (hz c mc);have step:∀f k (cL:Int->Option Bool),(c::l).length<k->∃j,k=j+1/\Af7 f y (s:Int) cL k (i:Int)=(Et5 f c (y.Owner.length:Int)).bind fun y84=>bif !y84 then some false else Af7 f y (s:Int) cL j ((i+1:Nat):Int):=fun f k cL hk=>by
   obtain⟨k,rfl⟩:∃j,k=j+1:=⟨k-1,by omega⟩
   refine⟨k,rfl,?_⟩
   conv=>lhs;unfold Af7
   rw[D3,hg,sb,dT_ (by simp;omega)];simp only[cond_true];rw[sb,C3 hi,sb,hb,length_map,wi i (by omega)]
  cases hbv:b with
  |false=>
   subst hbv;refine .inr ⟨fun⟨l0,h1,h2⟩=> ?_,hE.mono fun f hf k cL hk=> ?_⟩
   .cases l0 with
    |nil=>cases h1
    |cons c0 t=>
     have h1':c::l=eC c0::eL t:=h1;cases h1';have:=hbb.2 ⟨c0,rfl,h2 c0 ab_⟩;cases this
   .obtain⟨j,_,e⟩:=step f k cL hk;rw[e,hf,sb];rfl
  |true=>
   subst hbv;obtain⟨c0,hc0,hok⟩:=hbb.1 rfl;rcases Ct7 hg hr h12 hz l (i+1) hd' with⟨⟨l0,h1,h2⟩,h3⟩|⟨h1,h3⟩
   .refine .inl ⟨⟨c0::l0,by rw[hc0,h1];rfl,fun x hx=> ?_⟩,(hE.and h3).mono fun f hf k cL hk=> ?_⟩
    .rcases mem_cons.1 hx with rfl|hx
     .exact hok
     .exact h2 x hx
    .obtain⟨j,ej,e⟩:=step f k cL hk;rw[e,hf.1,sb];exact hf.2 j cL (by simp at hk;omega)
   .refine .inr ⟨fun⟨l0,a1,a2⟩=>h1 ?_,(hE.and h3).mono fun f hf k cL hk=> ?_⟩
    .cases l0 with
     |nil=>cases a1
     |cons c1 t=>
      have a1':c::l=eC c1::eL t:=a1;cases a1';exact⟨t,rfl,fun x hx=>a2 x (mem_cons_of_mem _ hx)⟩
    .obtain⟨j,ej,e⟩:=step f k cL hk;rw[e,hf.1,sb];exact hf.2 j cL (by simp at hk;omega)
def Ca2(y:A9)(s:Nat):Prop:=(∃o,y.Owner[s]? =some o/\(o=0\/o=1))/\∃row,y.Choices[s]? =some row/\1<=row.length/\row.length<=4/\Eg8 y.Owner.length row
theorem Ct6(h12:y.Owner.length<=12)(hlen:y.Choices.length=y.Owner.length)(hz:szZ y){tb:Bool}(hT:(∀s,s<y.Owner.length->Ca2 y s)->Ev fun f=>Option.bind (F63 f y) (fun y91=>Option.bind (bif decide (y91.1>0) then some (decide (y91.2>0)) else some false) fun o5=>some o5)=some tb):
 ∀(r i:Nat),i+r=y.Owner.length->(∀s,s<i->Ca2 y s)->∃b,(b=true↔(∀s,s<y.Owner.length->Ca2 y s)/\tb=true)/\Ev fun f=>∀k,r<k->Aj7 f y k (i:Int)=some b
 |0,i,hi,hall=>by
  have hall':∀s,s<y.Owner.length->Ca2 y s:=fun s hs=>hall s (by omega)
  refine⟨tb,⟨fun h=>⟨hall',h⟩,fun h=>h.2⟩,(hT hall').mono fun f hf k hk=> ?_⟩;obtain⟨k,rfl⟩:∃j,k=j+1:=⟨k-1,by omega⟩
  unfold Aj7;rw[dF_ (by simp;omega)];exact hf
 |r+1,i,hi,hall=>by
  have hio:i<y.Owner.length:=by omega
  have hic:i<y.Choices.length:=by omega
  have hgc:=aa_ hic;have hgo:=aa_ hio;have hrz:=hz _ (af_ hic);have hdiff:decide ((((y.Choices[i]).map A1).length:Int)<1)=decide (y.Choices[i].length<1):=by rw[length_map];exact decide_eq_decide.2 (by omega)
  have hdiff2:decide ((((y.Choices[i]).map A1).length:Int)>4)=decide (4<y.Choices[i].length):=by rw[length_map];exact decide_eq_decide.2 (by omega)
  let g:Bool:= !(decide (y.Owner[i]=0\/y.Owner[i]=1)&&(!decide (y.Choices[i].length<1)&& !decide (4<y.Choices[i].length)))
  have step:∀f k,r+1<k->∃j,k=j+1/\Aj7 f y k (i:Int)=bif g then some false else Af7 f y (i:Int) (Aj7 f y j) f 0:=fun f k hk=>by
   obtain⟨k,rfl⟩:∃j,k=j+1:=⟨k-1,by omega⟩
   refine⟨k,rfl,?_⟩
   conv=>lhs;unfold Aj7
   rw[dT_ (by simp;omega)];simp only[cond_true];rw[C3 hio,C3 hic];simp only[sb];rw[hdiff,hdiff2];refine sbe (x:=g) ?_ rfl;show _=some (!(decide (y.Owner[i]=0\/y.Owner[i]=1)&&(!decide (y.Choices[i].length<1)&& !decide (4<y.Choices[i].length))));by_cases h0:y.Owner[i]=0
   .rw[h0,show((0:Int) !=0)=false from rfl,dT_ (Or.inl rfl)];simp only[cond_false,Bool.true_and];cases decide (y.Choices[i].length<1)<;>cases decide (4<y.Choices[i].length)<;>rfl
   .rw[show(y.Owner[i] !=0)=true from bne_iff_ne.2 h0];simp only[cond_true];by_cases h1:y.Owner[i]=1
    .rw[h1,show((1:Int) !=1)=false from rfl,dT_ (Or.inr rfl)];simp only[cond_false,Bool.true_and];cases decide (y.Choices[i].length<1)<;>cases decide (4<y.Choices[i].length)<;>rfl
    .rw[show(y.Owner[i] !=1)=true from bne_iff_ne.2 h1,dF_ (show¬(y.Owner[i]=0\/y.Owner[i]=1) from fun h=>h.elim h0 h1)];rfl
  cases hgv:g with
  |true=>
   refine⟨false,⟨fun h=>(by cases h),fun⟨h,_⟩=> ?_⟩,Ev.of fun f k hk=> ?_⟩
   .obtain⟨⟨o,e1,e2⟩,row,e3,e4,e5,_⟩:=h i hio;rw[hgo]at e1;cases e1;rw[hgc]at e3;cases e3;have hgf:g=false:=by
     show(!(decide (y.Owner[i]=0\/y.Owner[i]=1)&&(!decide (y.Choices[i].length<1)&& !decide (4<y.Choices[i].length))))=false;rw[dT_ e2,dF_ (by omega),dF_ (by omega)];rfl
    rw[hgf]at hgv;cases hgv
   .obtain⟨j,_,e⟩:=step f k hk;rw[e,hgv];rfl
  |false=>
   have hg':(y.Owner[i]=0\/y.Owner[i]=1)/\¬y.Choices[i].length<1/\¬4<y.Choices[i].length:=by
    have h:(!(decide (y.Owner[i]=0\/y.Owner[i]=1)&&(!decide (y.Choices[i].length<1)&& !decide (4<y.Choices[i].length))))=false:=hgv;simp only[Bool.not_eq_false',Bool.and_eq_true,decide_eq_true_eq,Bool.not_eq_true',decide_eq_false_iff_not]at h;exact h
   rcases Ct7 hgc (by omega) h12 hrz.2 y.Choices[i] 0 rfl with⟨h1,h3⟩|⟨h1,h3⟩
   .obtain⟨b,hb,hE⟩:=Ct6 h12 hlen hz hT r (i+1) (by omega) fun s hs=>by
     rcases Nat.lt_or_eq_of_le (Nat.le_of_lt_succ hs) with h|rfl
     .exact hall s h
     .exact⟨⟨_,hgo,hg'.1⟩,_,hgc,by omega,by omega,h1⟩
    refine⟨b,hb,((h3.and hE).and (Ev.ge 20)).mono fun f hf k hk=> ?_⟩;obtain⟨j,ej,e⟩:=step f k hk;rw[e,hgv];simp only[cond_false];rw[show(0:Int)=((0:Nat):Int) from rfl,hf.1.1 f _ (by have:=hf.2;omega),wi i (by omega)];exact hf.1.2 j (by omega)
   .refine⟨false,⟨fun h=>(by cases h),fun⟨h,_⟩=> ?_⟩,(h3.and (Ev.ge 20)).mono fun f hf k hk=> ?_⟩
    .obtain⟨_,row,e3,_,_,e6⟩:=h i hio;rw[hgc]at e3;cases e3;exact(h1 e6).elim
    .obtain⟨j,ej,e⟩:=step f k hk;rw[e,hgv];simp only[cond_false];rw[show(0:Int)=((0:Nat):Int) from rfl];exact hf.1 f _ (by have:=hf.2;omega)
end
end
section
theorem Cs4{n:Nat}{row:List A2}(h:Eg8 n row):eL (row.map unC)=row/\∀c∈row.map unC,Eg6 n c:=by
 obtain⟨l0,rfl,h2⟩:=h;have e:(eL l0).map unC=l0:=by
  unfold eL;rw[List.map_map,show unC∘eC=id from funext Es6,bx_]
 rw[e];exact⟨rfl,h2⟩
theorem Du9{y:A9}(hlen:y.Choices.length=y.Owner.length)(hall:∀s,s<y.Owner.length->Ca2 y s):y=eM (unM y):=by
 have hc:(y.Choices.map (·.map unC)).map eL=y.Choices:=by
  refine ext_getElem (by simp) fun s h1 h2=> ?_
  obtain⟨_,row,e3,_,_,e6⟩:=hall s (by omega);rw[aa_ h2]at e3;cases e3;simp only[List.getElem_map];exact(Cs4 e6).1
 show y=⟨y.Owner,(y.Choices.map (·.map unC)).map eL⟩;rw[hc]
theorem Cu0{y:A9}(h12:y.Owner.length<=12)(hlen:y.Choices.length=y.Owner.length)(hall:∀s,s<y.Owner.length->Ca2 y s):Gd1 (unM y)/\∀o∈(unM y).own,o=0\/o=1:=by
 have hrow:∀l∈(unM y).ch,∃row,Ca2 y row/\(∃r,y.Choices[row]? =some r/\l=r.map unC):=fun l hl=>by
  obtain⟨r,hr,rfl⟩:=av_.1 hl;obtain⟨s,hs,rfl⟩:=List.mem_iff_getElem.1 hr;exact⟨s,hall s (by omega),_,aa_ hs,rfl⟩
 refine⟨⟨h12,by show(y.Choices.map _).length=y.Owner.length;rw[length_map];exact hlen,fun l hl=> ?_,fun l hl c hc=> ?_⟩,fun o ho=> ?_⟩
 .obtain⟨s,⟨_,row,e3,e4,e5,_⟩,r,hr,rfl⟩:=hrow l hl;rw[hr]at e3;cases e3;rw[length_map];exact⟨e4,e5⟩
 .obtain⟨s,⟨_,row,e3,_,_,e6⟩,r,hr,rfl⟩:=hrow l hl;rw[hr]at e3;cases e3;exact(Cs4 e6).2 c hc
 .obtain⟨s,hs,rfl⟩:=List.mem_iff_getElem.1 ho;obtain⟨⟨o,e1,e2⟩,_⟩:=hall s hs;rw[aa_ (show s<y.Owner.length from hs)]at e1;cases e1;exact e2
def tbB(m:Mdl):Bool:=(Z8 1 (Cc3 m)).isSome&&(Z8 1 (Bx1 m)).isSome
theorem lcm_pos{l:List Rat}:decide ((((Z8 1 l).getD 0:Nat):Int)>0)=(Z8 1 l).isSome:=by
 cases h:Z8 1 l with
 |none=>rfl
 |some w=>
  have:=(Ac4 h (by decide) (by decide)).1;show decide (((w:Nat):Int)>0)=true;exact dT_ (by omega)
theorem Ff5{m:Mdl}(h1:1<=m.own.length)(h:Gd1 m)(ho:∀o∈m.own,o=0\/o=1)(ht:tbB m=true):okM m:=by
 unfold tbB at ht;rw[Bool.and_eq_true]at ht;have hch:∀c∈m.ch.flatten,Eg6 m.own.length c:=fun c hc=>by
  obtain⟨l,hl,hc⟩:=bg_.1 hc;exact h.ch l hl c hc
 exact⟨h1,h.n12,h.len,h.cl,ho,fun c hc=>(hch c hc).1,fun c hc=>(hch c hc).2.1,fun c hc=>(hch c hc).2.2,ht.2,ht.1⟩
theorem Eg7{m:Mdl}(h:okM m):∀s,s<(eM m).Owner.length->Ca2 (eM m) s:=fun s hs=>by
 have hs':s<m.own.length:=hs;have hl:s<m.ch.length:=by rw[h.len];exact hs'
 have hm:=af_ hl;refine⟨⟨m.own[s],aa_ hs',h.ow _ (af_ hs')⟩,eL m.ch[s],?_,?_,?_,m.ch[s],rfl,fun c hc=> ?_⟩
 .show(m.ch.map eL)[s]? =_;rw[List.getElem?_map,aa_ hl];rfl
 .unfold eL;rw[length_map];exact(h.cl _ hm).1
 .unfold eL;rw[length_map];exact(h.cl _ hm).2
 .have hf:=bg_.2 ⟨_,hm,hc⟩;exact⟨h.ac c hf,h.ga c hf,h.br c hf⟩
theorem Ct8{y:A9}(hz:szZ y):((∃m,okM m/\y=eM m)/\Ev fun f=>F62 f y=some true)\/((¬∃m,okM m/\y=eM m)/\Ev fun f=>F62 f y=some false):=by
 by_cases hg:y.Owner.length<1\/12<y.Owner.length\/y.Choices.length≠y.Owner.length
 .refine .inr ⟨fun⟨m,h,e⟩=> ?_,Ev.of fun f=> ?_⟩
  .have h1:=h.n1;have h12:=h.n12;have hl:=h.len;rw[e]at hg;have e1:(eM m).Owner.length=m.own.length:=rfl;have e2:(eM m).Choices.length=m.ch.length:=by show(m.ch.map eL).length=_;rw[length_map]
   omega
  .unfold F62;refine sbe (x:=true) ?_ rfl;rw[length_map,length_map];by_cases h1:(y.Owner.length:Int)<1
   .rw[dT_ h1];rfl
   .rw[dF_ h1];simp only[cond_false];by_cases h2:(y.Owner.length:Int)>12
    .rw[dT_ h2];rfl
    .rw[dF_ h2];simp only[cond_false];rw[bne_iff_ne.2 (show(y.Choices.length:Int)≠(y.Owner.length:Int) by omega)]
 .have h1:1<=y.Owner.length:=by omega
  have h12:y.Owner.length<=12:=by omega
  have hlen:y.Choices.length=y.Owner.length:=by omega
  obtain⟨b,hb,hE⟩:=Ct6 (tb:=tbB (unM y)) h12 hlen hz (fun hall=>by
   have e:=Du9 hlen hall;refine(Bx2 (Cu0 h12 hlen hall).1).mono fun f hf=> ?_
   rw[<-e]at hf;rw[hf,sb];simp only;rw[lcm_pos,lcm_pos];unfold tbB;cases (Z8 1 (Cc3 (unM y))).isSome<;>rfl) y.Owner.length 0 (by omega) fun s hs=>absurd hs (by omega)
  have hF:Ev fun f=>F62 f y=some b:=(hE.and (Ev.ge 20)).mono fun f hf=>by
   unfold F62;rw[length_map,length_map,dF_ (show¬(y.Owner.length:Int)<1 by omega),dF_ (show¬(y.Owner.length:Int)>12 by omega),hlen];simp only[cond_false,bne_self_eq_false,sb];exact hf.1 f (by have:=hf.2;omega)
  have hiff:b=true↔∃m,okM m/\y=eM m:=by
   rw[hb];constructor
   .rintro ⟨hall,ht⟩
    obtain⟨a1,a2⟩:=Cu0 h12 hlen hall;exact⟨unM y,Ff5 h1 a1 a2 ht,Du9 hlen hall⟩
   .rintro ⟨m,h,e⟩
    rw[e];refine⟨Eg7 h,?_⟩;rw[Fy9];unfold tbB;rw[h.gp,h.gg];rfl
  cases hbv:b with
  |true=>subst hbv;exact .inl ⟨hiff.1 rfl,hF⟩
  |false=>subst hbv;exact .inr ⟨fun h=>(by have:=hiff.2 h;cases this),hF⟩
end
section
def ov(D:Nat)(a:Int):Rat:=Rat.divInt a (D:Int)
theorem Er3{D:Nat}(hD:0<D){a b:Int}(h:ov D a=ov D b):a=b:=by
 unfold ov at h;have:=(Rat.divInt_eq_divInt_iff (by omega) (by omega)).1 h;exact Int.eq_of_mul_eq_mul_right (by omega) this
theorem Cs7{D:Nat}(hD:0<D)(a b:Int):ov D a+ov D b=ov D (a+b):=by
 unfold ov;rw[Rat.divInt_add_divInt _ _ (by omega) (by omega),Rat.divInt_eq_divInt_iff (Int.mul_ne_zero (by omega) (by omega)) (by omega),<-Int.add_mul];rw[Int.mul_assoc]
theorem Er4{D:Nat}(hD:0<D){a b:Int}(h:a<b):ov D a<ov D b:=by
 have h1:0<ov D (b-a):=Cp5 (by omega) (by omega);have h2:=Cs7 hD a (b-a);rw[show a+(b-a)=b by omega]at h2;rw[<-h2];grind
theorem Eh0{D:Nat}(hD:0<D){a b:Int}:ov D a<ov D b↔a<b:=by
 refine⟨fun h=> ?_,Er4 hD⟩;rcases bk_ a b with h1|rfl|h1
 .exact h1
 .exact absurd h (by grind)
 .have:=Er4 hD h1;exact absurd h (by grind)
theorem Er5{D E:Nat}(a b:Int):ov D a*ov E b=ov (D*E) (a*b):=by
 unfold ov;rw[Rat.divInt_mul_divInt];push_cast;rfl
theorem Gk3(D:Nat):ov D 0=0:=by unfold ov;rw[Rat.zero_divInt]
theorem Eg9{D B:Nat}{a:Int}(h:fr D B (ov D a)):a.natAbs<=B*D:=by
 obtain⟨hD,b,e,hb⟩:=h;rw[Er3 hD e];exact hb
theorem Fu2{D B:Nat}{x:Rat}(h:fr D B x):∃a,x=ov D a:=by
 obtain⟨_,a,e,_⟩:=h;exact⟨a,e⟩
theorem Ef9{a:Int}{N L:Nat}(h:a.natAbs<=N)(hN:N<10^L):lt a<=L:=Ac5 (by
 have:((N:Nat):Int)<((10^L:Nat):Int):=by exact_mod_cast hN
 push_cast at this;omega)
theorem Dx3{g B:Nat}{p:Rat}{a:Int}(hp:fr g B p)(e:p=ov g a)(hr:rs p)(hg:lt (g:Int)<=1000000):Ev fun f=>F74 f (T p) (tx (g:Int))=some (tx a):=by
 refine Ev.from_ 2000000011 fun f hf=> ?_
 have hd:=Fu0 hp;have hp0:=p.den_pos;have hdI:((p.den:Nat):Int)∣(g:Int):=Int.natCast_dvd_natCast.2 hd;obtain⟨k,hk⟩:=hd;have hk0:0<k:=by
  rcases c5_ k with h|h
  .subst h;have:=hp.1;omega
  .exact h
 have hq:(g:Int)/(p.den:Int)=(k:Int):=by
  rw[hk];push_cast;exact bp_ _ (by omega)
 have ha:p.num*(k:Int)=a:=by
  refine Er3 hp.1 (Eq.trans ?_ e);unfold ov;rw[hk];push_cast;rw[cx_ (by omega),Rat.num_divInt_den]
 have hlk:lt (k:Int)<=lt (g:Int):=Bb3 (by
  rw[a6_,a6_,hk];exact br_ _ hp0)
 have h1:=hr.1;have h2:=hr.2;unfold F74;rw[At3 hr (by decide) (by omega),sb];dsimp only;rw[Gi4 (by omega) hdI (by omega) (by omega) (by omega),sb,hq];dsimp only;rw[Eg3 (by omega) (by omega) (by omega),sb,ha]
def szI(g D B:Nat):Prop:=0<g/\g<=9999/\0<D/\∃p q,D<=10^p/\B<=10^q/\p+q<=400
theorem Da1{a:Int}{N p L:Nat}(h:a.natAbs<=N)(hN:N<=10^p)(hp:p<L):lt a<=L:=Ef9 h (cc_ hN (Nat.pow_lt_pow_right (by decide) hp))
theorem Dw7{g D B i:Nat}{a:Int}(h:szI g D B)(hi:i<=12)(ha:fr (g*D) (B*i) (ov (g*D) a)):lt a<=1000:=by
 obtain⟨_,g9,_,p,q,hp,hq,hpq⟩:=h;have h2:B*i*(g*D)<=10^q*10^2*(10^4*10^p):=a7_ (a7_ hq (ah_ hi (by decide))) (a7_ (ah_ g9 (by decide)) hp);rw[<-bs_,<-bs_,<-bs_]at h2;exact Da1 (Eg9 ha) h2 (by omega)
theorem Dw8{g D B:Nat}{a:Int}(h:szI g D B)(ha:fr D B (ov D a)):lt a<=1000:=by
 obtain⟨_,g9,_,p,q,hp,hq,hpq⟩:=h;have h2:B*D<=10^q*10^p:=a7_ hq hp;rw[<-bs_]at h2;exact Da1 (Eg9 ha) h2 (by omega)
theorem Dw9{g D B:Nat}(h:szI g D B):lt (D:Int)<=1000:=by
 obtain⟨_,g9,_,p,q,hp,hq,hpq⟩:=h;exact Da1 (Nat.le_of_eq (a6_ D)) hp (by omega)
theorem lt9{a:Int}(h:a.natAbs<=9999):lt a<=5:=Da1 h (show 9999<=10^4 by decide) (by decide)
theorem Fh9{g D B:Nat}(h:szI g D B):szs g D B:=by
 obtain⟨g0,g9,hD,p,q,hp,hq,hpq⟩:=h;refine⟨g0,hD,4+p,q+2,?_,?_,by omega⟩
 .rw[bs_];exact a7_ (ah_ g9 (by decide)) hp
 .rw[bs_];have:0<10^q:=bz_ (by decide);have e:(10:Nat)^2=100:=by decide
  rw[e];omega
end
section
abbrev ovL(D:Nat)(us:List Int):List Rat:=us.map (ov D)
theorem Fw2{D:Nat}{us:List Int}{i:Nat}(h:i<us.length):(ovL D us).getD i 0=ov D us[i]:=by
 rw[ak_,List.getElem?_map,aa_ h];rfl
section
variable {g D B:Nat} {us:List Int}
theorem Eq4{c:Cho}(hc:okN g us.length c)(hv:∀x∈ovL D us,fr D B x)(hs:szI g D B):
 ∀(l:List (Int×Rat)) (i:Nat) (X:Int),c.next.drop i=l->fr (g*D) (B*i) (ov (g*D) X)->
  ∃N,Fe6 (ovL D us) l (ov (g*D) X)=ov (g*D) N/\Ev fun f=>∀k,l.length<k->Bh0 f (eC c) (us.map tx) (tx (g:Int)) k (tx X) (i:Int)=some (tx N)
 |[],i,X,hd,hx=>⟨X,rfl,Ev.of fun f k hk=>by
  obtain⟨k,rfl⟩:∃j,k=j+1:=⟨k-1,by simp at hk;omega⟩
  have:=drop_nil hd;unfold Bh0;rw[dF_ (by simp[eC];omega)];rfl⟩
 |b::l,i,X,hd,hx=>by
  obtain⟨hi,hb,hd'⟩:=K1 hd;obtain⟨c1,c2⟩:=hc;obtain⟨p1,p2,p3⟩:=c2 b (by rw[<-hb];exact af_ hi);obtain⟨a,ea⟩:=Fu2 p1;have hgD:0<g*D:=bl_ hs.1 hs.2.2.1;have hmem:ov D us[b.1.toNat]∈ovL D us:=bb_ (af_ p3);have hw:=hv _ hmem;have hm:fr (g*D) (B*1) (ov (g*D) (a*us[b.1.toNat])):=by
   have:=Do3 p1 hw;rw[bj_,ea,Er5]at this
   rwa [ch_]
  have hadd:fr (g*D) (B*(i+1)) (ov (g*D) (X+a*us[b.1.toNat])):=by
   have:=Bw3 hx hm
   rwa [<-Nat.mul_add,Cs7 hgD]at this
  obtain⟨N,eN,hN⟩:=Eq4 ⟨c1,c2⟩ hv hs l (i+1) _ hd' hadd;have hg4:lt (g:Int)<=5:=lt9 (by rw[a6_];exact hs.2.1);have h1:=Dw8 hs hw;have h2:=Dw7 hs (i:=i) (by omega) hx;have h3:=Dw7 hs (i:=1) (by omega) hm;have h5:lt a<=5:=by
   have:=p1;rw[ea]at this;have:=Eg9 this;exact lt9 (by have:=hs.2.1;omega)
  refine⟨N,?_,((Dx3 p1 ea ((@Es3 _ _ _ (Fh9 hs) b.2).2.1 p1) (by omega)).and (hN.and (Ev.ge 2000000011))).mono fun f hh k hk=> ?_⟩
  .rw[Fe6,Fw2 p3,ea,Er5,Cs7 hgD];exact eN
  .obtain⟨t1,t2,t3⟩:=hh;obtain⟨k,rfl⟩:∃j,k=j+1:=⟨k-1,by simp at hk;omega⟩
   unfold Bh0;rw[dT_ (by simp[eC];omega)];simp only[cond_true];have hg:C2 (eC c).Next (i:Int)=some (eB b):=by rw[show(eC c).Next=c.next.map eB from rfl,D8 hi,hb]
   have hgt:C2 (us.map tx) (eB b).To=some (tx us[b.1.toNat]):=by
    rw[show(eB b).To=((b.1.toNat:Nat):Int) by show b.1=_;omega,D8 p3]
   refine sbe hg (sbe t1 (sbe hg (sbe hgt (sbe (Eg3 (by omega) (by omega) (by omega)) (sbe (Fr7 (by omega) (by omega) (by omega)) ?_)))));rw[wi i (by have:=c1;omega)];exact t2 k (by simp at hk;omega)
theorem Fe5{c:Cho}(hc:okN g us.length c)(hv:∀x∈ovL D us,fr D B x)(hs:szI g D B):∃N,mix (ovL D us) c=ov (g*D) N/\Ev fun f=>F75 f (eC c) (us.map tx) (tx (g:Int))=some (tx N):=by
 obtain⟨N,h1,h2⟩:=Eq4 hc hv hs c.next 0 0 rfl (by rw[Gk3];exact Aq9 (bl_ hs.1 hs.2.2.1));rw[Gk3]at h1;refine⟨N,h1,(h2.and (Ev.ge 13)).mono fun f h=> ?_⟩;unfold F75;have:=h.1 f (by have:=hc.1;have:=h.2;omega);rw[show tx 0=[48] from rfl]at this;exact this
end
theorem Cj8{own:Int}{E:Nat}(hE:0<E){us:List Int}(hl:us.length<=1000)(hb:∀u∈us,lt u<=10000):
 ∀(r i j:Nat),i+r=us.length->(hj:j<us.length)->∃k,∃hk:k<us.length,Dz4 own ((ovL E us).drop i) i j (ov E us[j])=(ov E us[k],k)/\Ev fun f=>∀q,r<q->Ab6 f own (us.map tx) q (j:Int) (i:Int)=some (tx us[k],(k:Int))
 |0,i,j,hi,hj=>⟨j,hj,by rw[ag_ (by simp;omega)];rfl,Ev.of fun f q hq=>by
  obtain⟨q,rfl⟩:∃j,q=j+1:=⟨q-1,by omega⟩
  unfold Ab6;rw[dF_ (by simp;omega)];simp only[cond_false];exact sbe (D8 hj) rfl⟩
 |r+1,i,j,hi,hj=>by
  have hil:i<us.length:=by omega
  have hcmp:∀f,2000000010<f->F72 f (tx us[i]) (tx us[j])=some (N7 us[i] us[j]):=fun f hf=>Fw8 (by have:=hb _ (af_ hil);omega) (by have:=hb _ (af_ hj);omega) hf
  have hc:(bif own==0 then(bif decide (N7 us[i] us[j]>0) then some true else bif own==1 then some (decide (N7 us[i] us[j]<0)) else some false) else bif own==1 then some (decide (N7 us[i] us[j]<0)) else some false)=some (decide (own=0/\us[j]<us[i]\/own=1/\us[i]<us[j])):=by
   have h1:(decide (N7 us[i] us[j]>0))=decide (us[j]<us[i]):=by
    unfold N7;by_cases h:us[i]<us[j]
    .rw[if_pos h,dF_ (by omega),dF_ (by omega)]
    .rw[if_neg h];by_cases h2:us[j]<us[i]
     .rw[if_pos h2,dT_ (by omega),dT_ h2]
     .rw[if_neg h2,dF_ (by omega),dF_ h2]
   have h2:(decide (N7 us[i] us[j]<0))=decide (us[i]<us[j]):=by
    unfold N7;by_cases h:us[i]<us[j]
    .rw[if_pos h,dT_ (by omega),dT_ h]
    .rw[if_neg h,dF_ h];by_cases h2:us[j]<us[i]
     .rw[if_pos h2];rfl
     .rw[if_neg h2];rfl
   rw[h1,h2];by_cases o0:own=0
   .subst o0;by_cases h:us[j]<us[i]<;>simp[h]
   .by_cases o1:own=1
    .subst o1;by_cases h:us[i]<us[j]<;>simp[h]
    .rw[beq_false_of_ne o0,beq_false_of_ne o1];simp[o0,o1]
  have step:∀f q,2000000010<f->Ab6 f own (us.map tx) (q+1) (j:Int) (i:Int)=bif decide (own=0/\us[j]<us[i]\/own=1/\us[i]<us[j]) then Ab6 f own (us.map tx) q (i:Int) ((i+1:Nat):Int) else Ab6 f own (us.map tx) q (j:Int) ((i+1:Nat):Int):=fun f q hf=>by
   conv=>lhs;unfold Ab6
   rw[dT_ (by simp;omega)];simp only[cond_true];refine sbe (D8 hil) (sbe (D8 hj) (sbe (hcmp f hf) (sbe hc ?_)));unfold Bs6;rw[wi i (by omega)]
  have hdr:(ovL E us).drop i=ov E us[i]::(ovL E us).drop (i+1):=by
   rw[ai_ (by simp;omega),List.getElem_map]
  rw[hdr,Dz4];by_cases hx:own=0/\us[j]<us[i]\/own=1/\us[i]<us[j]
  .obtain⟨k,hk,e1,e2⟩:=Cj8 hE hl hb r (i+1) i (by omega) hil;refine⟨k,hk,?_,(e2.and (Ev.ge 2000000011)).mono fun f hh q hq=> ?_⟩
   .rw[if_pos (by rw[Eh0 hE,Eh0 hE];exact hx)];exact e1
   .obtain⟨q,rfl⟩:∃j,q=j+1:=⟨q-1,by omega⟩
    rw[step f q (by omega),dT_ hx];exact hh.1 q (by omega)
  .obtain⟨k,hk,e1,e2⟩:=Cj8 hE hl hb r (i+1) j (by omega) hj;refine⟨k,hk,?_,(e2.and (Ev.ge 2000000011)).mono fun f hh q hq=> ?_⟩
   .rw[if_neg (by rw[Eh0 hE,Eh0 hE];exact hx)];exact e1
   .obtain⟨q,rfl⟩:∃j,q=j+1:=⟨q-1,by omega⟩
    rw[step f q (by omega),dF_ hx];exact hh.1 q (by omega)
theorem Eh1{own:Int}{E:Nat}(hE:0<E){us:List Int}(hl:us.length<=1000)(h0:us≠[])(hb:∀u∈us,lt u<=10000):∃k,∃hk:k<us.length,bst own (ovL E us)=(ov E us[k],k)/\Ev fun f=>F76 f own (us.map tx)=some (tx us[k],(k:Int)):=by
 have h1:0<us.length:=as_.2 h0;obtain⟨k,hk,e1,e2⟩:=Cj8 (own:=own) hE hl hb (us.length-1) 1 0 (by omega) h1;refine⟨k,hk,?_,(e2.and (Ev.ge 2000)).mono fun f hh=> ?_⟩
 .cases us with
  |nil=>exact absurd rfl h0
  |cons u us=>exact e1
 .unfold F76;exact hh.1 f (by omega)
theorem Gj7{x i:Nat}(hx:x<18446744073709551616)(hi:i<64):F36 (x:Int) (i:Int)=some (x.testBit i):=by
 unfold F36;rw[D1 (dT_ (by omega)),En0 hx hi];cases x.testBit i<;>rfl
theorem Dq9{α:Type}{p:α->Int->Prop}{q:α->Int->Nat->Prop}:∀(l:List α),(∀x∈l,∃n,p x n/\Ev (q x n))->∃ns:List Int,ns.length=l.length/\(∀(i:Nat) (h:i<l.length) (h2:i<ns.length),p l[i] ns[i])/\Ev fun f=>∀(i:Nat) (h:i<l.length) (h2:i<ns.length),q l[i] ns[i] f
 |[],_=>⟨[],rfl,fun i h=>absurd h (by simp),Ev.of fun f i h=>absurd h (by simp)⟩
 |x::l,h=>by
  obtain⟨n,p1,q1⟩:=h x ab_;obtain⟨ns,e,p2,q2⟩:=Dq9 l fun y hy=>h y (mem_cons_of_mem _ hy)
  refine⟨n::ns,by simp[e],fun i h h2=> ?_,(q1.and q2).mono fun f hh i h h2=> ?_⟩
  .cases i with
   |zero=>exact p1
   |succ i=>exact p2 i (by simpa using h) (by simpa using h2)
  .cases i with
   |zero=>exact hh.1
   |succ i=>exact hh.2 i (by simpa using h) (by simpa using h2)
end
section
section
variable {m:Mdl} {g D B tg:Nat} {us:List Int}
end
section
variable {m:Mdl} {tg:Nat}
def Ba2(tg s:Nat):Int:=if tg.testBit s then 1 else 0
theorem Bw1(h12:m.own.length<=12)(ht:tg<18446744073709551616):∀(r s k:Nat),s+r=m.own.length->r<k->As4 (eM m) (tg:Int) k (s:Int) (((List.range s).map (Ba2 tg)).map tx)=some (((List.range m.own.length).map (Ba2 tg)).map tx)
 |0,s,k,hs,hk=>by
  obtain⟨k,rfl⟩:∃j,k=j+1:=⟨k-1,by omega⟩
  unfold As4;rw[show(eM m).Owner=m.own from rfl,dF_ (by rw[length_map];omega),show s=m.own.length by omega];rfl
 |r+1,s,k,hs,hk=>by
  obtain⟨k,rfl⟩:∃j,k=j+1:=⟨k-1,by omega⟩
  have ih:=Bw1 h12 ht r (s+1) k (by omega) (by omega);rw[List.range_succ,List.map_append,List.map_append]at ih;unfold As4;rw[show(eM m).Owner=m.own from rfl,dT_ (by rw[length_map];omega)];simp only[cond_true];rw[Gj7 ht (by omega),sb];unfold Bs2;rw[wi s (by omega)];cases hb:tg.testBit s with
  |true=>
   simp only[cond_true];rw[Q4 (by simp;omega),sb];rw[show[s].map (Ba2 tg)=[1] by simp[Ba2,hb],show[(1:Int)].map tx=[[49]] by rw[List.map_singleton,tx1]]at ih;exact ih
  |false=>
   simp only[cond_false];rw[Q4 (by simp;omega),sb];rw[show[s].map (Ba2 tg)=[0] by simp[Ba2,hb],show[(0:Int)].map tx=[[48]] from rfl]at ih;exact ih
theorem Fc8(h12:m.own.length<=12)(ht:tg<18446744073709551616){f:Nat}(hf:13<=f):F65 f (eM m) (tg:Int)=some (((List.range m.own.length).map (Ba2 tg)).map tx):=by
 unfold F65;exact Bw1 h12 ht m.own.length 0 f (by omega) (by omega)
theorem Cs8{us:List Int}{D:Nat}(hD:0<D)(hl:us.length<=1000)(hb:∀u∈us,lt u<=10000)(hd:lt (D:Int)<=10000){f:Nat}(hf:2000000010+D<f):∀(r i k:Nat),i+r=us.length->r<k->Bg8 f (us.map tx) (tx (D:Int)) k (i:Int) (((ovL D us).take i).map T)=some ((ovL D us).map T)
 |0,i,k,hi,hk=>by
  obtain⟨k,rfl⟩:∃j,k=j+1:=⟨k-1,by omega⟩
  unfold Bg8;rw[dF_ (by simp;omega),ap_ (by simp;omega)];rfl
 |r+1,i,k,hi,hk=>by
  obtain⟨k,rfl⟩:∃j,k=j+1:=⟨k-1,by omega⟩
  have hil:i<us.length:=by omega
  unfold Bg8;rw[dT_ (by simp;omega)];simp only[cond_true];rw[show C2 (us.map tx) (i:Int)=some (tx us[i]) from D8 hil,sb,Fe3 (by omega) (by have:=hb _ (af_ hil);omega) (by omega) (by rw[a6_];omega),sb,Q4 (by simp;omega),sb,wi i (by omega)];have ih:=Cs8 hD hl hb hd hf r (i+1) k (by omega) (by omega);rw[take_add_one,List.getElem?_map,aa_ hil,List.map_append]at ih;exact ih
theorem Fw3{us:List Int}{D:Nat}(hD:0<D)(hl:us.length<=1000)(hb:∀u∈us,lt u<=10000)(hd:lt (D:Int)<=10000){f:Nat}(hf:2000000010+D<f):F68 f (us.map tx) (tx (D:Int))=some ((ovL D us).map T):=by
 unfold F68;exact Cs8 hD hl hb hd hf us.length 0 f (by omega) (by omega)
end
section
variable {m:Mdl} {tg:Nat}
theorem Gw8(h:okM m):∀l∈m.ch,l.length<=4:=fun l hl=>(h.cl l hl).2
theorem Gk1(h:okM m):Gd1 m:=⟨h.n12,h.len,h.cl,fun l hl c hc=>by
 have hm:=bg_.2 ⟨l,hl,hc⟩;exact⟨h.ac c hm,h.ga c hm,h.br c hm⟩⟩
end
end
section
theorem Fi9:∀k,F19 (k+200)=some true:=fun k=>by kernel_rfl
theorem Fe2{y:A9}(hz:szY y):(∃m,okM m/\y=eM m)\/((¬∃m,okM m/\y=eM m)/\Ev fun f=>F93 f y=some 110):=by
 rcases Dr0 hz with⟨m,h1,h2,_⟩|⟨h1,c,h2⟩
 .exact .inl ⟨m,h1,h2⟩
 .refine .inr ⟨h1,h2.mono fun f hf=> ?_⟩;unfold F93;exact sbe hf rfl
theorem Es0{l:List (List UInt8)}(hl:l.length<=1000):∀(r i k:Nat),i+r=l.length->r<k->Bg2 l l k (i:Int)=some true
 |_,_,0,_,h=>absurd h (by omega)
 |0,i,k+1,hi,_=>by
  unfold Bg2;rw[dF_ (by simp;omega)];rfl
 |r+1,i,k+1,hi,hk=>by
  have hil:i<l.length:=by omega
  unfold Bg2;rw[dT_ (by simp;omega)];simp only[cond_true];refine sbe (C3 hil) (sbe (C3 hil) ?_);simp only[beq_self_eq_true,Bool.not_true,cond_false];rw[wi i (by omega)];exact Es0 hl r (i+1) k (by omega) (by omega)
theorem Fh4{l:List (List UInt8)}{f:Nat}(hl:l.length<=1000)(hf:1000<f):F25 f l l=some true:=by
 unfold F25;simp only[bne_self_eq_false,cond_false];exact Es0 hl l.length 0 f (by omega) (by omega)
section
variable {m:Mdl}
theorem Eh9(h:okM m):Ev fun f=>F62 f (eM m)=some true:=by
 rcases Ct8 (Cj2 h) with⟨_,hE⟩|⟨h1,_⟩
 .exact hE
 .exact absurd ⟨m,h,rfl⟩ h1
theorem Cp8(h:okM m){tg:Nat}{n:Int}(ht:tg<18446744073709551616):Ev fun f=>F23 f (eM m) (tg:Int) n=some (if tg<2^m.own.length/\0<=n/\n<=60 then 0 else 2):=by
 have h12:=h.n12;refine(Eh9 h).mono fun f hf=> ?_
 unfold F23;refine sbe hf ?_;simp only[Bool.not_true,cond_false];have hW:F22 (eM m)=some ((2^m.own.length-1:Nat):Int):=by
  unfold F22;rw[length_map,show(eM m).Owner=m.own from rfl,D1 (dT_ (by omega)),Do5 (by omega)]
 by_cases hc:tg<2^m.own.length/\0<=n/\n<=60
 .rw[if_pos hc];refine sbe (x:=false) (sbe hW ?_) rfl;rw[Fh5,(Bd2 (by omega) ht).2 hc.1];simp only[show((0:Int) !=0)=false from rfl,cond_false];rw[dF_ (by omega),dF_ (by omega)];rfl
 .rw[if_neg hc];refine sbe (x:=true) (sbe hW ?_) rfl;rw[Fh5];by_cases h1:tg<2^m.own.length
  .rw[(Bd2 (by omega) ht).2 h1];simp only[show((0:Int) !=0)=false from rfl,cond_false];by_cases h2:n<0
   .rw[dT_ h2];rfl
   .rw[dF_ h2,dT_ (by omega)];rfl
  .rw[show(((sd tg (2^m.own.length-1):Nat):Int) !=0)=true by
    rw[bne_iff_ne];exact fun e=>h1 ((Bd2 (by omega) ht).1 e)]
   rfl
end
end
end Go.Proofs.YtfgbhfphjmmiaaaGreatDoor
end
