/- StepsFollow holds: whatever the input, the call returns true, and what came in reads as it did. No condition. -/
import Derived.Test.YtfgbhfphjmmiaaaGreatDoorRows
import Derived.Test.YtfgbhfphjmmiaaaGreatDoorTie
import Derived.Test.YtfgbhfphjmmiaaaGreatDoorCards
import Derived.WalkKit
import Derived.ShutString
import Derived.ChangeOld
import Derived.Test.YtfgbhfphjmmiaaaGreatDoorFof
section
namespace Go.Proofs.YtfgbhfphjmmiaaaGreatDoor.stepsFollow
open Go.ChangeShapes Go.WideShapes Go.ChangeAt Go.RowKit Kx
open Go.ChangeMaps (open_string shut_string)
set_option linter.unusedVariables false
set_option maxRecDepth 100000
def wf5(x:Int):Prop:=(Lit.int .u8 x).wf=true
theorem dec5{n:Nat}{ds:List Dat}(h:Fit Tryz.prog (n+1) 5 ds):∃x:Int,ds=[.int .u8 x]∧wf5 x:=by
 exact Fit_int Tryz.underlying5 h
def wf115(x:A_a3u8):Prop:=wf5 x.a0∧wf5 x.a1∧wf5 x.a2
theorem dec115{n:Nat}{ds:List Dat}(h:Fit Tryz.prog (n+2) 115 ds):∃x:A_a3u8,ds=[.int .u8 x.a0,.int .u8 x.a1,.int .u8 x.a2]∧wf115 x:=by
 have h0:=Fit_array Tryz.underlying115 h
 obtain⟨_,r0,rfl,g0,h1⟩:=h0
 obtain⟨x0,rfl,w0⟩:=dec5 (n:=n+0) g0
 obtain⟨_,r1,rfl,g1,h2⟩:=h1
 obtain⟨x1,rfl,w1⟩:=dec5 (n:=n+0) g1
 obtain⟨_,r2,rfl,g2,h3⟩:=h2
 obtain⟨x2,rfl,w2⟩:=dec5 (n:=n+0) g2
 cases (show r2=[] from h3)
 exact⟨⟨x0,x1,x2⟩,rfl,⟨w0,w1,w2⟩⟩
def wf116(x:A_a2u8):Prop:=wf5 x.a0∧wf5 x.a1
theorem dec116{n:Nat}{ds:List Dat}(h:Fit Tryz.prog (n+2) 116 ds):∃x:A_a2u8,ds=[.int .u8 x.a0,.int .u8 x.a1]∧wf116 x:=by
 have h0:=Fit_array Tryz.underlying116 h
 obtain⟨_,r0,rfl,g0,h1⟩:=h0
 obtain⟨x0,rfl,w0⟩:=dec5 (n:=n+0) g0
 obtain⟨_,r1,rfl,g1,h2⟩:=h1
 obtain⟨x1,rfl,w1⟩:=dec5 (n:=n+0) g1
 cases (show r1=[] from h2)
 exact⟨⟨x0,x1⟩,rfl,⟨w0,w1⟩⟩
def wf118(x:T_croupierref11_Pick):Prop:=wf5 x.State∧wf5 x.Act∧wf5 x.Gain∧wf115 x.To∧wf116 x.Part
theorem dec118{n:Nat}{ds:List Dat}(h:Fit Tryz.prog (n+3) 118 ds):∃x:T_croupierref11_Pick,ds=[.int .u8 x.State,.int .u8 x.Act,.int .u8 x.Gain,.int .u8 x.To.a0,.int .u8 x.To.a1,.int .u8 x.To.a2,.int .u8 x.Part.a0,.int .u8 x.Part.a1]∧wf118 x:=by
 have h0:=Fit_struct Tryz.underlying118 h
 obtain⟨_,r0,rfl,g0,h1⟩:=h0
 obtain⟨x0,rfl,w0⟩:=dec5 (n:=n+1) g0
 obtain⟨_,r1,rfl,g1,h2⟩:=h1
 obtain⟨x1,rfl,w1⟩:=dec5 (n:=n+1) g1
 obtain⟨_,r2,rfl,g2,h3⟩:=h2
 obtain⟨x2,rfl,w2⟩:=dec5 (n:=n+1) g2
 obtain⟨_,r3,rfl,g3,h4⟩:=h3
 obtain⟨x3,rfl,w3⟩:=dec115 (n:=n+0) g3
 obtain⟨_,r4,rfl,g4,h5⟩:=h4
 obtain⟨x4,rfl,w4⟩:=dec116 (n:=n+0) g4
 cases (show r4=[] from h5)
 exact⟨⟨x0,x1,x2,x3,x4⟩,rfl,⟨w0,w1,w2,w3,w4⟩⟩
def wf51(x:List T_croupierref11_Pick):Prop:=x.length≤maxLen∧∀y∈x,wf118 y
theorem dec51{n:Nat}{ds:List Dat}(h:Fit Tryz.prog (n+4) 51 ds):∃x:List T_croupierref11_Pick,ds=[.sl 8 (x.map e_T_croupierref11_Pick)]∧wf51 x:=by
 obtain⟨es,rfl,hl,he⟩:=Fit_slice Tryz.underlying51 (sz:=8) (by kernel_rfl) h
 obtain⟨l,rfl,hq⟩:=Fit_list (en:=e_T_croupierref11_Pick) (Q:=wf118) (fun x hx=>dec118 hx) es he
 exact⟨l,rfl,by simpa using hl,hq⟩
def wf53(x:T_croupierref11_Draft):Prop:=wf5 x.States∧wf5 x.Owners∧wf5 x.Grain∧wf5 x.Cents∧wf51 x.Picks
theorem dec53{n:Nat}{ds:List Dat}(h:Fit Tryz.prog (n+5) 53 ds):∃x:T_croupierref11_Draft,ds=[.int .u8 x.States,.int .u8 x.Owners,.int .u8 x.Grain,.int .u8 x.Cents,.sl 8 (x.Picks.map e_T_croupierref11_Pick)]∧wf53 x:=by
 have h0:=Fit_struct Tryz.underlying53 h
 obtain⟨_,r0,rfl,g0,h1⟩:=h0
 obtain⟨x0,rfl,w0⟩:=dec5 (n:=n+3) g0
 obtain⟨_,r1,rfl,g1,h2⟩:=h1
 obtain⟨x1,rfl,w1⟩:=dec5 (n:=n+3) g1
 obtain⟨_,r2,rfl,g2,h3⟩:=h2
 obtain⟨x2,rfl,w2⟩:=dec5 (n:=n+3) g2
 obtain⟨_,r3,rfl,g3,h4⟩:=h3
 obtain⟨x3,rfl,w3⟩:=dec5 (n:=n+3) g3
 obtain⟨_,r4,rfl,g4,h5⟩:=h4
 obtain⟨x4,rfl,w4⟩:=dec51 (n:=n+0) g4
 cases (show r4=[] from h5)
 exact⟨⟨x0,x1,x2,x3,x4⟩,rfl,⟨w0,w1,w2,w3,w4⟩⟩
def wf69(x:Int):Prop:=(Lit.int .u16 x).wf=true
theorem dec69{n:Nat}{ds:List Dat}(h:Fit Tryz.prog (n+1) 69 ds):∃x:Int,ds=[.int .u16 x]∧wf69 x:=by
 exact Fit_int Tryz.underlying69 h
theorem okD_of{d:T_croupierref11_Draft}(h:wf53 d):okDraft d:=
 ⟨b_u8 h.1,b_u8 h.2.1,b_u8 h.2.2.1,b_u8 h.2.2.2.1,fun p hp=>by
  obtain⟨h1,h2,h3,⟨h4,h5,h6⟩,h7,h8⟩:=h.2.2.2.2.2 p hp
  exact⟨b_u8 h1,b_u8 h2,b_u8 h3,b_u8 h4,b_u8 h5,b_u8 h6,b_u8 h7,b_u8 h8⟩⟩
theorem law(x0:T_croupierref11_Draft)(x1 x2:Int)(h0:wf53 x0)(h1:wf69 x1)(h2:wf5 x2):∃fuel,F7 fuel x0 x1 x2=some true:=
 law21Follow (okD_of h0) (b_u16 h1).1 (b_u16 h1).2 (b_u8 h2).1
theorem own:ownKnob Tryz.prog.godebug=none:=by kernel_rfl
theorem laidOut:laidOutB Tryz.prog=true:=by kernel_rfl
theorem glok{W:World}(h0:laidMetH Tryz.prog Rows.stepsFollowRow.laid W)(hs:W.ShapedOpen Tryz.prog):GlA (HeapM W) W:=by
 have h:laidMet Tryz.prog Rows.stepsFollowRow.laid W:=by
  rw[MakeChecks.laidMetH_plain _ _ _ (by kernel_rfl)]at h0
  exact h0
 have all:∀n cs,gl n=some cs→(∃us,Cells (HeapM W) n 0 us∧RelDs (HeapM W) cs us)∧∃c e z,W.heap[n]? =some (.cells c e z)∧c.size=cs.length:=fun n cs e=>by
  refine glIn_all (Q:=fun n cs=>(∃us,Cells (HeapM W) n 0 us∧RelDs (HeapM W) cs us)∧∃c e z,W.heap[n]? =some (.cells c e z)∧c.size=cs.length) ?_ e
  show _∧_∧_∧_∧_∧True
  exact⟨gl_arr h 0 (g:=4) (t:=338) (e:=5) rfl (by kernel_rfl) (by kernel_rfl) Tryz.underlying338 (by kernel_rfl) (by kernel_rfl) (by kernel_rfl) (by kernel_rfl),
   gl_arr h 1 (g:=5) (t:=339) (e:=5) rfl (by kernel_rfl) (by kernel_rfl) Tryz.underlying339 (by kernel_rfl) (by kernel_rfl) (by kernel_rfl) (by kernel_rfl),
   gl_arr h 2 (g:=3) (t:=310) (e:=39) rfl (by kernel_rfl) (by kernel_rfl) Tryz.underlying310 (by kernel_rfl) (by kernel_rfl) (by kernel_rfl) (by kernel_rfl),
   gl_one h 4 (g:=1) (t:=203) rfl (by kernel_rfl) (by kernel_rfl) (by kernel_rfl) rfl,
   gl_one h 3 (g:=2) (t:=203) rfl (by kernel_rfl) (by kernel_rfl) (by kernel_rfl) rfl,
   trivial⟩
 refine⟨⟨fun n cs e=>(all n cs e).1,fun n k e=> ?_⟩,fun n cs e=>(all n cs e).2⟩
 ·simp only[gxT,List.mem_cons,List.mem_nil_iff,or_false,Prod.mk.injEq]at e
  obtain⟨rfl,rfl⟩:=e
  exact gl_x hs (zero:= #[.int .i64 0]) (t:=3) (of_decide_eq_true (by kernel_rfl)) (by kernel_rfl) (by kernel_rfl) (by kernel_rfl) Tryz.underlying3 (by kernel_rfl)
theorem lifted(os:Os)(started:os.Started)(H:Type)(enc:TypeId×Value→H):
 ReturnsInHanded {} Tryz.checked os 7 .any (fun w args=>(Rows.stepsFollowSpec.pre enc Tryz.prog Tryz.f7 Rows.stepsFollowRow.domain false w args∧laidMetH Tryz.prog Rows.stepsFollowRow.laid w)∧sizedMet enc Tryz.prog Tryz.f7 (OpenSpec.ofChange Rows.stepsFollowSpec) false w args)
  (Rows.stepsFollowSpec.post enc Tryz.prog Tryz.f7 false true false false):=by
 refine returns_of_change_open (C:=Tryz.checked) (X:=fun w _=>laidMetH Tryz.prog Rows.stepsFollowRow.laid w) (fun _ _ _ hh h=>h.of_heap hh) own started (by kernel_rfl) Tryz.func7
  (ChangeSpec.witness_shaped (enc:=enc) (C:=Tryz.checked) (os:=os) (X:=fun w _=>laidMetH Tryz.prog Rows.stepsFollowRow.laid w) false (World.laidAll Tryz.prog os Rows.stepsFollowRow.laid) #[.agg #[.int .u8 0,.int .u8 0,.int .u8 0,.int .u8 0,.slice none 0 0],.int .u16 0,.int .u8 0] 8 (World.laidAll_os _ _ _)
   (World.shaped_of_ZipB (by kernel_rfl) (by kernel_rfl)) (by kernel_rfl) (by kernel_rfl) (by kernel_rfl)
   (by rw[MakeChecks.laidMetH_plain _ _ _ (by kernel_rfl)];exact laidMet_laidAll _ (by kernel_rfl) (by kernel_rfl))) ?_
 intro W base args ds gs before hval0 hW hcnd hlaid hshape
 have hgl:GlA (HeapM W) W:=glok hlaid hshape
 have hval:∀(j:Nat) t v,Tryz.f7.params[j]? =some t→args[j]? =some v→Value.okWide Tryz.prog W .any base t v:=hval0
 have hW':=hW
 obtain⟨p,q,hA0,hV,rfl,hfz,hnd⟩:=hW
 have hA:DataW.TrodAll enc Tryz.prog W 0 (fun _=>true) true Tryz.f7.params.toList args.toList ds p:=hA0
 rw[Tryz.params7]at hA hval
 obtain⟨v0,vs0,d0,ds0,p0,q0,hargs,rfl,rfl,h0,r0⟩:=trodAll_cons hA
 obtain⟨v1,vs1,d1,ds1,p1,q1,rfl,rfl,rfl,h1,r1⟩:=trodAll_cons r0
 obtain⟨v2,vs2,d2,ds2,p2,q2,rfl,rfl,rfl,h2,r2⟩:=trodAll_cons r1
 obtain⟨rfl,rfl,rfl⟩:=trodAll_nil r2
 obtain rfl:args= #[v0,v1,v2]:=by cases args;simp_all
 obtain⟨rfl,rfl⟩:=trodVars_none hV
 have k0:=h0
 have lt0:∀x∈p0,x.block<W.heap.size:=by obtain⟨m,hm⟩:=k0;exact DataW.trod_lt m _ _ _ hm
 obtain⟨c0,rfl⟩:=okAggS Tryz.underlying53 (hval 0 53 v0 rfl rfl)
 obtain⟨m0,hm0⟩:=k0
 obtain⟨ds0,hr0,hf0⟩:=trod_rel 5 53 m0 _ _ (by kernel_rfl) hm0
 obtain⟨x0,rfl,wf0_⟩:=dec53 (n:=0) hf0
 have rel0:RelV (HeapM W) noR (.agg (dV [.int .u8 x0.States,.int .u8 x0.Owners,.int .u8 x0.Grain,.int .u8 x0.Cents,.sl 8 (x0.Picks.map e_T_croupierref11_Pick)])) _:=relV_agg' hr0
 have k1:=h1
 have lt1:∀x∈p1,x.block<W.heap.size:=by obtain⟨m,hm⟩:=k1;exact DataW.trod_lt m _ _ _ hm
 obtain⟨a1,rfl,rfl,rfl,w1⟩:=open_int Tryz.underlying69 (hval 1 69 v1 rfl rfl) h1
 obtain⟨m1,hm1⟩:=k1
 obtain⟨ds1,hr1,hf1⟩:=trod_rel 1 69 m1 _ _ (by kernel_rfl) hm1
 obtain⟨x1,rfl,wf1_⟩:=dec69 (n:=0) hf1
 have rel1:RelV (HeapM W) noR (.d (.int .u16 x1)) _:=relV_one hr1
 have k2:=h2
 have lt2:∀x∈p2,x.block<W.heap.size:=by obtain⟨m,hm⟩:=k2;exact DataW.trod_lt m _ _ _ hm
 obtain⟨a2,rfl,rfl,rfl,w2⟩:=open_int Tryz.underlying5 (hval 2 5 v2 rfl rfl) h2
 obtain⟨m2,hm2⟩:=k2
 obtain⟨ds2,hr2,hf2⟩:=trod_rel 1 5 m2 _ _ (by kernel_rfl) hm2
 obtain⟨x2,rfl,wf2_⟩:=dec5 (n:=0) hf2
 have rel2:RelV (HeapM W) noR (.d (.int .u8 x2)) _:=relV_one hr2
 obtain⟨fuel,hF⟩:=law x0 x1 x2 wf0_ wf1_ wf2_
 clear hA0 hval0
 refine(F7_ok hF (HeapM W) W [_,_,_] (HeapM_sits W) hgl (by simp only[RelVs];exact⟨_,_,rfl,rel0,⟨_,_,rfl,rel1,⟨_,_,rfl,rel2,rfl⟩⟩⟩)).mono fun e W' hE=> ?_
 obtain⟨u,M',rfl,hext,hv⟩:=hE
 have bel:=hext.below
 have hv:=relV_d hv
 cases hv
 exact⟨_,rfl,_,_,_,[],_,[],hW',trodAll_mk1 (shut_bool Tryz.underlying4 _),(trodAll_cons_mk (Below.trod laidOut (by kernel_rfl) (of_decide_eq_true (by kernel_rfl)) ⟨_,hm0⟩ bel lt0) (trodAll_cons_mk (Below.trod laidOut (by kernel_rfl) (of_decide_eq_true (by kernel_rfl)) ⟨_,hm1⟩ bel lt1) (trodAll_cons_mk (Below.trod laidOut (by kernel_rfl) (of_decide_eq_true (by kernel_rfl)) ⟨_,hm2⟩ bel lt2) trodAll_mk0))),rfl,bel.frame _,fun h=>by cases h⟩
theorem over:Rows.stepsFollowRow.holds Tryz.pinned (OpenSpec.ofChange Rows.stepsFollowSpec):=
 OpenClaim.holds_of_wide 7 Tryz.f7 rfl rfl rfl rfl rfl rfl rfl ⟨rfl,rfl,rfl,rfl,rfl⟩ rfl rfl rfl rfl rfl (by kernel_rfl) Tryz.func7 (by kernel_rfl)
  (of_decide_eq_true (by kernel_rfl)) (by unfold Func.isWrapper;first|(rw[if_pos (by decide+kernel)];kernel_rfl)|(rw[if_neg (by decide+kernel)];exact⟨rfl,rfl⟩))
  (fun os started H enc _=>lifted os started H enc)
theorem proved:Rows.StepsFollowCardSaid:=
 Claim7.holds_tied_plain_at .later [] [.data,.data,.data,.sentinel,.sentinel] true (true, "502f4c70369b75b0d817dcaec3831be972de460fbc89e4c07d93a27f2ee98cfe") true over (fun _ h=>by cases h) (by kernel_rfl) (fun _ h=>by cases h) stepsFollow_row_tie rfl ⟨rfl,rfl⟩ (by kernel_rfl) rfl
  (fun f fn hf hfn=>by
   obtain rfl:f=7:=Option.some.inj ((show Tryz.prog.funcNamed "croupier/croupierlaw21.StepsFollow" =some 7 by kernel_rfl).symm.trans hf)|>.symm
   obtain rfl:fn=Tryz.f7:=(Option.some.inj (Tryz.func7.symm.trans hfn)).symm
   exact⟨by kernel_rfl,fun j t ht=>by
    rw[Tryz.params7]at ht
    have hm:t∈[53,69,5]:=by simpa using Array.mem_of_getElem? ht
    have hall:([53,69,5].all fun u=> !Tryz.prog.wantsStandIn u)=true:=by kernel_rfl
    exact(show Tryz.prog.wantsStandIn t=false by simpa using List.all_eq_true.1 hall t hm)⟩)
  (by kernel_rfl)
#print axioms proved
end Go.Proofs.YtfgbhfphjmmiaaaGreatDoor.stepsFollow
end
