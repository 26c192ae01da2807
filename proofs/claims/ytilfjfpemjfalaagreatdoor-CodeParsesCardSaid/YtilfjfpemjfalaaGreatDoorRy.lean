/- Functions that are ranged over: the statement. -/
import Derived.Test.YtilfjfpemjfalaaGreatDoorRx
namespace Go.Proofs.YtilfjfpemjfalaaGreatDoor.Kx
open Go Go.RowKit

theorem RelVs.split {M : Mem} {ρ : Rho} : ∀ {us vs : List Value} {xs : List V}, RelVs M ρ xs (us ++ vs) → RelVs M ρ (xs.take us.length) us ∧ RelVs M ρ (xs.drop us.length) vs
  | us, vs, xs, h => by
    have h1 := RelVs.take us.length h
    have h2 := RelVs.drop us.length h
    simp at h1 h2
    exact ⟨h1, h2⟩
def xsOf (c : Cfg) (vs : List V) : Option (List V) := match argsOf (obGet c.ob) vs with | some (xs, _) => some xs | none => none
def obR (c : Cfg) (vs : List V) : List (Nat × IObj) := match argsOf (obGet c.ob) vs with | some (_, wr) => obWr c.ob wr | none => c.ob
/-- A variable that will not be written again. -/
theorem J_frz {r : Option Nat} {P : Program} {N : Nat} {ds : List Deferred} {fin : Fin} {c : Cfg} (q : Nat) {te : TypeId} (cs : List V) (hq : obGet c.ob q = some (.box te cs)) (hx : (xsOf c [.ptr q 0]).isSome = true) (hk : J r P N ds fin ⟨c.sl, obR c [.ptr q 0], c.td⟩) : J r P N ds fin c := by
  refine ⟨hk.1, fun S wl M0 hH M ρ f w ha => ?_⟩
  obtain ⟨i, hi, hf, _⟩ := ha.ow.own q _ hq
  have hu : RelVs M ρ [.ptr q 0] [.pointer (some ⟨i.b, 0, none⟩)] := by
    simp only [RelVs, RelV]
    exact ⟨_, _, rfl, ⟨i, hi, hf, rfl⟩, rfl⟩
  cases hx' : argsOf (obGet c.ob) [.ptr q 0] with
  | none => simp [xsOf, hx'] at hx
  | some p =>
    obtain ⟨xs, wr⟩ := p
    obtain ⟨M', r0, o0, _⟩ := argsOf_sound ha.ow hu hx'
    rw [wrO_of] at o0
    have e : obR c [.ptr q 0] = obWr c.ob wr := by unfold obR; rw [hx']
    rw [e] at hk
    exact hk.2 S wl M0 hH M' ρ f w ⟨o0, ha.ok, fun t ht => RelV.mono r0 _ (ha.sl t ht)⟩
/-! ### The statement, entered -/
theorem W_rangeFunc {r : Option Nat} {P : Program} {g : Operand} {ps : Array Tmp} {assign body : Code} {Q : Exit → Act → World → Prop} {a : Act} {w : World}
    (h : ∀ fn, (∃ x, P.funcs[fn]? = some x) → ∃ (l : Nat) (mark : List Deferred) (w₁ : World) (d : Deferred) (w₁' : World) (f : FuncId) (args : Array Value) (w₂ : World),
      (Instr.enterLoop fn a.tmps ps assign body r).run P w = .ok (l, mark) w₁ ∧
      (resolve a.eval (rangeCall g l) 0).run P w₁ = .ok d w₁' ∧
      (invoke d.target d.args).run P w₁' = .ok (.enter f args) w₂ ∧
      CallsIn (WF r) 0 P f args w₂ (fun e w₃ => match e with
        | .returned _ => ∃ jump w₄, (Instr.endLoop l).run P w₃ = .ok jump w₄ ∧ (match jump with | none => Q .normal { a with defers := mark ++ a.defers } w₄ | some c => W r P c Q { a with defers := mark ++ a.defers } w₄)
        | .panicked chain => Q (.panic chain) { a with defers := mark ++ a.defers } w₃
        | .outgrown => False)) :
    W r P (.rangeFunc g ps assign body) Q a w := by
  unfold W
  intro b k cs hro hb
  obtain ⟨l, mark, w₁, d, w₁', f, args, w₂, he, hres, hinv, hF, hcall⟩ := h b.fn hb
  rw [← hro] at he
  have h0 : (lone (b.atR a (.code (.rangeFunc g ps assign body) :: k)) cs w).fenced P (WF r) :=
    fenced_lone (.inl trivial) (fun f' _ => trivial) (WF_room _ _)
  have henter := stepR_rangeFunc (P := P) (b := b) (a := a) (k := k) (cs := cs) (w := w) he hres hinv
  obtain ⟨e, w₃, fr, hR, hsteps, hfn, hleave⟩ := hcall (b.atR { a with defers := mark ++ a.defers } (.inRangeFunc l :: k) :: cs) (WF_room _ _)
  cases e with
  | outgrown => exact hR.elim
  | returned v =>
    have hl : (lone fr (b.atR { a with defers := mark ++ a.defers } (.inRangeFunc l :: k) :: cs) w₃).fenced P (WF r) := fenced_leaving (n := 0) trivial (WF_room _ _) hleave
    obtain ⟨jump, w₄, hend, hj⟩ := hR
    have sback : StepsIn (Machine.fenced P (WF r)) P (lone (b.atR a (.code (.rangeFunc g ps assign body) :: k)) cs w) (lone (b.atR { a with defers := mark ++ a.defers } ((jump.map Item.code).toList ++ k)) cs w₄) := by
      refine .head h0 henter (StepsIn.trans hsteps (.head hl ?_ (.one (WF_calm (fr := b.atR { a with defers := mark ++ a.defers } (.endRangeFunc l :: k)) rfl) (stepR_endRangeFunc hend))))
      rw [← finish_atR_inRangeFunc l v]; exact step_leave_returned hleave
    cases jump with
    | none => exact ⟨.normal, _, w₄, hj, sback⟩
    | some c =>
      obtain ⟨e', a'', w₅, hq, harr⟩ := W_at hj b k cs hro hb
      exact ⟨e', a'', w₅, hq, .of_steps sback harr⟩
  | panicked chain =>
    have hl : (lone fr (b.atR { a with defers := mark ++ a.defers } (.inRangeFunc l :: k) :: cs) w₃).fenced P (WF r) := fenced_leaving (n := 0) trivial (WF_room _ _) hleave
    refine ⟨.panic chain, _, w₃, hR, .inRangeFunc l :: k, .head h0 henter (StepsIn.trans hsteps (.one hl ?_))⟩
    rw [← Frame.raise_atR]; exact step_leave_panicked hleave

/-- What is handed to the function that is ranged over: its own objects, its arguments; and what is kept. -/
def rngOf (N : Nat) (c : Cfg) (p : List (Nat × Nat)) (vs : List V) (keep ids : List Nat) : Option (List (Nat × IObj) × List V × List (Nat × V) × List (Nat × IObj)) := match handOf (obGet c.ob) p vs with
  | some (os, xs, wr) => match pos ids (obGet (obWr c.ob wr)) ids, keptH ids (obWr c.ob wr), noFrn (obWr c.ob wr), disj ids (firsts p), noFrn os, obGet os 2000 with
    | some obs, true, true, true, true, none => some (os, xs, keepS N ids (obGet (obWr c.ob wr)) c.sl keep, obs)
    | _, _, _, _, _, _ => none
  | none => none
def onlyV (K : List Nat) (v : V) : V := match refsIn K v with | true => v | false => .undef
theorem onlyV_undef (K : List Nat) : onlyV K .undef = .undef := by unfold onlyV; split <;> rfl
/-- What is known behind a panic: nothing that is another's; closed; KP is in it. -/
theorem closed_keep {ob3 : List (Nat × IObj)} {ob' : Nat → Option IObj} (hids : ∀ r, memN r (idsOf ob3) = true → ob' r = obGet ob3 r) : keepO (idsOf ob3) (idsOf ob3) ob' = obGet ob3 := funext fun r => by
  cases hm : memN r (idsOf ob3) with
  | true => rw [keepO_in hm hm, hids r hm]
  | false =>
    have : obGet ob3 r = none := by
      cases ho : obGet ob3 r with
      | none => rfl
      | some o => rw [idsOf_mem.2 ⟨o, ho⟩] at hm; cases hm
    simp only [keepO, hm, this]
/-- **A range over a function.** p: the objects that the function is handed; fl: it panics at its end. -/
theorem J_rangeD {P : Program} {N : Nat} {fn0 : Func} {v0 : Option V} {w00 : World} {M00 : Mem} {hr : Rho} {base : List Deferred} {Ds : List Nat} {c : Cfg} {g : Operand} {ps : Array Tmp} {asg bo : Code} {k : List It} {gf : FuncId} {first cap xs : List V} {os : List (Nat × IObj)} {S1 : List (Nat × V)} {ob0 : List (Nat × IObj)} (p : List (Nat × Nat)) (keep ids : List Nat) (yl : List V) {ysAll : List (List V)} {fl : Bool} (K KP : List Nat) (Good : List (List V) → List (Nat × IObj) → Prop) (GoodX : Code → List (Nat × IObj) → Prop) (GoodP : List (Nat × IObj) → Prop)
    (hN : Nat.ble N 1024 = true) (ht : c.td = .code (.rangeFunc g ps asg bo) :: k) (hk : noBeg k = true) (hv : rangeOf N c = some (gf, first, cap)) (hl : allLt N keep = true) (hx : rngOf N c p (first ++ cap) keep ids = some (os, xs, S1, ob0)) (hre : Res' xs yl) (he : entersT P gf)
    (hit : IterC P gf ((2000, .frn 2000) :: os) (yl.take first.length ++ .yl 2000 :: yl.drop first.length) ysAll fl) (hK : allBigL K = true) (hkept : keptH K ob0 = true) (hslots : triRefs K (mkT S1) = true) (hKP : subN KP K = true) (hg0 : Good ysAll ob0) (hnf : ∀ ys ob, Good ys ob → okB K ob = true) (hnfX : ∀ j ob, GoodX j ob → okB K ob = true) (hnfP : ∀ ob, GoodP ob → okB KP ob = true) (hnfP0 : fl = true → ∀ ob, Good [] ob → okB KP ob = true)
    (hfree : obGet ob0 3000 = none ∧ obGet ob0 3001 = none)
    (hJ : ∀ x : Lp, x.as = asg → x.bo = bo → x.ps = ps → ∀ y ys ob, Good (y :: ys) ob → ∃ sl', setPs N (mkT S1) ps.toList y = some sl' ∧ J (some x.L) P N [] (finB x Good GoodX GoodP ys) ⟨sl', rob x .ready none ob, [.code asg, .begR x.L, .code bo]⟩)
    (hdone : fl = false → ∀ D ob, Good [] ob → J none P N (dfsB base (D :: Ds)) (finD P fn0 v0 w00 M00 hr (D :: Ds)) ⟨mkT S1, ob, k⟩)
    (hstop : ∀ D ob j, GoodX j ob → J none P N (dfsB base (D :: Ds)) (finD P fn0 v0 w00 M00 hr (D :: Ds)) ⟨mkT S1, ob, .code j :: k⟩)
    (hdie : fl = true → ∀ D ob, Good [] ob → JP N (dfsB base (D :: Ds)) (finD P fn0 v0 w00 M00 hr (D :: Ds)) (mapTri (onlyV KP) (mkT S1)) ob)
    (hpan : ∀ D ob, GoodP ob → JP N (dfsB base (D :: Ds)) (finD P fn0 v0 w00 M00 hr (D :: Ds)) (mapTri (onlyV KP) (mkT S1)) ob) : J none P N (dfsB base Ds) (finD P fn0 v0 w00 M00 hr Ds) c := by
  have hN := nb_le hN
  unfold rngOf at hx
  split at hx
  case h_2 => cases hx
  rename_i os' xs' wr hh
  split at hx
  case h_2 => cases hx
  rename_i obs hpos hkeptI hnfw hdj hnfos h2000
  cases hx
  refine ⟨hN, fun S wl M0 hH Mo ρo f w hao => ?_⟩
  obtain ⟨g', ps', as', bo', k', ht', hf⟩ := rangeOf_spec hv
  rw [ht] at ht'
  cases ht'
  obtain ⟨fs, cs, hge, hfs, hcs⟩ := hf (ds := dfsB base Ds) hao
  rw [ht]
  simp only [Wk, Exit.then]
  refine W_rangeFunc (fun fn hfn => ?_)
  -- what is handed out
  unfold handOf at hh
  split at hh
  case h_2 => cases hh
  rename_i xs0 wr0 hargs0 hbij hbig
  split at hh
  case h_2 => cases hh
  rename_i hcl
  cases hh
  obtain ⟨M, r0, o1, d1⟩ := argsR_sound hao.ow (hfs.append hcs) hargs0
  have hp := o1.part (firsts p) (firsts p) (fun x o hm hx => closedAll_spec hcl x o hm hx)
  have eR : renR p (keepR (firsts p) ρo) = renR p ρo := by
    funext t
    unfold renR
    split
    · rename_i q hq
      exact keepR_in (memN_firsts.2 ⟨t, bij_of hbij hq⟩)
    · rfl
  have eO : renOb p (keepO (firsts p) (firsts p) (wrO (obGet c.ob) wr)) = renOb p (wrO (obGet c.ob) wr) := by
    funext t
    unfold renOb
    split
    · rename_i q hq
      rw [keepO_in (memN_firsts.2 ⟨t, bij_of hbij hq⟩) (memN_firsts.2 ⟨t, bij_of hbij hq⟩)]
    · rfl
  have hq := hp.ren (r1 := renR p ρo) hbij (fun q o t hq ho => by
    have hm := memN_firsts.2 ⟨t, hq⟩
    rw [keepO_in hm hm] at ho
    have := closedAll_spec hcl q o hm ho
    cases o <;> first | rfl | cases this) (fun t i _ hi => ⟨i, by rw [eR]; exact hi, Ile.refl i⟩)
  rw [eR, eO, ← osOf_eq hbij] at hq
  have hargs := hre.rel (ren_rels hbij _ d1)
  have hlen : fs.length = first.length := hfs.len
  rw [wrO_of] at o1 hq h2000 hnfos hit
  have hosE : obGet (osOf p (obGet (obWr c.ob wr)) p) = renOb p (obGet (obWr c.ob wr)) := osOf_eq hbij _
  -- what is kept
  have o0 := o1.prune (ids := ids) (fun q o hb hq => keptH_spec hkeptI hq hb) hpos
  have hsl : ∀ t, t < N → RelV M (rhoK ids ρo) ((mkT (keepS N ids (obGet (obWr c.ob wr)) c.sl keep)).get 10 t) (f t) := fun t ht => mkT_rel hN _ (fun t v hm => by
    obtain ⟨rfl, h7⟩ := keepS_mem hm
    have hlt := allLt_spec hl t h7
    refine ⟨hlt, pv_rel o1 _ ?_⟩
    have := RelV.mono r0 _ (hao.sl t hlt)
    simp only [evalV, show Nat.blt t N = true by simpa [Nat.blt_eq] using hlt]
    exact this) t ht
  have hTA0 : ∀ b, TA (renR p ρo) (renOb p (obGet (obWr c.ob wr))) b → ¬ TA (rhoK ids ρo) (obGet ob0) b ∧ (S b ∨ wl.heap.size ≤ b) ∧ b < w.heap.size := fun b hb => by
    obtain ⟨q, i, o, hi, ho, hlv, rfl⟩ := hb
    obtain ⟨r', o', h1, h2, rfl⟩ := renOb_some ho
    unfold renR at hi
    rw [h1] at hi
    dsimp only at hi
    rw [renO_live] at hlv
    have hta : TA ρo (obGet (obWr c.ob wr)) i.b := ⟨r', i, o', hi, h2, hlv, rfl⟩
    refine ⟨fun hta' => ?_, TA_mine o1 hta⟩
    obtain ⟨q', i', o2, hi', ho', hl', hbb⟩ := hta'
    obtain ⟨hm', x, hx, hlx⟩ := prune_live hpos ho'
    unfold rhoK at hi'
    rw [hm'] at hi'
    dsimp only at hi'
    cases hρ : ρo q' with
    | none => rw [hρ] at hi'; cases hi'
    | some j =>
      rw [hρ] at hi'
      cases hi'
      have := o1.inj q' r' x o' j i hx h2 hρ hi (hlx j hl') hlv hbb
      subst this
      have := disj_spec hdj _ (memN_spec hm')
      rw [memN_firsts.2 ⟨q, bij_of hbij h1⟩] at this
      cases this
  have ha : Abs S wl M0 M (rhoK ids ρo) N ⟨mkT (keepS N ids (obGet (obWr c.ob wr)) c.sl keep), ob0, []⟩ f w := ⟨o0, mkT_ok _, hsl⟩
  generalize keepS N ids (obGet (obWr c.ob wr)) c.sl keep = S1 at *
  generalize rhoK ids ρo = ρ at *
  have hargs' := hargs.split
  rw [hlen] at hargs'
  -- the record and the deferred block
  let x : Lp := ⟨w.heap.size, w.heap.size + 1, fn, (fr N f []).tmps, ps, asg, bo⟩
  have hdisj : ∀ r, obGet (rob x .ready none ob0) r = updO (updO (obGet ob0) 3000 (.raw x.D (.deferred (some [])))) 3001 (.raw x.L (.loop (recOf x .ready none))) r := fun r => by
    simp only [rob, obGet, updO]
    by_cases e : r = 3001
    · subst e; rfl
    · rw [beq_false e]
      dsimp only
      cases Nat.beq r 3000 <;> rfl
  have hM : ∀ b, w.heap.size ≤ b → M b = none := fun b hb => by
    cases hm : M b with
    | none => rfl
    | some c => exact absurd (ha.ow.sits.lt hm) (by omega)
  let w1 := (w.alloc (.deferred (some []))).alloc (.loop { state := .ready, pending := none, fn, tmps := (fr N f (dfsB base Ds)).tmps, params := ps, assign := asg, body := bo, defers := w.heap.size })
  have hs1 : (w.alloc (.deferred (some []))).heap.size = w.heap.size + 1 := by simp
  obtain ⟨r1, o1'⟩ := ha.ow.alloc (d := 3000) hfree.1 (.deferred (some [])) ⟨w.heap.size, 0, 0, 0, 0, 0, true⟩ (.raw x.D (.deferred (some []))) rfl (fun ρ' _ hm => ⟨rfl, rfl, ⟨.inr ha.ow.size, hm⟩, World.alloc_heap_new _ _⟩)
  obtain ⟨r2, o2⟩ := o1'.alloc (d := 3001) (by rw [updO_ne _ _ (by omega)]; exact hfree.2) (.loop (recOf x .ready none)) ⟨w.heap.size + 1, 0, 0, 0, 0, 0, true⟩ (.raw x.L (.loop (recOf x .ready none))) hs1.symm (fun ρ' _ hm => ⟨rfl, rfl, ⟨.inr (Nat.le_succ_of_le ha.ow.size), by rw [hs1] at hm; exact hm⟩, by show ((w.alloc (.deferred (some []))).alloc (.loop (recOf x .ready none))).heap[w.heap.size + 1]? = some (.loop (recOf x .ready none)); rw [← hs1]; exact World.alloc_heap_new _ _⟩)
  have hob : updO (updO (obGet ob0) 3000 (.raw x.D (.deferred (some [])))) 3001 (.raw x.L (.loop (recOf x .ready none))) = obGet (rob x .ready none ob0) := funext fun r => (hdisj r).symm
  rw [hob] at o2
  have r12 := r1.trans r2
  generalize hρ2 : updO (updO ρ 3000 (⟨w.heap.size, 0, 0, 0, 0, 0, true⟩ : Inf)) 3001 (⟨w.heap.size + 1, 0, 0, 0, 0, 0, true⟩ : Inf) = ρ2 at o2 r12 r2
  have o2 : Ow S wl M0 M ρ2 (obGet (rob x .ready none ob0)) w1 := o2
  have hw1 : ∀ b, b < w.heap.size → w1.heap[b]? = w.heap[b]? := fun b hb => by
    show ((w.alloc (.deferred (some []))).alloc (.loop (recOf x .ready none))).heap[b]? = w.heap[b]?
    rw [Below.heap_alloc _ _ _ (by rw [hs1]; omega), Below.heap_alloc _ _ _ hb]
  -- what is kept of the numbers
  have hbig' : ∀ r i, keepR K ρ r = some i → Nat.ble 2000 r = true := fun r i h => allBigL_spec hK (keepR_some h).1
  have hhr : ∀ r i, hr r = some i → Nat.ble 2000 r = true → ∃ j, keepR K ρ r = some j ∧ Ile i j := fun r i hi hb => by
    obtain ⟨j, h1, h2⟩ := ha.ow.held r i hb (by rw [show S.r0 = hr from hH.1]; exact hi)
    obtain ⟨o, ho⟩ := ha.ow.dom r j h1
    exact ⟨j, by rw [keepR_in (keptH_spec hkept ho hb)]; exact h1, h2⟩
  have hnfr : ∀ (st : LoopState) (pe : Option Code) (ob : List (Nat × IObj)), (∀ q z, obGet ob q ≠ some (.frn z)) → ∀ q z, obGet (rob x st pe ob) q ≠ some (.frn z) := fun st pe ob h q z => by
    simp only [rob, obGet]
    split
    · intro e; cases e
    · split
      · intro e; cases e
      · exact h q z
  -- another table of what was handed in
  have hS : ∀ {r0 r0' : Rho} {M : Mem} {ρ : Rho} {ob : Nat → Option IObj} {w : World}, Ow ⟨S.s, r0⟩ wl M0 M ρ ob w → (∀ q z, ob q ≠ some (.frn z)) → (∀ r i, Nat.ble 2000 r = true → r0' r = some i → ∃ j, ρ r = some j ∧ Ile i j) → Ow ⟨S.s, r0'⟩ wl M0 M ρ ob w := fun {r0 r0' M ρ ob w} h hn hh => by
    refine ⟨h.size, h.os, h.tape, h.output, h.old, h.sits, h.le, h.gl, h.new, fun q o hq => ?_, h.dom, h.inj, hh⟩
    obtain ⟨i, hi, hok⟩ := h.own q o hq
    refine ⟨i, hi, ?_⟩
    cases o with
    | frn z => exact absurd hq (hn q z)
    | box te cs => exact hok
    | buf g e sz es => exact hok
    | fzs g sz es => exact hok
    | fzb cs => exact hok
    | mapo kk ag sz es => exact hok
    | raw b x => exact hok
  have o3 : Ow ⟨S.s, keepR K ρ⟩ wl M0 M ρ2 (obGet (rob x .ready none ob0)) w1 := hS (r0 := S.r0) o2 (hnfr _ _ _ (noFrn_spec (okB_spec (hnf _ _ hg0)).1)) (fun r i hb hi => r12.ext r i (keepR_some hi).2)
  have hR : RoundsOk P (w.heap.size + 1) (CInv x S wl M0 (keepR K ρ) M Good) (CStop x S wl M0 (keepR K ρ) M GoodX) (CPan x S wl M0 (keepR K ρ) M GoodP) :=
    ⟨CInv.it, CStop.it, fun y ys T M w vals h1 h2 h3 h4 => round_of (f := f) (sl := mkT S1) hfn hN rfl ha.ok (fun t ht => refs_rel _ (triRefs_spec 10 (mkT S1) t hslots) (ha.sl t ht)) hbig' (fun ys ob h => noFrn_spec (okB_spec (hnf ys ob h)).1) (hJ x rfl rfl rfl) y ys T M w vals h1 h2 h3 h4⟩
  -- the iterator's own
  let ρq := renR p ρo
  let ρI : Rho := fun r => match Nat.beq r 2000 with | true => some ⟨w.heap.size + 1, 0, 0, 0, 0, 0, true⟩ | false => ρq r
  have hρI : ∀ r, r ≠ 2000 → ρI r = ρq r := fun r e => by simp only [ρI, beq_false e]
  have hq2000 : ρq 2000 = none := by
    cases h : ρq 2000 with
    | none => rfl
    | some i =>
      obtain ⟨o, ho⟩ := hq.dom 2000 i h
      rw [h2000] at ho; cases ho
  have hnfos' := noFrnP hnfos
  have rI : Rle M M ρq ρI := ⟨M.le_refl, fun r i hi => ⟨i, by rw [hρI r (fun e => by rw [e, hq2000] at hi; cases hi)]; exact hi, Ile.refl i⟩⟩
  have hqb := hq.base (w' := w1) (r0 := noR) M.le_refl o2.sits (by show w.heap.size ≤ ((w.alloc (.deferred (some []))).alloc (.loop (recOf x .ready none))).heap.size; rw [World.size_alloc, World.size_alloc]; omega) (fun b hb => ⟨hw1 b (TA_mine hq hb).2, rfl⟩) (fun q i hq' _ => absurd hq' (hnfos' q q)) (fun q z hq' => absurd hq' (hnfos' q z)) (fun _ _ _ h => by cases h) (hq.szw.frame fun k hk _ => hw1 k hk)
  have hI : Ow ⟨TA ρq (obGet (osOf p (obGet (obWr c.ob wr)) p)), ρI⟩ w1 M M ρI (obGet ((2000, .frn 2000) :: osOf p (obGet (obWr c.ob wr)) p)) w1 := by
    refine ⟨Nat.le_refl _, rfl, rfl, rfl, fun _ _ _ => rfl, o2.sits, M.le_refl, hqb.gl, fun _ _ hb _ => .inl hb, fun r o h => ?_, fun r i h => ?_, fun r r' o o' i i' h1 h2 h3 h4 l1 l2 hbb => ?_, fun r i _ hi => ⟨i, hi, Ile.refl i⟩⟩
    · simp only [obGet] at h
      split at h
      · rename_i e
        cases h
        obtain rfl := Nat.eq_of_beq_eq_true e
        exact ⟨_, rfl, rfl⟩
      · rename_i e
        have hne : r ≠ 2000 := fun e' => by subst e'; simp at e
        obtain ⟨i, hi, hok⟩ := hqb.own r o h
        refine ⟨i, by rw [hρI r hne]; exact hi, ?_⟩
        have hok := hok.mono rI (fun _ => rfl) (fun _ => rfl)
        cases o with
        | frn z => exact absurd h (hnfos' r z)
        | box te cs => exact hok
        | buf g e sz es => exact hok
        | fzs g sz es => exact hok
        | fzb cs => exact hok
        | mapo kk ag sz es => exact hok
        | raw b x => exact hok
    · by_cases e : r = 2000
      · subst e; exact ⟨_, rfl⟩
      · rw [hρI r e] at h
        obtain ⟨o, ho⟩ := hqb.dom r i h
        exact ⟨o, by simp only [obGet, beq_false e]; exact ho⟩
    · have hne : ∀ {r o i}, obGet ((2000, IObj.frn 2000) :: osOf p (obGet (obWr c.ob wr)) p) r = some o → live i o → r ≠ 2000 := fun {r o i} h hl e => by
        subst e
        simp only [obGet, Nat.beq_refl] at h
        cases h
        exact hl
      have e1 := hne h1 l1
      have e2 := hne h2 l2
      simp only [obGet, beq_false e1] at h1
      simp only [obGet, beq_false e2] at h2
      rw [hρI r e1] at h3
      rw [hρI r' e2] at h4
      exact hqb.inj r r' o o' i i' h1 h2 h3 h4 l1 l2 hbb
  have hT0 : ∀ b, TA ρq (obGet (osOf p (obGet (obWr c.ob wr)) p)) b → ¬ TA ρ2 (obGet (rob x .ready none ob0)) b ∧ (S b ∨ wl.heap.size ≤ b) := fun b hb => by
    rw [hosE] at hb
    obtain ⟨h1, h2, h3⟩ := hTA0 b hb
    refine ⟨fun hta => ?_, h2⟩
    obtain ⟨q, i, o, hi, ho, hlv, hbb⟩ := hta
    rw [← hρ2] at hi
    simp only [rob, obGet] at ho
    by_cases e1 : q = 3001
    · subst e1; rw [updO_same] at hi; cases hi; dsimp only at hbb; omega
    · rw [updO_ne _ _ e1] at hi
      by_cases e0 : q = 3000
      · subst e0; rw [updO_same] at hi; cases hi; dsimp only at hbb; omega
      · rw [updO_ne _ _ e0] at hi
        simp only [beq_false e0, beq_false e1] at ho
        exact h1 ⟨q, i, o, hi, ho, hlv, hbb⟩
  have hcall := hit (w.heap.size + 1) _ _ _ hR _ M ρI w1 (fs ++ .func (.yield (w.heap.size + 1)) #[] #[] :: cs) ⟨w.heap.size + 1, 0, 0, 0, 0, 0, true⟩ hI
    ⟨M.le_refl, ρ2, ob0, hg0, o3, hT0⟩ rfl rfl
    ((RelVs.mono rI _ hargs'.1).append (by
      simp only [RelVs]
      exact ⟨_, _, rfl, ⟨⟨w.heap.size + 1, 0, 0, 0, 0, 0, true⟩, rfl, rfl, rfl⟩, RelVs.mono rI _ hargs'.2⟩))
  refine ⟨w.heap.size + 1, [{ target := .collected w.heap.size, args := #[] }], w1, { target := .fn (.func gf) cs.toArray, args := fs.toArray ++ #[.func (.yield (w.heap.size + 1)) #[] #[]] }, w1, gf, (fs ++ .func (.yield (w.heap.size + 1)) #[] #[] :: cs).toArray, w1, run_enterLoop_outer _ _ _ _ _, ?_, ?_, CallsIn.mono (calls_in (r := none) hcall) ?_⟩
  · have : (fr N f (dfsB base Ds)).eval g = .func (.func gf) fs.toArray cs.toArray := hge
    have h2 : (fr N f (dfsB base Ds)).eval (.const (.func (.yield (w.heap.size + 1)) #[] #[])) = .func (.yield (w.heap.size + 1)) #[] #[] := rfl
    simp [resolve, Deferred.ofValue, this, h2]
  · have := he (fs ++ .func (.yield (w.heap.size + 1)) #[] #[] :: cs).toArray w1
    simpa [invoke] using this
  · rintro e w3 ⟨T', M', hend⟩
    have hup : ∀ (st st' : LoopState) (pe : Option Code) (ob : List (Nat × IObj)), updO (obGet (rob x st pe ob)) 3001 (.raw x.L (.loop (recOf x st' pe))) = obGet (rob x st' pe ob) := fun st st' pe ob => by
      funext q
      by_cases e : q = 3001
      · subst e; rw [updO_same]; rfl
      · rw [updO_ne _ _ e]
        simp only [rob, obGet]
        split
        · rfl
        · have : Nat.beq q 3001 = false := beq_false e
          simp only [this]
    -- the record and the block are let go; the base is laid anew
    have key : ∀ (st : LoopState) (pe : Option Code) (M' : Mem) (rr ρ3 : Rho) (ob3 : List (Nat × IObj)) (w4 : World) (KK : List Nat), M.le M' → okB KK ob3 = true → (∀ r, memN r KK = true → memN r K = true) → (∀ q i, keepR K ρ q = some i → (∃ o, obGet ob3 q = some o) → rr q = some i) → Ow ⟨S.s, rr⟩ wl M0 M' ρ3 (obGet (rob x st pe ob3)) w4 →
        ∃ S' ρ4, HM w00 M00 (w.heap.size :: Ds) ⟨S', hr⟩ w4 M' ∧ Ow ⟨S', restr (idsOf ob3) hr⟩ w4 M' M' ρ4 (obGet ob3) w4 ∧ ∀ q i, memN q KK = true → ρ q = some i → ∃ j, ρ4 q = some j ∧ Ile i j := fun st pe M' rr ρ3 ob3 w4 KK hle hok hKK hrr h3 => by
      obtain ⟨k1, k2, k3, k4, k5⟩ := okB_spec hok
      have hids : ∀ r, memN r (idsOf ob3) = true → obGet (rob x st pe ob3) r = obGet ob3 r := fun r hr => by
        have e1 : Nat.beq r 3000 = false := beq_false (fun e => by subst e; rw [hr] at k4; cases k4)
        have e2 : Nat.beq r 3001 = false := beq_false (fun e => by subst e; rw [hr] at k5; cases k5)
        simp only [rob, obGet, e1, e2]
      have hpart := h3.part (idsOf ob3) (idsOf ob3) (fun r o hr ho => closedAll_spec k2 r o hr (by rw [← hids r hr]; exact ho))
      rw [closed_keep hids] at hpart
      have hheld : ∀ q i, Nat.ble 2000 q = true → memN q (idsOf ob3) = true → keepR K ρ q = some i → ∃ j, ρ3 q = some j ∧ Ile i j := fun q i hb hm hi => h3.held q i hb (hrr q i hi (idsOf_mem.1 hm))
      have hpart' : Ow ⟨SK (idsOf ob3) ρ3 (obGet (rob x st pe ob3)), restr (idsOf ob3) hr⟩ w4 M' M' (keepR (idsOf ob3) ρ3) (obGet ob3) w4 := ⟨hpart.size, hpart.os, hpart.tape, hpart.output, hpart.old, hpart.sits, hpart.le, hpart.gl, hpart.new, fun q o hq => by
          obtain ⟨i, hi, hok⟩ := hpart.own q o hq
          refine ⟨i, hi, ?_⟩
          cases o with
          | frn z => exact absurd hq (noFrn_spec k1 q z)
          | box te cs => exact hok
          | buf g e sz es => exact hok
          | fzs g sz es => exact hok
          | fzb cs => exact hok
          | mapo kk ag sz es => exact hok
          | raw b x => exact hok, hpart.dom, hpart.inj, fun r i hb hi => by
          obtain ⟨hm, hi⟩ := restr_some hi
          obtain ⟨j, h1, h2⟩ := hhr r i hi hb
          obtain ⟨l, h4, h5⟩ := hheld r j hb hm h1
          exact ⟨l, by rw [keepR_in hm]; exact h4, h2.trans h5⟩⟩
      have h3' := hS (r0' := noR) h3 (hnfr _ _ _ (noFrn_spec k1)) (fun r i hb hi => by cases hi)
      obtain ⟨⟨h1, h2, h5, h6⟩, _⟩ := HM_base (S := ⟨S.s, noR⟩) (w0 := w00) (M00 := M00) (Ds := Ds) hH.2 h3' (hnfr _ _ _ (noFrn_spec k1))
      have hSK : ∀ b, SK (idsOf ob3) ρ3 (obGet (rob x st pe ob3)) b → TA ρ3 (obGet (rob x st pe ob3)) b := fun b ⟨r, i, o, _, a1, a2, a3, a4⟩ => ⟨r, i, o, a1, a2, a3, a4⟩
      obtain ⟨iD, hiD, _, hDb, hDm, hDw⟩ := h3.own 3000 (.raw x.D (.deferred (some []))) rfl
      refine ⟨SK (idsOf ob3) ρ3 (obGet (rob x st pe ob3)), keepR (idsOf ob3) ρ3, ⟨h1, fun b hb => h2 b (hSK b hb), fun D hD => ?_, ?_⟩, hpart', fun q i hm hi => ?_⟩
      · rcases List.mem_cons.1 hD with rfl | hD
        · refine ⟨Nat.le_trans hH.2.1.below.size ha.ow.size, ?_, ?_, ?_, hDw⟩
          · exact (Array.getElem?_eq_some_iff.1 hDw).1
          · rintro ⟨r, i, o, b1, b2, b3, b4, b5⟩
            have : r = 3000 := h3.inj r 3000 o _ i iD b3 rfl b2 hiD b4 trivial (by rw [b5]; exact hDb.symm)
            subst this
            rw [b1] at k4; cases k4
          · have := hDm.2; rw [hDb] at this; exact this
        · obtain ⟨a1, a2, a3, a4, a5⟩ := h5 D hD
          exact ⟨a1, a2, fun h => a3 (hSK D h), a4, a5⟩
      · refine List.nodup_cons.2 ⟨fun hm => ?_, h6⟩
        have := (hH.2.2.2.1 _ hm).2.1
        have := ha.ow.size
        omega
      · have hmi := subN_spec k3 _ hm
        obtain ⟨j, b1, b2⟩ := hheld q i (hbig' q i (by rw [keepR_in (hKK q hm)]; exact hi)) hmi (by rw [keepR_in (hKK q hm)]; exact hi)
        exact ⟨j, by rw [keepR_in hmi]; exact b1, b2⟩
    -- a panic: slots that hang on KP
    have pan : ∀ (st : LoopState) (pe : Option Code) (M' : Mem) (rr ρ3 : Rho) (ob3 : List (Nat × IObj)) (w4 : World) (t : TypeId) (u : Value), M.le M' → okB KP ob3 = true → (∀ q i, keepR K ρ q = some i → (∃ o, obGet ob3 q = some o) → rr q = some i) → Ow ⟨S.s, rr⟩ wl M0 M' ρ3 (obGet (rob x st pe ob3)) w4 →
        JP N (dfsB base (w.heap.size :: Ds)) (finD P fn0 v0 w00 M00 hr (w.heap.size :: Ds)) (mapTri (onlyV KP) (mkT S1)) ob3 → (finD P fn0 v0 w00 M00 hr Ds).post S wl M0 (.panic [{ v := .iface t u, recovered := false }]) (fr N f (dfsB base (w.heap.size :: Ds))) w4 := fun st pe M' rr ρ3 ob3 w4 t u hle hok hrr h3 hjp => by
      obtain ⟨S', ρ4, h5, h6, h7⟩ := key st pe M' rr ρ3 ob3 w4 KP hle hok (fun r h => subN_spec hKP r h) hrr h3
      refine hjp ⟨S', hr⟩ w4 M' ⟨rfl, h5⟩ (restr (idsOf ob3) hr) M' ρ4 w4 f t u (fun q i hi ho => ?_) h6 (fun t ht => ?_)
      · unfold restr
        rw [idsOf_mem.2 ho]
        exact hi
      · rw [mapTri_get (onlyV_undef KP)]
        unfold onlyV
        split
        · rename_i hrf
          exact RelV.mono ⟨hle, fun r i hi => h7 r i (keepR_some hi).1 (keepR_some hi).2⟩ _ (refs_rel _ hrf (ha.sl t ht))
        · exact relV_undef _
    have norm : ∀ (st : LoopState) (pe : Option Code) (M' : Mem) (ρ3 : Rho) (ob3 : List (Nat × IObj)) (w4 : World), M.le M' → okB K ob3 = true → Ow ⟨S.s, keepR K ρ⟩ wl M0 M' ρ3 (obGet (rob x st pe ob3)) w4 →
        ∃ S' wl' M0' ρ4, (finD P fn0 v0 w00 M00 hr (w.heap.size :: Ds)).H S' wl' M0' ∧ Abs S' wl' M0' M' ρ4 N ⟨mkT S1, ob3, []⟩ f w4 := fun st pe M' ρ3 ob3 w4 hle hok h3 => by
      obtain ⟨S', ρ4, h5, h6, h7⟩ := key st pe M' (keepR K ρ) ρ3 ob3 w4 K hle hok (fun _ h => h) (fun _ _ h _ => h) h3
      obtain ⟨k1, k2, k3, k4, k5⟩ := okB_spec hok
      refine ⟨⟨S', hr⟩, w4, M', ρ4, ⟨rfl, h5⟩, ⟨h6.size, h6.os, h6.tape, h6.output, h6.old, h6.sits, h6.le, h6.gl, h6.new, fun q o hq => ?_, h6.dom, h6.inj, fun r i hb hi => ?_⟩, ha.ok, fun t ht => ?_⟩
      · obtain ⟨i, hi, hok⟩ := h6.own q o hq
        refine ⟨i, hi, ?_⟩
        cases o with
        | frn z => exact absurd hq (noFrn_spec k1 q z)
        | box te cs => exact hok
        | buf g e sz es => exact hok
        | fzs g sz es => exact hok
        | fzb cs => exact hok
        | mapo kk ag sz es => exact hok
        | raw b x => exact hok
      · obtain ⟨j, h1, _⟩ := hhr r i hi hb
        exact h6.held r i hb (by show restr (idsOf ob3) hr r = some i; unfold restr; rw [subN_spec k3 _ (keepR_some h1).1]; exact hi)
      · exact RelV.mono ⟨hle, fun r i hi => h7 r i (keepR_some hi).1 (keepR_some hi).2⟩ _ (refs_rel _ (triRefs_spec 10 (mkT S1) t hslots) (ha.sl t ht))
    rcases hend with ⟨v, rfl, ⟨hfl, hle, ρ3, ob3, hg3, ho3, _⟩ | ⟨hle, ρ3, ob3, j, hg3, ho3, _⟩⟩ | ⟨⟨t, u, rfl⟩, ⟨hfl, hle, ρ3, ob3, hg3, ho3, _⟩ | ⟨hle, rr, ρ3, ob3, hg3, hrr, ho3, _⟩⟩
    · obtain ⟨hh, o4⟩ := ho3.raw (q := 3001) rfl (.loop (recOf x .exhausted none))
      rw [hup] at o4
      refine ⟨none, _, run_endLoop hh (by simp [recOf]), ?_⟩
      obtain ⟨S', wl', M0', ρ4, h5, h6⟩ := norm _ _ _ _ _ _ hle (hnf _ _ hg3) o4
      exact (hdone hfl w.heap.size ob3 hg3).2 S' wl' M0' h5 M' ρ4 f _ ⟨h6.ow, h6.ok, h6.sl⟩
    · obtain ⟨hh, o4⟩ := ho3.raw (q := 3001) rfl (.loop (recOf x .exhausted (some j)))
      rw [hup] at o4
      refine ⟨some j, _, run_endLoop hh (by simp [recOf]), ?_⟩
      obtain ⟨S', wl', M0', ρ4, h5, h6⟩ := norm _ _ _ _ _ _ hle (hnfX _ _ hg3) o4
      have := (hstop w.heap.size ob3 j hg3).2 S' wl' M0' h5 M' ρ4 f _ ⟨h6.ow, h6.ok, h6.sl⟩
      simp only [Wk, Exit.then] at this
      exact this
    · exact Wk_pan k hk (pan _ _ _ _ _ _ _ t u hle (hnfP0 hfl ob3 hg3) (fun _ _ h _ => h) ho3 (hdie hfl w.heap.size ob3 hg3))
    · exact Wk_pan k hk (pan _ _ _ _ _ _ _ t u hle (hnfP _ hg3) hrr ho3 (hpan w.heap.size ob3 hg3))
/-- The same, where nothing is handed out, and nobody panics. -/
theorem J_range {P : Program} {N : Nat} {fn0 : Func} {v0 : Option V} {w00 : World} {M00 : Mem} {hr : Rho} {base : List Deferred} {Ds : List Nat} {c : Cfg} {g : Operand} {ps : Array Tmp} {asg bo : Code} {k : List It} {gf : FuncId} {first cap xs : List V} {os : List (Nat × IObj)} {S1 : List (Nat × V)} {ob0 : List (Nat × IObj)} (p : List (Nat × Nat)) (keep ids : List Nat) (yl : List V) {ysAll : List (List V)} (K : List Nat) (Good : List (List V) → List (Nat × IObj) → Prop) (GoodX : Code → List (Nat × IObj) → Prop)
    (hN : Nat.ble N 1024 = true) (ht : c.td = .code (.rangeFunc g ps asg bo) :: k) (hk : noBeg k = true) (hv : rangeOf N c = some (gf, first, cap)) (hl : allLt N keep = true) (hx : rngOf N c p (first ++ cap) keep ids = some (os, xs, S1, ob0)) (hre : Res' xs yl) (he : entersT P gf)
    (hit : IterC P gf ((2000, .frn 2000) :: os) (yl.take first.length ++ .yl 2000 :: yl.drop first.length) ysAll false) (hK : allBigL K = true) (hkept : keptH K ob0 = true) (hslots : triRefs K (mkT S1) = true) (hg0 : Good ysAll ob0) (hnf : ∀ ys ob, Good ys ob → okB K ob = true) (hnfX : ∀ j ob, GoodX j ob → okB K ob = true)
    (hfree : obGet ob0 3000 = none ∧ obGet ob0 3001 = none)
    (hJ : ∀ x : Lp, x.as = asg → x.bo = bo → x.ps = ps → ∀ y ys ob, Good (y :: ys) ob → ∃ sl', setPs N (mkT S1) ps.toList y = some sl' ∧ J (some x.L) P N [] (finB x Good GoodX (fun _ => False) ys) ⟨sl', rob x .ready none ob, [.code asg, .begR x.L, .code bo]⟩)
    (hdone : ∀ D ob, Good [] ob → J none P N (dfsB base (D :: Ds)) (finD P fn0 v0 w00 M00 hr (D :: Ds)) ⟨mkT S1, ob, k⟩)
    (hstop : ∀ D ob j, GoodX j ob → J none P N (dfsB base (D :: Ds)) (finD P fn0 v0 w00 M00 hr (D :: Ds)) ⟨mkT S1, ob, .code j :: k⟩) : J none P N (dfsB base Ds) (finD P fn0 v0 w00 M00 hr Ds) c :=
  J_rangeD p keep ids yl K [] Good GoodX (fun _ => False) hN ht hk hv hl hx hre he hit hK hkept hslots rfl hg0 hnf hnfX (fun _ h => h.elim) (fun h => by cases h) hfree hJ (fun _ => hdone) hstop (fun h => by cases h) (fun _ _ h => h.elim)
end Go.Proofs.YtilfjfpemjfalaaGreatDoor.Kx
