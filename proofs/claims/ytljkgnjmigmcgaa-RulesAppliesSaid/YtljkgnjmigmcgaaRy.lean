/- Functions that are ranged over: the statement. -/
import Derived.Test.YtljkgnjmigmcgaaRx
namespace Go.Proofs.Ytljkgnjmigmcgaa.Kx
open Go Go.RowKit

theorem RelVs.split {M : Mem} {ρ : Rho} : ∀ {us vs : List Value} {xs : List V}, RelVs M ρ xs (us ++ vs) → RelVs M ρ (xs.take us.length) us ∧ RelVs M ρ (xs.drop us.length) vs
  | us, vs, xs, h => by
    have h1 := RelVs.take us.length h
    have h2 := RelVs.drop us.length h
    simp at h1 h2
    exact ⟨h1, h2⟩
def xsOf (c : Cfg) (vs : List V) : Option (List V) := match argsOf (obGet c.ob) vs with | some (xs, _) => some xs | none => none
def obR (c : Cfg) (vs : List V) : List (Nat × IObj) := match argsOf (obGet c.ob) vs with | some (_, wr) => obWr c.ob wr | none => c.ob
/-- A variable that will not be written again. -/
theorem J_frz {r : Option Nat} {P : Program} {N : Nat} {ds : List Deferred} {fin : Fin} {c : Cfg} (q : Nat) (cs : List V) (hq : obGet c.ob q = some (.box cs)) (hx : (xsOf c [.ptr q 0]).isSome = true) (hk : J r P N ds fin ⟨c.sl, obR c [.ptr q 0], c.td⟩) : J r P N ds fin c := by
  refine ⟨hk.1, fun S wl M0 hH M ρ f w ha => ?_⟩
  obtain ⟨i, hi, hf, _⟩ := ha.ow.own q _ hq
  have hu : RelVs M ρ [.ptr q 0] [.pointer (some ⟨i.b, 0, none⟩)] := by
    simp only [RelVs, RelV]
    exact ⟨_, _, rfl, ⟨i, hi, hf, rfl⟩, rfl⟩
  cases hx' : argsOf (obGet c.ob) [.ptr q 0] with
  | none => simp [xsOf, hx'] at hx
  | some p =>
    obtain ⟨xs, wr⟩ := p
    obtain ⟨M', r0, o0, _⟩ := argsOf_sound ha.ow hu hx'
    rw [wrO_of] at o0
    have e : obR c [.ptr q 0] = obWr c.ob wr := by unfold obR; rw [hx']
    rw [e] at hk
    exact hk.2 S wl M0 hH M' ρ f w ⟨o0, ha.ok, fun t ht => RelV.mono r0 _ (ha.sl t ht)⟩
/-- **A range over a function.** -/
theorem J_range {P : Program} {N : Nat} {fn0 : Func} {v0 : V} {w00 : World} {M00 : Mem} {Ds : List Nat} {c : Cfg} {g : Operand} {ps : Array Tmp} {asg bo : Code} {k : List It} {gf : FuncId} {first cap xs : List V} (yl : List V) {ysAll : List (List V)} (K : List Nat) (Good : List (List V) → List (Nat × IObj) → Prop) (GoodX : Code → List (Nat × IObj) → Prop)
    (hN : Nat.ble N 1024 = true) (ht : c.td = .code (.rangeFunc g ps asg bo) :: k) (hv : rangeOf N c = some (gf, first, cap)) (hx : xsOf c (first ++ cap) = some xs) (hre : Res' xs yl) (he : entersT P gf)
    (hit : IterC P gf [(2000, .frn 2000)] (yl.take first.length ++ .yl 2000 :: yl.drop first.length) ysAll) (hK : allBigL K = true) (hkept : keptH K (obR c (first ++ cap)) = true) (hslots : triRefs K c.sl = true) (hg0 : Good ysAll (obR c (first ++ cap))) (hnf : ∀ ys ob, Good ys ob → okB K ob = true) (hnfX : ∀ j ob, GoodX j ob → okB K ob = true)
    (hfree : obGet (obR c (first ++ cap)) 3000 = none ∧ obGet (obR c (first ++ cap)) 3001 = none)
    (hJ : ∀ x : Lp, x.as = asg → x.bo = bo → x.ps = ps → ∀ y ys ob, Good (y :: ys) ob → ∃ sl', setPs N c.sl ps.toList y = some sl' ∧ J (some x.L) P N [] (finB x Good GoodX ys) ⟨sl', rob x .ready none ob, [.code asg, .begR x.L, .code bo]⟩)
    (hdone : ∀ D ob, Good [] ob → J none P N (dfs (D :: Ds)) (finM P fn0 v0 w00 M00 (D :: Ds)) ⟨c.sl, ob, k⟩)
    (hstop : ∀ D ob j, GoodX j ob → J none P N (dfs (D :: Ds)) (finM P fn0 v0 w00 M00 (D :: Ds)) ⟨c.sl, ob, .code j :: k⟩) : J none P N (dfs Ds) (finM P fn0 v0 w00 M00 Ds) c := by
  have hN := nb_le hN
  unfold xsOf at hx
  split at hx
  case h_2 => cases hx
  rename_i xs' wr hx'
  cases hx
  have hx := hx'
  have hobR : obR c (first ++ cap) = obWr c.ob wr := by unfold obR; rw [hx]
  rw [hobR] at hkept hg0 hfree
  refine ⟨hN, fun S wl M0 hH Mo ρ f w hao => ?_⟩
  obtain ⟨g', ps', as', bo', k', ht', hf⟩ := rangeOf_spec hv
  rw [ht] at ht'
  cases ht'
  obtain ⟨fs, cs, hge, hfs, hcs⟩ := hf (ds := dfs Ds) hao
  rw [ht]
  simp only [Wk, Exit.then]
  rw [W_eq]
  refine wpIn_rangeFunc (fun fn _ => ?_)
  obtain ⟨M, r0, o0, d0⟩ := argsOf_sound hao.ow (hfs.append hcs) hx
  have hlen : fs.length = first.length := hfs.len
  rw [wrO_of] at o0
  have ha : Abs S wl M0 M ρ N ⟨c.sl, obWr c.ob wr, []⟩ f w := ⟨o0, hao.ok, fun t ht => RelV.mono r0 _ (hao.sl t ht)⟩
  have hargs := (hre.rel (d0 noR)).split
  rw [hlen] at hargs
  have hg0' := hg0
  generalize hob0 : obWr c.ob wr = ob0 at hkept hg0 hfree ha o0
  -- the record and the deferred block
  let x : Lp := ⟨w.heap.size, w.heap.size + 1, fn, (fr N f []).tmps, ps, asg, bo⟩
  have hdisj : ∀ r, obGet (rob x .ready none ob0) r = updO (updO (obGet ob0) 3000 (.raw x.D (.deferred (some [])))) 3001 (.raw x.L (.loop (recOf x .ready none))) r := fun r => by
    simp only [rob, obGet, updO]
    by_cases e : r = 3001
    · subst e; rfl
    · rw [beq_false e]
      dsimp only
      cases Nat.beq r 3000 <;> rfl
  have hM : ∀ b, w.heap.size ≤ b → M b = none := fun b hb => by
    cases hm : M b with
    | none => rfl
    | some c => exact absurd (ha.ow.sits.lt hm) (by omega)
  let w1 := (w.alloc (.deferred (some []))).alloc (.loop { state := .ready, pending := none, fn, tmps := (fr N f (dfs Ds)).tmps, params := ps, assign := asg, body := bo, defers := w.heap.size })
  have hs1 : (w.alloc (.deferred (some []))).heap.size = w.heap.size + 1 := by simp
  obtain ⟨r1, o1⟩ := ha.ow.alloc (d := 3000) hfree.1 (.deferred (some [])) ⟨w.heap.size, 0, 0, 0, 0, 0, true⟩ (.raw x.D (.deferred (some []))) rfl (fun ρ' _ hm => ⟨rfl, rfl, ⟨.inr ha.ow.size, hm⟩, World.alloc_heap_new _ _⟩)
  obtain ⟨r2, o2⟩ := o1.alloc (d := 3001) (by rw [updO_ne _ _ (by omega)]; exact hfree.2) (.loop (recOf x .ready none)) ⟨w.heap.size + 1, 0, 0, 0, 0, 0, true⟩ (.raw x.L (.loop (recOf x .ready none))) hs1.symm (fun ρ' _ hm => ⟨rfl, rfl, ⟨.inr (Nat.le_succ_of_le ha.ow.size), by rw [hs1] at hm; exact hm⟩, by show ((w.alloc (.deferred (some []))).alloc (.loop (recOf x .ready none))).heap[w.heap.size + 1]? = some (.loop (recOf x .ready none)); rw [← hs1]; exact World.alloc_heap_new _ _⟩)
  have hob : updO (updO (obGet ob0) 3000 (.raw x.D (.deferred (some [])))) 3001 (.raw x.L (.loop (recOf x .ready none))) = obGet (rob x .ready none ob0) := funext fun r => (hdisj r).symm
  rw [hob] at o2
  have r12 := r1.trans r2
  generalize hρ2 : updO (updO ρ 3000 (⟨w.heap.size, 0, 0, 0, 0, 0, true⟩ : Inf)) 3001 (⟨w.heap.size + 1, 0, 0, 0, 0, 0, true⟩ : Inf) = ρ2 at o2 r12 r2
  have o2 : Ow S wl M0 M ρ2 (obGet (rob x .ready none ob0)) w1 := o2
  -- what is kept of the numbers
  have hbig : ∀ r i, keepR K ρ r = some i → Nat.ble 2000 r = true := fun r i h => allBigL_spec hK (keepR_some h).1
  have hheld : ∀ {ρ' : Rho}, (∀ r i, Nat.ble 2000 r = true → keepR K ρ r = some i → ∃ j, ρ' r = some j ∧ Ile i j) → ∀ r i, Nat.ble 2000 r = true → S.r0 r = some i → ∃ j, ρ' r = some j ∧ Ile i j := fun {ρ'} hh r i hb hi => by
    obtain ⟨j, h1, h2⟩ := ha.ow.held r i hb hi
    obtain ⟨o, ho⟩ := ha.ow.dom r j h1
    obtain ⟨k, h3, h4⟩ := hh r j hb (by rw [keepR_in (keptH_spec hkept ho hb)]; exact h1)
    exact ⟨k, h3, h2.trans h4⟩
  have hnfr : ∀ (st : LoopState) (pe : Option Code) (ob : List (Nat × IObj)), (∀ q z, obGet ob q ≠ some (.frn z)) → ∀ q z, obGet (rob x st pe ob) q ≠ some (.frn z) := fun st pe ob h q z => by
    simp only [rob, obGet]
    split
    · intro e; cases e
    · split
      · intro e; cases e
      · exact h q z
  -- another table of what was handed in
  have hS : ∀ {r0 r0' : Rho} {M : Mem} {ρ : Rho} {ob : Nat → Option IObj} {w : World}, Ow ⟨S.s, r0⟩ wl M0 M ρ ob w → (∀ q z, ob q ≠ some (.frn z)) → (∀ r i, Nat.ble 2000 r = true → r0' r = some i → ∃ j, ρ r = some j ∧ Ile i j) → Ow ⟨S.s, r0'⟩ wl M0 M ρ ob w := fun {r0 r0' M ρ ob w} h hn hh => by
    refine ⟨h.size, h.os, h.tape, h.output, h.old, h.sits, h.le, h.new, fun q o hq => ?_, h.dom, h.inj, hh⟩
    obtain ⟨i, hi, hok⟩ := h.own q o hq
    refine ⟨i, hi, ?_⟩
    cases o with
    | frn z => exact absurd hq (hn q z)
    | box cs => exact hok
    | buf g e sz es => exact hok
    | fzs g sz es => exact hok
    | fzb cs => exact hok
    | mapo kk ag sz es => exact hok
    | raw b x => exact hok
  have o3 : Ow ⟨S.s, keepR K ρ⟩ wl M0 M ρ2 (obGet (rob x .ready none ob0)) w1 := hS (r0 := S.r0) o2 (hnfr _ _ _ (noFrn_spec (okB_spec (hnf _ _ hg0)).1)) (fun r i hb hi => r12.ext r i (keepR_some hi).2)
  have hR : RoundsOk P (w.heap.size + 1) (CInv x S wl M0 (keepR K ρ) M Good) (CStop x S wl M0 (keepR K ρ) M GoodX) :=
    ⟨CInv.it, CStop.it, fun y ys T M w vals h1 h2 h3 h4 => round_of (f := f) (sl := c.sl) hN rfl ha.ok (fun t ht => refs_rel _ (triRefs_spec 10 c.sl t hslots) (ha.sl t ht)) hbig (fun ys ob h => noFrn_spec (okB_spec (hnf ys ob h)).1) (hJ x rfl rfl rfl) y ys T M w vals h1 h2 h3 h4⟩
  let ρI : Rho := fun r => match Nat.beq r 2000 with | true => some ⟨w.heap.size + 1, 0, 0, 0, 0, 0, true⟩ | false => none
  have hρI : ∀ r i, ρI r = some i → r = 2000 := fun r i h => by
    by_cases e : r = 2000
    · exact e
    · simp only [ρI, beq_false e] at h; cases h
  have hcall := hit (w.heap.size + 1) _ _ hR (fun _ => False) M ρI w1 (fs ++ .func (.yield (w.heap.size + 1)) #[] #[] :: cs) ⟨w.heap.size + 1, 0, 0, 0, 0, 0, true⟩
    ⟨Nat.le_refl _, rfl, rfl, rfl, fun _ _ _ => rfl, o2.sits, M.le_refl, fun _ _ hb _ => .inl hb, (fun r o h => by
        simp only [obGet] at h
        split at h
        · rename_i e; cases h; obtain rfl := Nat.eq_of_beq_eq_true e; exact ⟨_, rfl, rfl⟩
        · cases h), (fun r i h => by obtain rfl := hρI r i h; exact ⟨_, rfl⟩), fun r r' o o' i i' _ _ h1 h2 _ _ _ => (hρI r i h1).trans (hρI r' i' h2).symm, fun r i _ hi => ⟨i, hi, Ile.refl i⟩⟩
    ⟨M.le_refl, ρ2, ob0, hg0, o3, fun _ h => h.elim⟩ rfl rfl
    ((RelVs.mono (M' := M) (ρ' := ρI) ⟨M.le_refl, fun r i h => by cases h⟩ _ hargs.1).append (by
      simp only [RelVs]
      exact ⟨_, _, rfl, ⟨⟨w.heap.size + 1, 0, 0, 0, 0, 0, true⟩, rfl, rfl, rfl⟩, RelVs.mono (M' := M) (ρ' := ρI) ⟨M.le_refl, fun r i h => by cases h⟩ _ hargs.2⟩))
  refine ⟨w.heap.size + 1, [{ target := .collected w.heap.size, args := #[] }], w1, { target := .fn (.func gf) cs.toArray, args := fs.toArray ++ #[.func (.yield (w.heap.size + 1)) #[] #[]] }, w1, gf, (fs ++ .func (.yield (w.heap.size + 1)) #[] #[] :: cs).toArray, w1, run_enterLoop_outer _ _ _ _ _, ?_, fun _ _ => trivial, ?_, fun h => (by cases h), CallsIn.mono (calls_in (r := none) hcall) ?_⟩
  · have : (fr N f (dfs Ds)).eval g = .func (.func gf) fs.toArray cs.toArray := hge
    have h2 : (fr N f (dfs Ds)).eval (.const (.func (.yield (w.heap.size + 1)) #[] #[])) = .func (.yield (w.heap.size + 1)) #[] #[] := rfl
    simp [resolve, Deferred.ofValue, this, h2]
  · have := he (fs ++ .func (.yield (w.heap.size + 1)) #[] #[] :: cs).toArray w1
    simpa [invoke] using this
  · rintro e w3 ⟨v, T', M', rfl, hend⟩
    have hslot : ∀ {M' : Mem} {ρ' : Rho}, M.le M' → (∀ r i, Nat.ble 2000 r = true → keepR K ρ r = some i → ∃ j, ρ' r = some j ∧ Ile i j) → ∀ t, t < N → RelV M' ρ' (c.sl.get 10 t) (f t) := fun {M' ρ'} hle hh t ht =>
      RelV.mono ⟨hle, fun r i hi => hh r i (hbig r i hi) hi⟩ _ (refs_rel _ (triRefs_spec 10 c.sl t hslots) (ha.sl t ht))
    have hup : ∀ (st st' : LoopState) (pe : Option Code) (ob : List (Nat × IObj)), updO (obGet (rob x st pe ob)) 3001 (.raw x.L (.loop (recOf x st' pe))) = obGet (rob x st' pe ob) := fun st st' pe ob => by
      funext q
      by_cases e : q = 3001
      · subst e; rw [updO_same]; rfl
      · rw [updO_ne _ _ e]
        simp only [rob, obGet]
        split
        · rfl
        · have : Nat.beq q 3001 = false := beq_false e
          simp only [this]
    -- the record and the block are let go; the base is laid anew
    have key : ∀ (pe : Option Code) (M' : Mem) (ρ3 : Rho) (ob3 : List (Nat × IObj)) (w4 : World), M.le M' → okB K ob3 = true → Ow ⟨S.s, keepR K ρ⟩ wl M0 M' ρ3 (obGet (rob x .exhausted pe ob3)) w4 →
        ∃ S' wl' M0' ρ4, (finM P fn0 v0 w00 M00 (w.heap.size :: Ds)).H S' wl' M0' ∧ Abs S' wl' M0' M' ρ4 N ⟨c.sl, ob3, []⟩ f w4 := fun pe M' ρ3 ob3 w4 hle hok h3 => by
      obtain ⟨k1, k2, k3, k4, k5⟩ := okB_spec hok
      have hids : ∀ r, memN r (idsOf ob3) = true → obGet (rob x .exhausted pe ob3) r = obGet ob3 r := fun r hr => by
        have e1 : Nat.beq r 3000 = false := beq_false (fun e => by subst e; rw [hr] at k4; cases k4)
        have e2 : Nat.beq r 3001 = false := beq_false (fun e => by subst e; rw [hr] at k5; cases k5)
        simp only [rob, obGet, e1, e2]
      have hpart := h3.part (idsOf ob3) (idsOf ob3) (fun r o hr ho => closedAll_spec k2 r o hr (by rw [← hids r hr]; exact ho))
      have hkeep : keepO (idsOf ob3) (idsOf ob3) (obGet (rob x .exhausted pe ob3)) = obGet ob3 := funext fun r => by
        cases hm : memN r (idsOf ob3) with
        | true => rw [keepO_in hm hm, hids r hm]
        | false =>
          have : obGet ob3 r = none := by
            cases ho : obGet ob3 r with
            | none => rfl
            | some o => rw [idsOf_mem.2 ⟨o, ho⟩] at hm; cases hm
          simp only [keepO, hm, this]
      rw [hkeep] at hpart
      have hpart' : Ow ⟨SK (idsOf ob3) ρ3 (obGet (rob x .exhausted pe ob3)), noR⟩ w4 M' M' (keepR (idsOf ob3) ρ3) (obGet ob3) w4 := ⟨hpart.size, hpart.os, hpart.tape, hpart.output, hpart.old, hpart.sits, hpart.le, hpart.new, fun q o hq => by
          obtain ⟨i, hi, hok⟩ := hpart.own q o hq
          refine ⟨i, hi, ?_⟩
          cases o with
          | frn z => exact absurd hq (noFrn_spec k1 q z)
          | box cs => exact hok
          | buf g e sz es => exact hok
          | fzs g sz es => exact hok
          | fzb cs => exact hok
          | mapo kk ag sz es => exact hok
          | raw b x => exact hok, hpart.dom, hpart.inj, fun r i hb hi => by cases hi⟩
      have h3' := hS (r0' := noR) h3 (hnfr _ _ _ (noFrn_spec k1)) (fun r i hb hi => by cases hi)
      obtain ⟨⟨_, h1, h2, h5, h6⟩, _⟩ := finM_base (S := ⟨S.s, noR⟩) (P := P) (fn := fn0) (v := v0) (w0 := w00) (M00 := M00) (Ds := Ds) ⟨rfl, hH.2⟩ h3' (hnfr _ _ _ (noFrn_spec k1))
      have hSK : ∀ b, SK (idsOf ob3) ρ3 (obGet (rob x .exhausted pe ob3)) b → TA ρ3 (obGet (rob x .exhausted pe ob3)) b := fun b ⟨r, i, o, _, a1, a2, a3, a4⟩ => ⟨r, i, o, a1, a2, a3, a4⟩
      obtain ⟨iD, hiD, _, hDb, hDm, hDw⟩ := h3.own 3000 (.raw x.D (.deferred (some []))) rfl
      refine ⟨⟨SK (idsOf ob3) ρ3 (obGet (rob x .exhausted pe ob3)), noR⟩, w4, M', keepR (idsOf ob3) ρ3, ⟨rfl, h1, fun b hb => h2 b (hSK b hb), fun D hD => ?_, ?_⟩, hpart', ha.ok, fun t ht => ?_⟩
      · rcases List.mem_cons.1 hD with rfl | hD
        · refine ⟨Nat.le_trans hH.2.1.below.size ha.ow.size, ?_, ?_, ?_, hDw⟩
          · exact (Array.getElem?_eq_some_iff.1 hDw).1
          · rintro ⟨r, i, o, b1, b2, b3, b4, b5⟩
            have : r = 3000 := h3.inj r 3000 o _ i iD b3 rfl b2 hiD b4 trivial (by rw [b5]; exact hDb.symm)
            subst this
            rw [b1] at k4; cases k4
          · have := hDm.2; rw [hDb] at this; exact this
        · obtain ⟨a1, a2, a3, a4, a5⟩ := h5 D hD
          exact ⟨a1, a2, fun h => a3 (hSK D h), a4, a5⟩
      · refine List.nodup_cons.2 ⟨fun hm => ?_, h6⟩
        have := (hH.2.2.2.1 _ hm).2.1
        have := ha.ow.size
        omega
      · refine hslot hle (fun r i hb hi => ?_) t ht
        obtain ⟨j, b1, b2⟩ := h3.held r i hb hi
        exact ⟨j, by rw [keepR_in (subN_spec k3 _ (keepR_some hi).1)]; exact b1, b2⟩
    rcases hend with ⟨hle, ρ3, ob3, hg3, ho3, _⟩ | ⟨hle, ρ3, ob3, j, hg3, ho3, _⟩
    · obtain ⟨hh, o4⟩ := ho3.raw (q := 3001) rfl (.loop (recOf x .exhausted none))
      rw [hup] at o4
      refine ⟨none, _, run_endLoop hh (by simp [recOf]), ?_⟩
      obtain ⟨S', wl', M0', ρ4, h5, h6⟩ := key _ _ _ _ _ hle (hnf _ _ hg3) o4
      exact (hdone w.heap.size ob3 hg3).2 S' wl' M0' h5 M' ρ4 f _ ⟨h6.ow, h6.ok, h6.sl⟩
    · obtain ⟨hh, o4⟩ := ho3.raw (q := 3001) rfl (.loop (recOf x .exhausted (some j)))
      rw [hup] at o4
      refine ⟨some j, _, run_endLoop hh (by simp [recOf]), ?_⟩
      obtain ⟨S', wl', M0', ρ4, h5, h6⟩ := key _ _ _ _ _ hle (hnfX _ _ hg3) o4
      have := (hstop w.heap.size ob3 j hg3).2 S' wl' M0' h5 M' ρ4 f _ ⟨h6.ow, h6.ok, h6.sl⟩
      simp only [Wk, Exit.then] at this
      rw [W_eq] at this
      exact this
end Go.Proofs.Ytljkgnjmigmcgaa.Kx
