/- Functions that are ranged over: what is looked at; marks; ends of rounds; other numbers. -/
import Derived.Test.YtilfjfpemjfalaaGreatDoorRw
import Derived.RangeFuncLeaves
namespace Go.Proofs.YtilfjfpemjfalaaGreatDoor.Kx
open Go Go.RowKit

/-- Every slot hangs on objects of K alone. -/
def triRefs (K : List Nat) : Tri → Bool
  | .e => true
  | .lf v => refsIn K v
  | .nd l r => match triRefs K l with | true => triRefs K r | false => false
theorem triRefs_spec {K : List Nat} : ∀ (d : Nat) (t : Tri) (n : Nat), triRefs K t = true → refsIn K (t.get d n) = true
  | _, .e, _, _ => by rw [Tri.get_e]; rfl
  | 0, .lf v, _, h => h
  | d + 1, .lf v, _, h => h
  | 0, .nd _ _, _, _ => rfl
  | d + 1, .nd l r, n, h => by
    simp only [triRefs] at h
    split at h
    · rename_i hl
      simp only [Tri.get]
      split
      · exact triRefs_spec d l _ hl
      · exact triRefs_spec d r _ h
    · cases h
def allBigL : List Nat → Bool
  | [] => true
  | k :: l => match Nat.ble 2000 k with | true => allBigL l | false => false
theorem allBigL_spec : ∀ {l : List Nat} {r : Nat}, allBigL l = true → memN r l = true → Nat.ble 2000 r = true
  | [], _, _, h => by cases h
  | k :: l, r, hb, h => by
    unfold allBigL at hb
    split at hb
    · rename_i h1
      unfold memN at h
      split at h
      · rename_i he; rw [Nat.eq_of_beq_eq_true he]; exact h1
      · exact allBigL_spec hb h
    · cases hb

/-- The function that is ranged over, and what it is handed beside yield. -/
def rangeOf (N : Nat) (c : Cfg) : Option (FuncId × List V × List V) := match c.td with
  | .code (.rangeFunc g _ _ _) :: _ => match evalV N c.sl g with
    | .fn gf first cap => some (gf, first, cap)
    | .d (.fnc gf) => some (gf, [], [])
    | _ => none
  | _ => none
theorem rangeOf_spec {N : Nat} {c : Cfg} {gf : FuncId} {first cap : List V} (h : rangeOf N c = some (gf, first, cap)) : ∃ g ps as bo k, c.td = .code (.rangeFunc g ps as bo) :: k ∧ ∀ {S : Hand} {wl w : World} {M0 M : Mem} {ρ : Rho} {f : Nat → Value} {ds : List Deferred}, Abs S wl M0 M ρ N c f w → ∃ fs cs, (fr N f ds).eval g = .func (.func gf) fs.toArray cs.toArray ∧ RelVs M ρ first fs ∧ RelVs M ρ cap cs := by
  unfold rangeOf at h
  split at h
  · rename_i g ps as bo k ht
    refine ⟨g, ps, as, bo, k, ht, ?_⟩
    intro S wl w M0 M ρ f ds ha
    have hr := evalV_rel (ds := ds) ha g
    split at h
    · rename_i gf' first' cap' hv
      cases h
      rw [hv] at hr
      simp only [RelV] at hr
      exact hr
    · rename_i gf' hv
      cases h
      rw [hv] at hr
      have hr := relV_d hr
      generalize (fr N f ds).eval g = u at hr ⊢
      cases hr
      exact ⟨[], [], rfl, by simp only [RelVs], by simp only [RelVs]⟩
    · cases h
  · cases h


/-! ### Marks -/
/-- Deferred calls: marks, and what lies below them. -/
def dfsB (base : List Deferred) : List Nat → List Deferred
  | [] => base
  | D :: Ds => { target := .collected D, args := #[] } :: dfsB base Ds
abbrev dfs (Ds : List Nat) : List Deferred := dfsB [] Ds
def RetO (wl : World) (M0 : Mem) : Option V → Ending → World → Prop
  | some v => RetD wl M0 v
  | none => PanD wl M0
/-- What is known of the world behind marks; Ds: the blocks of the marks. -/
def HM (w0 : World) (M00 : Mem) (Ds : List Nat) (S : Hand) (wl : World) (M0 : Mem) : Prop :=
  Ext M00 M0 w0 wl ∧ (∀ b, S.s b → w0.heap.size ≤ b) ∧ (∀ D, D ∈ Ds → w0.heap.size ≤ D ∧ D < wl.heap.size ∧ ¬ S.s D ∧ M0 D = none ∧ wl.heap[D]? = some (.deferred (some []))) ∧ Ds.Nodup
/-- The aim of a function that ranges over functions, or defers. -/
def finD (P : Program) (fn : Func) (v : Option V) (w0 : World) (M00 : Mem) (hr : Rho) (Ds : List Nat) : Fin where
  H := fun S wl M0 => S.r0 = hr ∧ HM w0 M00 Ds S wl M0
  post := fun _ _ _ e a w => bodyPostM (WF none) 0 P fn (RetO w0 M00 v) e a w
abbrev finM (P : Program) (fn : Func) (v : V) (w0 : World) (M00 : Mem) (Ds : List Nat) : Fin := finD P fn (some v) w0 M00 noR Ds
section
variable {P : Program} {N : Nat} {fn : Func} {v : V} {w0 : World} {M00 : Mem} {Ds : List Nat} {c : Cfg} {S : Hand} {wl w : World} {M0 M : Mem} {ρ : Rho} {ob : Nat → Option IObj} {f : Nat → Value}
theorem HM_base (hH : HM w0 M00 Ds S wl M0) (h : Ow S wl M0 M ρ ob w) (hn : ∀ q z, ob q ≠ some (.frn z)) :
    HM w0 M00 Ds ⟨TA ρ ob, noR⟩ w M ∧ Ow ⟨TA ρ ob, noR⟩ w M M ρ ob w := by
  obtain ⟨h1, h2, h3, h4⟩ := hH
  refine ⟨⟨⟨⟨h.os.trans h1.below.os, h.tape.trans h1.below.tape, h.output.trans h1.below.output, Nat.le_trans h1.below.size h.size, fun k hk => ?_⟩, Mem.le_trans h1.le h.le, h.sits, fun b c hb hlt => ?_⟩, fun b hb => ?_, fun D hD => ?_, h4⟩, h.base M.le_refl h.sits (Nat.le_refl _) (fun k hk => ⟨rfl, rfl⟩) (fun q i hq _ => absurd hq (hn q q)) (fun q z hq => absurd hq (hn q z)) (fun _ _ _ h => (by cases h)) h.szw⟩
  · rw [h.old k (Nat.lt_of_lt_of_le hk h1.below.size) (fun hs => by have := h2 k hs; omega)]; exact h1.below.block k hk
  · rcases h.new b c hb (Nat.lt_of_lt_of_le hlt h1.below.size) with h5 | h5
    · exact h1.new b c h5 hlt
    · have := h2 b h5; omega
  · rcases (TA_mine h hb).1 with h5 | h5
    · exact h2 b h5
    · exact Nat.le_trans h1.below.size h5
  · obtain ⟨a1, a2, a3, a4, a5⟩ := h3 D hD
    refine ⟨a1, Nat.lt_of_lt_of_le a2 h.size, fun ht => ?_, ?_, by rw [h.old D a2 a3]; exact a5⟩
    · rcases (TA_mine h ht).1 with h5 | h5
      · exact a3 h5
      · omega
    · cases hm : M D with
      | none => rfl
      | some c =>
        rcases h.new D c hm a2 with h5 | h5
        · rw [a4] at h5; cases h5
        · exact absurd h5 a3
/-- On the way out the marks are shut, one by one. -/
theorem pop_marks {tmps : Array Value} {R : Ending → World → Prop} {base : List Deferred} {u : FrameMode} (hu : u ≠ .run) (hn : ∀ q z, ob q ≠ some (.frn z)) (hbase : ∀ S w, HM w0 M00 [] S w M → Ow S w M M ρ ob w → LeavesInM (WF none) 0 P fn tmps R base u w) :
    ∀ (Ds : List Nat) (S : Hand) (wl w : World) (M0 : Mem), HM w0 M00 Ds S wl M0 → Ow S wl M0 M ρ ob w → LeavesInM (WF none) 0 P fn tmps R (dfsB base Ds) u w
  | [], S, wl, w, M0, hH, h => by
    obtain ⟨h1, h2⟩ := HM_base hH h hn
    exact hbase _ _ h1 h2
  | D :: Ds, S, wl, w, M0, hH, h => by
    obtain ⟨⟨h1, h2, h3, h4⟩, h5⟩ := HM_base hH h hn
    obtain ⟨a1, a2, a3, a4, a5⟩ := h3 D List.mem_cons_self
    refine ⟨hu, .inl ⟨D, w.putObj D (.deferred none), rfl, run_takeDeferred a5, ?_⟩⟩
    have hoth : ∀ k, k ≠ D → (w.putObj D (.deferred none)).heap[k]? = w.heap[k]? := fun k hk => World.putObj_heap_other hk
    have hsits : Sits M (w.putObj D (.deferred none)) := fun b c hb => by
      have : b ≠ D := fun e => by rw [e, a4] at hb; cases hb
      rw [hoth b this]; exact h5.sits b c hb
    refine pop_marks hu hn hbase Ds ⟨TA ρ ob, noR⟩ (w.putObj D (.deferred none)) (w.putObj D (.deferred none)) M ⟨⟨⟨h1.below.os, h1.below.tape, h1.below.output, by simpa using h1.below.size, fun k hk => ?_⟩, h1.le, hsits, h1.new⟩, h2, fun D' hD' => ?_, (List.nodup_cons.1 h4).2⟩ ?_
    · rw [hoth k (by omega)]; exact h1.below.block k hk
    · obtain ⟨b1, b2, b3, b4, b5⟩ := h3 D' (List.mem_cons_of_mem _ hD')
      refine ⟨b1, by simpa using b2, b3, b4, ?_⟩
      rw [hoth D' (fun e => (List.nodup_cons.1 h4).1 (e ▸ hD'))]; exact b5
    · exact h.base M.le_refl hsits (by simp) (fun k hk => ⟨hoth k (fun e => a3 (e ▸ hk)), rfl⟩) (fun q i hq _ => absurd hq (hn q q)) (fun q z hq => absurd hq (hn q z)) (fun _ _ _ h => (by cases h)) (h.szw.frame fun k _ ⟨cs, e⟩ => hoth k fun e' => by
      obtain ⟨us, ⟨c, hc, _⟩, _⟩ := h.gl.ok.d k cs e
      rw [e', a4] at hc; cases hc)
theorem noFrn_spec {l : List (Nat × IObj)} (h : noFrn l = true) : ∀ q z, obGet l q ≠ some (.frn z) := noFrnP h
/-- The results, read behind all deferred calls. -/
theorem ret_read {rs : List ResultVar} {vs xs ys : List V} {wr : Wr} (hfn : fn.results = rs.toArray) (hv : retV P N c rs = some vs) (hx : argsOf (obGet c.ob) vs = some (xs, wr)) (hre : Res' xs ys) (he : tupV ys = v)
    (hH : HM w0 M00 [] S wl M0) (h : Abs S wl M0 M ρ N c f w) : LeavesInM (WF none) 0 P fn (fr N f []).tmps (RetD w0 M00 v) [] .returning w := by
  obtain ⟨us, h3, h4⟩ := retV_ok h hv
  obtain ⟨M', r1, o1, d1⟩ := argsOf_sound h.ow h4 hx
  obtain ⟨h1, h2, _⟩ := hH
  refine ⟨tupv us, results_run (ds := []) hfn h3, tupv us, M', rfl, ⟨⟨o1.os.trans h1.below.os, o1.tape.trans h1.below.tape, o1.output.trans h1.below.output, Nat.le_trans h1.below.size o1.size, fun k hk => ?_⟩, Mem.le_trans h1.le o1.le, o1.sits, fun b c hb hlt => ?_⟩, ?_⟩
  · rw [o1.old k (Nat.lt_of_lt_of_le hk h1.below.size) (fun hs => by have := h2 k hs; omega)]; exact h1.below.block k hk
  · rcases o1.new b c hb (Nat.lt_of_lt_of_le hlt h1.below.size) with h5 | h5
    · exact h1.new b c h5 hlt
    · have := h2 b h5; omega
  · rw [← he]
    exact tupV_rel (hre.rel (d1 noR))
/-- A return, marks and all. -/
theorem J_retM {rs : List ResultVar} {xs : List V} (ys : List V) (hfn : fn.results = rs.toArray) (hN : Nat.ble N 1024 = true) (hv : retOf P N c rs = some xs) (hre : Res' xs ys) (he : tupV ys = v) (hn : noFrn c.ob = true) : J none P N (dfs Ds) (finM P fn v w0 M00 Ds) c := by
  refine ⟨nb_le hN, fun S wl M0 hH M ρ f w h => ?_⟩
  unfold retOf at hv
  split at hv
  · rename_i hat
    split at hv
    · rename_i vs hvs
      split at hv
      · rename_i xs' wr hx
        cases hv
        have key : bodyPostM (WF none) 0 P fn (RetD w0 M00 v) .ret (fr N f (dfs Ds)) w := pop_marks (tmps := (fr N f []).tmps) (by intro e; cases e) (noFrn_spec hn) (fun S w h1 h2 => ret_read hfn hvs hx hre he h1 ⟨h2, h.ok, h.sl⟩) Ds S wl w M0 hH.2 h.ow
        unfold atRet at hat
        split at hat
        · rename_i ht
          rw [ht]
          exact W_ret (Wk_ret _ hat key)
        · rename_i ht
          rw [ht]
          exact key
        · cases hat
      · cases hv
    · cases hv
  · cases hv
/-- A panic goes through, marks and all. -/
theorem JP_M {sl : Tri} {l : List (Nat × IObj)} (hn : noFrn l = true) : JP N (dfs Ds) (finD P fn none w0 M00 noR Ds) sl l := by
  intro S wl M0 hH r1 M ρ w f t u _ h _
  have hbase : ∀ S w, HM w0 M00 [] S w M → Ow S w M M ρ (obGet l) w → LeavesInM (WF none) 0 P fn (fr N f []).tmps (PanD w0 M00) [] (.panicking [{ v := .iface t u, recovered := false }]) w := fun S w h1 _ => ⟨⟨t, u, rfl⟩, M, h1.1⟩
  exact pop_marks (by intro e; cases e) (noFrn_spec hn) hbase Ds ⟨S.s, r1⟩ wl w M0 hH.2 h
/-- A function's contract out of its body's walk, deferred calls and all. -/
theorem entryM {g : FuncId} {c : Code} {vs : List Value} {R : Ending → World → Prop} (hf : P.funcs[g]? = some fn) (hb : fn.body = some c) (hN : fn.ntmps = N) (hv : vs.length ≤ N)
    (h : W none P c (bodyPostM (WF none) 0 P fn R) (fr N (argf vs) []) w) : Calls P g vs.toArray w R := by
  refine CallsIn.calls (F := WF none) (n := 0) ⟨trivial, fun cs hr => ?_⟩ (WF_room none)
  let b : Frame := { (default : Frame) with fn := g, kind := .normal, roundOf := none }
  have henter : Frame.enter P g vs.toArray .normal = b.atR (fr N (argf vs) []) [.code c] := by
    rw [← fr_entry N vs hv, ← hN]
    simp [Frame.enter, Frame.atR, hf, hb, b]
  obtain ⟨e, a', w', hq, harr⟩ := W_at h b [] cs rfl ⟨fn, hf⟩
  rw [← henter] at harr
  cases e with
  | normal =>
    obtain ⟨e', w'', fr', hR, hs, hfn, hl⟩ := leaves_stepsInM (F := WF none) a'.defers .returning w' { b.atR a' [] with mode := .returning } cs rfl rfl rfl hf rfl trivial hr hq
    exact ⟨e', w'', fr', hR, ComesIn.of_steps (StepsIn.trans harr (.one (WF_calm (fr := b.atR a' []) rfl) (stepR_end rfl))) hs, hfn, hl⟩
  | ret =>
    obtain ⟨todo, hs₀⟩ := harr.1 rfl
    obtain ⟨e', w'', fr', hR, hs, hfn, hl⟩ := leaves_stepsInM (F := WF none) a'.defers .returning w' { b.atR a' todo with mode := .returning } cs rfl rfl rfl hf rfl trivial hr hq
    exact ⟨e', w'', fr', hR, ComesIn.of_steps hs₀ hs, hfn, hl⟩
  | panic chain =>
    obtain ⟨todo, hs₀⟩ := harr
    obtain ⟨e', w'', fr', hR, hs, hfn, hl⟩ := leaves_stepsInM (F := WF none) a'.defers (.panicking chain) w' { b.atR a' todo with mode := .panicking chain } cs rfl rfl rfl hf rfl trivial hr hq
    exact ⟨e', w'', fr', hR, ComesIn.of_steps hs₀ hs, hfn, hl⟩
  | exit id => exact hq.elim
  | goto l => exact hq.elim
  | outgrown => exact ⟨.outgrown, w', b, hq, harr.resolve_left (by simp [b]), rfl, trivial⟩
theorem callM_O {g : FuncId} {b : Code} {args : List V} {o : Option V} (hf : P.funcs[g]? = some fn) (hb : fn.body = some b) (hN : fn.ntmps = N) (hv : Nat.ble args.length N = true) (h : ∀ w0 M00, J none P N (dfs []) (finD P fn o w0 M00 noR []) ⟨mkT (argT 0 args), [], [.code b]⟩) : CallO P g args o := by
  have key : ∀ M w vals, Sits M w → GlA M w → RelVs M noR args vals → Calls P g vals.toArray w (RetO w M o) := by
    intro M w vals hs hgl hr
    have hl := nb_le hv
    refine entryM hf hb hN (by rw [hr.len]; exact hl) ?_
    have h := h w M
    have := h.2 ⟨fun _ => False, noR⟩ w M ⟨rfl, Ext.refl hs, fun _ h => h.elim, fun _ h => (by cases h), List.nodup_nil⟩ M noR (argf vals) w ⟨⟨Nat.le_refl _, rfl, rfl, rfl, fun _ _ _ => rfl, hs, M.le_refl, hgl.entry (fun _ _ _ h => h), fun _ _ h _ => .inl h, fun r o h => (by simp [obGet] at h), fun r i h => (by cases h), fun r r' o o' i i' h => (by simp [obGet] at h), fun r i _ h => (by cases h)⟩, mkT_ok _, mkT_rel h.1 _ (fun t v hm => by
      obtain ⟨_, h2⟩ := argT_mem hm
      rw [Nat.sub_zero] at h2
      obtain ⟨u, h3, h4⟩ := hr.get h2
      exact ⟨Nat.lt_of_lt_of_le (List.getElem?_eq_some_iff.1 h2).1 hl, by unfold argf; rw [h3]; exact h4⟩)⟩
    simp only [Wk, Exit.then] at this
    exact this
  cases o with
  | some v => exact key
  | none => exact key
theorem callM_of {g : FuncId} {b : Code} {args : List V} (hf : P.funcs[g]? = some fn) (hb : fn.body = some b) (hN : fn.ntmps = N) (hv : Nat.ble args.length N = true) (h : ∀ w0 M00, J none P N (dfs []) (finM P fn v w0 M00 []) ⟨mkT (argT 0 args), [], [.code b]⟩) : CallF P g args v :=
  callM_O (o := some v) hf hb hN hv h
end

/-- What lies there between two rounds: nothing that is another's; closed; K is in it. -/
def okB (K : List Nat) (ob : List (Nat × IObj)) : Bool := match noFrn ob, closedAll (obGet ob) (idsOf ob) (idsOf ob), subN K (idsOf ob), memN 3000 (idsOf ob), memN 3001 (idsOf ob) with
  | true, true, true, false, false => true
  | _, _, _, _, _ => false
theorem okB_spec {K : List Nat} {ob : List (Nat × IObj)} (h : okB K ob = true) : noFrn ob = true ∧ closedAll (obGet ob) (idsOf ob) (idsOf ob) = true ∧ subN K (idsOf ob) = true ∧ memN 3000 (idsOf ob) = false ∧ memN 3001 (idsOf ob) = false := by
  unfold okB at h
  split at h
  · rename_i h1 h2 h3 h4 h5; exact ⟨h1, h2, h3, h4, h5⟩
  · cases h

/-! ### The ends of a round -/
def exitOut (id : Nat) : List It → Bool
  | [] => true
  | .inBlock i :: k => match Nat.beq i id with | true => false | false => exitOut id k
  | .begR _ :: _ => false
  | _ :: k => exitOut id k
theorem exitOut_wk {r : Option Nat} {P : Program} {fin' : Exit → Act → World → Prop} {id : Nat} {a : Act} {w : World} : ∀ {k : List It}, exitOut id k = true → fin' (.exit id) a w → Wk r P fin' k (.exit id) a w
  | [], _, hw => hw
  | .inBlock i :: k, h, hw => by
    unfold exitOut at h
    split at h
    · cases h
    · rename_i hb
      have hne : ¬ id = i := fun e => by subst e; simp at hb
      simp only [Wk, Exit.inBlock, if_neg hne]
      exact exitOut_wk h hw
  | .code c :: k, h, hw => by simp only [Wk, Exit.then]; exact exitOut_wk (k := k) h hw
  | .inLoop b :: k, h, hw => by simp only [Wk, Exit.then]; exact exitOut_wk (k := k) h hw
  | .inScope :: k, h, hw => by simp only [Wk, Exit.noGoto]; exact exitOut_wk (k := k) h hw
  | .ops a b :: k, h, hw => by simp only [Wk, Exit.then]; exact exitOut_wk (k := k) h hw
  | .begR _ :: _, h, _ => by cases h
section
variable {P : Program} {N : Nat} {x : Lp} {Good : List (List V) → List (Nat × IObj) → Prop} {GoodX : Code → List (Nat × IObj) → Prop} {GoodP : List (Nat × IObj) → Prop} {ys : List (List V)} {c : Cfg}
theorem J_endB (hN : Nat.ble N 1024 = true) (ob : List (Nat × IObj)) (ht : c.td = []) (hob : c.ob = rob x .busy none ob) (hn : noFrn ob = true) (hg : Good ys ob) : J (some x.L) P N [] (finB x Good GoodX GoodP ys) c := by
  refine ⟨nb_le hN, fun S wl M0 hH M ρ f w h => ?_⟩
  rw [ht]
  exact ⟨rfl, .inl ⟨ρ, M, ob, hob ▸ h.ow, noFrn_spec hn, .inl ⟨rfl, hg⟩⟩⟩
theorem J_exitB (hN : Nat.ble N 1024 = true) (ob : List (Nat × IObj)) {id : Nat} {k : List It} (ht : c.td = .code (.exit id) :: k) (hk : exitOut id k = true) (hob : c.ob = rob x .busy none ob) (hn : noFrn ob = true) (hg : GoodX (.exit id) ob) : J (some x.L) P N [] (finB x Good GoodX GoodP ys) c := by
  refine ⟨nb_le hN, fun S wl M0 hH M ρ f w h => ?_⟩
  rw [ht]
  exact W_exit (exitOut_wk hk ⟨rfl, .inl ⟨ρ, M, ob, hob ▸ h.ow, noFrn_spec hn, .inr (.inr ⟨id, rfl, hg⟩)⟩⟩)
theorem J_retB (hN : Nat.ble N 1024 = true) (ob : List (Nat × IObj)) {k : List It} (ht : c.td = .code .ret :: k) (hk : noBeg k = true) (hob : c.ob = rob x .busy none ob) (hn : noFrn ob = true) (hg : GoodX .ret ob) : J (some x.L) P N [] (finB x Good GoodX GoodP ys) c := by
  refine ⟨nb_le hN, fun S wl M0 hH M ρ f w h => ?_⟩
  rw [ht]
  exact W_ret (Wk_ret _ hk ⟨rfl, .inl ⟨ρ, M, ob, hob ▸ h.ow, noFrn_spec hn, .inr (.inl ⟨rfl, hg⟩)⟩⟩)
theorem JP_B {sl : Tri} (ob : List (Nat × IObj)) (hn : noFrn ob = true) (hg : GoodP ob) : JP N [] (finB x Good GoodX GoodP ys) sl (rob x .busy none ob) := fun S wl M0 _ r1 M ρ w f t u hr h _ =>
  ⟨rfl, .inr ⟨⟨t, u, rfl⟩, r1, ρ, M, ob, h, hr, noFrn_spec hn, hg⟩⟩
end

/-! ### Other numbers -/
def mapTri (g : V → V) : Tri → Tri
  | .e => .e
  | .lf v => .lf (g v)
  | .nd l r => .nd (mapTri g l) (mapTri g r)
theorem mapTri_get {g : V → V} (hg : g .undef = .undef) : ∀ (d : Nat) (t : Tri) (n : Nat), (mapTri g t).get d n = g (t.get d n)
  | d, .e, n => by simp only [mapTri]; rw [Tri.get_e, hg]
  | 0, .lf v, n => rfl
  | d + 1, .lf v, n => by simp only [mapTri, Tri.get]; try exact hg.symm
  | 0, .nd l r, n => by simp only [mapTri, Tri.get]; try exact hg.symm
  | d + 1, .nd l r, n => by
    simp only [mapTri, Tri.get]
    split
    · exact mapTri_get hg d l _
    · exact mapTri_get hg d r _
theorem mapTri_ok {g : V → V} : ∀ (d : Nat) (t : Tri), t.ok d → (mapTri g t).ok d
  | 0, .e, _ => trivial
  | _ + 1, .e, _ => trivial
  | 0, .lf _, _ => rfl
  | d + 1, .lf _, h => h
  | 0, .nd _ _, h => h
  | d + 1, .nd l r, h => ⟨mapTri_ok d l h.1, mapTri_ok d r h.2⟩
def renL (p : List (Nat × Nat)) (ob : Nat → Option IObj) : List (Nat × Nat) → List (Nat × IObj)
  | [] => []
  | (a, b) :: l => match ob a with | some o => (b, renO p o) :: renL p ob l | none => renL p ob l
theorem renL_get {p : List (Nat × Nat)} {ob : Nat → Option IObj} (q : Nat) : ∀ l : List (Nat × Nat), (∀ a b, (a, b) ∈ l → ∃ o, ob a = some o) → obGet (renL p ob l) q = match lk (inv l) q with | some a => (match ob a with | some o => some (renO p o) | none => none) | none => none
  | [], _ => rfl
  | (a, b) :: l, h => by
    obtain ⟨o, ha⟩ := h a b List.mem_cons_self
    have ih := renL_get (p := p) q l (fun a b hm => h a b (List.mem_cons_of_mem _ hm))
    simp only [renL, inv, lk, ha, obGet]
    cases hq : Nat.beq q b with
    | true => simp only [ha]
    | false => exact ih
def allIn (p : List (Nat × Nat)) (ob : Nat → Option IObj) : List (Nat × Nat) → Bool
  | [] => true
  | (a, _) :: l => match ob a with | some _ => allIn p ob l | none => false
def bigSame (p : List (Nat × Nat)) : List (Nat × IObj) → Bool
  | [] => true
  | (r, _) :: l => match Nat.ble 2000 r with
    | true => match lk p r with | some s => (match Nat.beq s r with | true => bigSame p l | false => false) | none => false
    | false => bigSame p l
theorem bigSame_spec {p : List (Nat × Nat)} : ∀ {l : List (Nat × IObj)} {r : Nat} {o : IObj}, bigSame p l = true → obGet l r = some o → Nat.ble 2000 r = true → lk p r = some r
  | [], _, _, _, h, _ => by cases h
  | (q, x) :: l, r, o, h, ho, hb => by
    unfold bigSame at h
    simp only [obGet] at ho
    cases hq : Nat.beq r q with
    | true =>
      obtain rfl := Nat.eq_of_beq_eq_true hq
      rw [hb] at h
      simp only at h
      split at h
      · rename_i s hs
        split at h
        · rename_i he; rw [hs, Nat.eq_of_beq_eq_true he]
        · cases h
      · cases h
    | false =>
      rw [hq] at ho
      refine bigSame_spec (l := l) ?_ ho hb
      split at h
      · split at h
        · split at h
          · exact h
          · cases h
        · cases h
      · exact h
section
variable {r : Option Nat} {P : Program} {N : Nat} {ds : List Deferred} {fin : Fin} {c : Cfg}
theorem allIn_spec {p : List (Nat × Nat)} {ob : Nat → Option IObj} : ∀ {l : List (Nat × Nat)}, allIn p ob l = true → ∀ a b, (a, b) ∈ l → ∃ o, ob a = some o
  | [], _, a, b, h => by cases h
  | (x, y) :: l, h, a, b, hm => by
    unfold allIn at h
    split at h
    · rename_i o ho
      rcases List.mem_cons.1 hm with e | hm
      · cases e; exact ⟨o, ho⟩
      · exact allIn_spec h a b hm
    · cases h
/-- Other numbers for the objects; what p does not name is let go. -/
theorem J_ren (p : List (Nat × Nat)) (hb : bij p = true) (ha : allIn p (obGet c.ob) p = true) (hs : bigSame p c.ob = true) (hn : noFrn c.ob = true) (hk : J r P N ds fin ⟨mapTri (renV p) c.sl, renL p (obGet c.ob) p, c.td⟩) : J r P N ds fin c := by
  refine ⟨hk.1, fun S wl M0 hH M ρ f w h => ?_⟩
  have e : renOb p (obGet c.ob) = obGet (renL p (obGet c.ob) p) := by
    funext q
    rw [renL_get q p (fun a b hm => allIn_spec ha a b hm)]
    unfold renOb
    cases lk (inv p) q with
    | none => rfl
    | some a => rfl
  have ho := h.ow.ren (r1 := S.r0) hb (fun a o t h1 h2 => by
    cases hf : isFrn o with
    | false => rfl
    | true =>
      cases o with
      | frn z => exact absurd h2 (noFrn_spec hn a z)
      | _ => cases hf) (fun t i hbt hi => by
    obtain ⟨j, h1, h2⟩ := h.ow.held t i hbt hi
    obtain ⟨o, h3⟩ := h.ow.dom t j h1
    exact ⟨j, by rw [renR_at hb (bigSame_spec hs h3 hbt)]; exact h1, h2⟩)
  rw [e] at ho
  refine hk.2 S wl M0 hH M (renR p ρ) f w ⟨ho, mapTri_ok 10 _ h.ok, fun t ht => ?_⟩
  dsimp only
  rw [mapTri_get rfl]
  exact ren_rel hb _ (h.sl t ht)
/-- The same where what was handed in keeps its number. -/
theorem J_renD {fn : Func} {v : Option V} {w0 : World} {M00 : Mem} {Ds : List Nat} {hr : Rho} (p : List (Nat × Nat)) (hhr : ∀ t i, hr t = some i → lk (inv p) t = some t) (hb : bij p = true) (ha : allIn p (obGet c.ob) p = true) (hn : noFrn c.ob = true) (hk : J r P N ds (finD P fn v w0 M00 hr Ds) ⟨mapTri (renV p) c.sl, renL p (obGet c.ob) p, c.td⟩) : J r P N ds (finD P fn v w0 M00 hr Ds) c := by
  refine ⟨hk.1, fun S wl M0 hH M ρ f w h => ?_⟩
  have e : renOb p (obGet c.ob) = obGet (renL p (obGet c.ob) p) := by
    funext q
    rw [renL_get q p (fun a b hm => allIn_spec ha a b hm)]
    unfold renOb
    cases lk (inv p) q with
    | none => rfl
    | some a => rfl
  have ho := h.ow.ren (r1 := S.r0) hb (fun a o t h1 h2 => by
    cases hf : isFrn o with
    | false => rfl
    | true =>
      cases o with
      | frn z => exact absurd h2 (noFrn_spec hn a z)
      | _ => cases hf) (fun t i hbt hi => by
    obtain ⟨j, h1, h2⟩ := h.ow.held t i hbt hi
    rw [show S.r0 = hr from hH.1] at hi
    exact ⟨j, by unfold renR; rw [hhr t i hi]; exact h1, h2⟩)
  rw [e] at ho
  refine hk.2 S wl M0 hH M (renR p ρ) f w ⟨ho, mapTri_ok 10 _ h.ok, fun t ht => ?_⟩
  dsimp only
  rw [mapTri_get rfl]
  exact ren_rel hb _ (h.sl t ht)
/-- The same where nothing was handed in. -/
theorem J_renM {fn : Func} {v : Option V} {w0 : World} {M00 : Mem} {Ds : List Nat} (p : List (Nat × Nat)) (hb : bij p = true) (ha : allIn p (obGet c.ob) p = true) (hn : noFrn c.ob = true) (hk : J r P N ds (finD P fn v w0 M00 noR Ds) ⟨mapTri (renV p) c.sl, renL p (obGet c.ob) p, c.td⟩) : J r P N ds (finD P fn v w0 M00 noR Ds) c :=
  J_renD p (fun _ _ h => by cases h) hb ha hn hk
theorem hJ_of {fin : Fin} {sl : Tri} {ps : List Tmp} {y : List V} {ob : List (Nat × IObj)} {td : List It} (h1 : (setPs N sl ps y).isSome = true) (h2 : J r P N ds fin ⟨(setPs N sl ps y).getD .e, ob, td⟩) : ∃ sl', setPs N sl ps y = some sl' ∧ J r P N ds fin ⟨sl', ob, td⟩ := by
  cases h : setPs N sl ps y with
  | none => rw [h] at h1; cases h1
  | some sl' => rw [h] at h2; exact ⟨sl', rfl, h2⟩
end
/-- Parts of lists. -/
theorem smh {α β : Type} {l k : List α} {f : α → β} {lo : Int} (h : slc l lo (l.length : Int) = some k) : slc (l.map f) lo ((l.map f).length : Int) = some (k.map f) := by
  rw [List.length_map]; exact sm h
theorem gmd {α β : Type} {l : List α} {f : α → β} {n : Nat} {i : Int} {y : α} (h : geti (l.drop n) i = some y) : geti ((l.map f).drop n) i = some (f y) := by
  rw [← List.map_drop]; exact gm h
theorem amd {α β : Type} {l m k : List α} {f : α → β} {n : Nat} (h : app (l.drop n) m = some k) : app ((l.map f).drop n) (m.map f) = some (k.map f) := by
  rw [← List.map_drop]; exact am h
theorem gjd {α : Type} {l : List α} {n : Nat} {i : Int} {y : α} (h : geti (l.drop n) i = some y) : l[(n + i.toNat)]? = some y := by
  have := (geti_nat h).2
  rwa [List.getElem?_drop] at this
end Go.Proofs.YtilfjfpemjfalaaGreatDoor.Kx
