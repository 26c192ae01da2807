/- One part of the texts that lead to the theorem; it claims nothing by itself. -/
import Derived.RangeFuncRecord
import Derived.RangeFuncIn
import Derived.RangeFuncLeaves
import Derived.Laws.Externs
import Derived.RecoverIn
import GoSem.ClaimChange
import GoSem.ClaimWide
import Derived.Lay
import Derived.LaidMore
import Derived.ProofKit
import Derived.OpenShut
import Derived.Handed
import Derived.Stop.Joined
import Derived.SevenTiedAt
import Derived.Test.YtfgbhfphjmmiaaaGreatDoorKnb
section
/- Functions that are ranged over: the iterator's side. -/
namespace Go.Proofs.YtfgbhfphjmmiaaaGreatDoor.Kx
open Go Go.RowKit
/-- A call of yield. -/
def Yields (P : Program) (l : Nat) (vals : List Value) (w : World) (R : Ending → World → Prop) : Prop :=
  ∃ fn tmps assign body, (Instr.yield l vals.toArray).run P w = .ok (.round l fn tmps assign body) w ∧ RoundIn (WF none) 0 P l fn tmps assign body w R
/-- What the one who ranges promises; ys: what is still to come. -/
structure RoundsOk (P : Program) (l : Nat) (Inv : List (List V) → (Nat → Prop) → Mem → World → Prop) (Stop Pan : (Nat → Prop) → Mem → World → Prop) : Prop where
  inv : ∀ ys T M w T' M' w', Inv ys T M w → ItStep T M w T' M' w' → Inv ys T' M' w'
  stop : ∀ T M w T' M' w', Stop T M w → ItStep T M w T' M' w' → Stop T' M' w'
  round : ∀ y ys T M w vals, Inv (y :: ys) T M w → Sits M w → RelVs M noR y vals → (∀ b, T b → b < w.heap.size) → Yields P l vals w (fun e w' => ∃ M', M.le M' ∧ Sits M' w' ∧ Sz w' ∧ w.heap.size ≤ w'.heap.size ∧ (∀ k, T k → w'.heap[k]? = w.heap[k]? ∧ M' k = M k) ∧
    ((e = .returned (.bool true) ∧ Inv ys T M' w') ∨ (e = .returned (.bool false) ∧ Stop T M' w') ∨ (panE e ∧ Pan T M' w')))
/-- How an iterator ends; fl: by a panic of its own, behind all that it yields. -/
def endI (Inv : List (List V) → (Nat → Prop) → Mem → World → Prop) (Stop Pan : (Nat → Prop) → Mem → World → Prop) (fl : Bool) : Ending → World → Prop := fun e w' =>
  ∃ T' M', (∃ v, e = .returned v ∧ ((fl = false ∧ Inv [] T' M' w') ∨ Stop T' M' w')) ∨ (panE e ∧ ((fl = true ∧ Inv [] T' M' w') ∨ Pan T' M' w'))
section
variable {S : Hand} {wl w w' : World} {M0 M M' : Mem} {ρ : Rho} {ob : Nat → Option IObj}
/-- Behind a round: what is our own stands as it stood; the base is laid anew. -/
theorem Ow.base (h : Ow S wl M0 M ρ ob w) {r0 : Rho} (hle : M.le M') (hs : Sits M' w') (hsz : w.heap.size ≤ w'.heap.size) (hk : ∀ k, TA ρ ob k → w'.heap[k]? = w.heap[k]? ∧ M' k = M k)
    (hfr : ∀ q i, ob q = some (.frn q) → ρ q = some i → r0 q = some i) (hfq : ∀ q x, ob q = some (.frn x) → x = q) (hh : ∀ r i, Nat.ble 2000 r = true → r0 r = some i → ρ r = some i) (hz : Sz w') : Ow ⟨TA ρ ob, r0⟩ w' M' M' ρ ob w' := by
  have hr : Rle M M' ρ ρ := ⟨hle, fun _ j hj => ⟨j, hj, Ile.refl j⟩⟩
  refine ⟨Nat.le_refl _, rfl, rfl, rfl, fun _ _ _ => rfl, hs, M'.le_refl, ⟨h.gl.ok.mono hle, fun _ _ e hb => h.offm e (TA_mine h hb).1, hz⟩, fun _ _ hb _ => .inl hb, fun r o ho => ?_, h.dom, h.inj, fun r i hb hi => ⟨i, hh r i hb hi, Ile.refl i⟩⟩
  obtain ⟨i, hi, hok⟩ := h.own r o ho
  refine ⟨i, hi, ?_⟩
  have hTb : ∀ b, blk i o b → TA ρ ob b := fun b hl => ⟨r, i, o, hi, ho, hl⟩
  have hT : live i o → TA ρ ob i.b := fun hl => hTb _ (blk_live hl)
  have hok' := hok.mono hr (fun _ hl => (hk _ (hTb _ hl)).2) (fun _ hl => (hk _ (hTb _ hl)).1)
  cases o with
  | tree g e sz shs es hh => exact ObjOk.tree hok' (fun b hb => .inl (hTb b hb)) (fun _ _ _ _ h => h)
  | box te cs =>
    obtain ⟨h0, h1, rest⟩ := hok'
    exact ⟨h0, ⟨.inl (hT trivial), h1.2⟩, rest⟩
  | buf g e sz es =>
    obtain ⟨h0, hg, hss, hn, ht, hx, h1⟩ := hok'
    refine ⟨h0, hg, hss, hn, ht, hx, fun hp => ?_⟩
    obtain ⟨h1, rest⟩ := h1 hp
    exact ⟨⟨.inl (hT hp), h1.2⟩, rest⟩
  | fzs g sz es => exact hok'
  | fzb cs => exact hok'
  | mapo kk ag sz es =>
    obtain ⟨h0, h1, rest⟩ := hok'
    exact ⟨h0, ⟨.inl (hT trivial), h1.2⟩, rest⟩
  | raw b x =>
    obtain ⟨h0, e, h1, rest⟩ := hok'
    exact ⟨h0, e, ⟨.inl (hT trivial), h1.2⟩, rest⟩
  | frn q =>
    obtain rfl := hfq r q ho
    exact hfr _ i ho hi
end
/-- The iterator's aim. st: what is still to come; none: it was told to stop. -/
def finI (P : Program) (fn : Func) (l : Nat) (Inv : List (List V) → (Nat → Prop) → Mem → World → Prop) (Stop Pan : (Nat → Prop) → Mem → World → Prop) (fl : Bool) (st : Option (List (List V))) : Fin where
  H := fun S wl M0 => (match st with | some ys => Inv ys S.s M0 wl | none => Stop S.s M0 wl) ∧ ∃ i, S.r0 2000 = some i ∧ i.b = l
  post := fun _ _ _ e a w => bodyPost P fn (endI Inv Stop Pan fl) e a w
def frnOk : List (Nat × IObj) → Bool
  | [] => true
  | (r, o) :: l => match o with | .frn x => (match Nat.beq x r with | true => frnOk l | false => false) | _ => frnOk l
theorem frnOk_spec : ∀ {l : List (Nat × IObj)}, frnOk l = true → ∀ q x, obGet l q = some (.frn x) → x = q
  | [], _, q, x, h => by cases h
  | (r, o) :: l, h, q, x, hx => by
    unfold frnOk at h
    simp only [obGet] at hx
    split at hx
    · rename_i hb
      obtain rfl := Nat.eq_of_beq_eq_true hb
      cases hx
      simp only at h
      split at h
      · rename_i hb; exact Nat.eq_of_beq_eq_true hb
      · cases h
    · split at h
      · split at h
        · exact frnOk_spec h q x hx
        · cases h
      · exact frnOk_spec h q x hx
/-- A call of yield: what is handed over. -/
def yieldOf (N : Nat) (c : Cfg) : Option (List V × Wr) := match c.td with
  | .ops all (o :: _) :: _ => match gd N c.sl all o, o.op with
    | some true, .call cl => match cl.callee with
      | .value f => match evalV N c.sl f, obGet c.ob 2000, frnOk c.ob with
        | .yl 2000, some (.frn 2000), true => argsOf (obGet c.ob) (evsV (evalV N c.sl) cl.args.toList)
        | _, _, _ => none
      | _ => none
    | _, _ => none
  | _ => none
def yieldX (N : Nat) (c : Cfg) : Option (List V) := match yieldOf N c with | some (xs, wr) => (match frnOk (obWr c.ob wr) with | true => some xs | false => none) | none => none
def resY (N : Nat) (c : Cfg) (b : Bool) : Cfg := match yieldOf N c with | some (_, wr) => after N c (.d (.bool b)) wr | none => c
section
variable {P : Program} {N : Nat} {fn : Func} {l : Nat} {Inv : List (List V) → (Nat → Prop) → Mem → World → Prop} {Stop Pan : (Nat → Prop) → Mem → World → Prop} {fl : Bool} {c : Cfg}
theorem run_yieldOp {a : Act} {w : World} {o : Oper} {cl : Call} {f : Operand} {l fn' : Nat} {tmps : Array Value} {assign body : Code} (ho : o.op = .call cl) (hc : cl.callee = .value f) (hf : a.eval f = .func (.yield l) #[] #[])
    (hy : (Instr.yield l (cl.args.map a.eval)).run P w = .ok (.round l fn' tmps assign body) w) : (execOp a.eval o).run P w = .ok (.round l fn' tmps assign body) w := by
  obtain ⟨callee, args, tys⟩ := cl
  simp only at hc
  subst hc
  simp only at hy
  simp [execOp, ho, resolve, Deferred.ofValue, hf, invoke, hy, Result.andThen]
theorem J_yield (R : RoundsOk P l Inv Stop Pan) {xs : List V} (y : List V) {ys : List (List V)} (hx : yieldX N c = some xs) (hb : begOk c = true) (hre : Res' xs y) (ht : J none P N [] (finI P fn l Inv Stop Pan fl (some ys)) (resY N c true)) (hs : J none P N [] (finI P fn l Inv Stop Pan fl none) (resY N c false)) : J none P N [] (finI P fn l Inv Stop Pan fl (some (y :: ys))) c := by
  refine ⟨ht.1, fun S wl M0 hH M ρ f w ha => ?_⟩
  unfold yieldX at hx
  split at hx
  · rename_i xs' wr hyo
    split at hx
    · rename_i hfk
      cases hx
      unfold resY at ht hs
      rw [hyo] at ht hs
      unfold yieldOf at hyo
      split at hyo
      · rename_i all o rest k htd
        split at hyo
        · rename_i cl hg hop
          split at hyo
          · rename_i fop hcal
            split at hyo
            · rename_i hfv hob _
              simp only [after_eq htd] at ht hs
              have hfe := evalV_rel (ds := []) ha fop
              rw [hfv] at hfe
              simp only [RelV] at hfe
              obtain ⟨i, hi, _, hfe⟩ := hfe
              obtain ⟨i', hi', hok⟩ := ha.ow.own 2000 _ hob
              rw [hi] at hi'; cases hi'
              have hok : S.r0 2000 = some i := hok
              obtain ⟨hinv, j, hj, hjl⟩ := hH
              rw [hok] at hj; cases hj
              rw [hjl] at hfe
              have hargs := evsV_rel (xs := cl.args.toList) (evalV_rel (ds := []) ha)
              obtain ⟨M1, r1, o1, d1⟩ := argsOf_sound ha.ow hargs hyo
              have hst := o1.step
              have hinv1 := R.inv _ _ _ _ _ _ _ hinv hst
              obtain ⟨fn', tmps, assign, body, hrun, hround⟩ := R.round y ys _ M1 w _ hinv1 o1.sits (hre.rel (d1 noR)) hst.own
              rw [htd]
              simp only [Wk, Exit.then]
              refine L_wp (gd_spec ha hg) ?_
              have hexec := run_yieldOp (P := P) (a := fr N f []) (w := w) hop hcal hfe (by
                have e : cl.args.map (fr N f []).eval = (cl.args.toList.map (fr N f []).eval).toArray := by apply Array.ext'; simp
                rw [e]; exact hrun)
              refine ⟨fun _ _ => trivial, ?_⟩
              rw [show (WF none).round = none from rfl, sem_plain (by rw [hop]; rfl), hexec]
              refine ⟨fun h => (by cases h), RoundIn.mono hround ?_⟩
              rintro e w2 ⟨M2, hle, hsit, hszw, hsz, hkept, hcase⟩
              have hb : noBeg k = true := by unfold begOk at hb; rw [htd] at hb; exact hb
              have o1' : Ow S wl M0 M1 ρ (obGet (obWr c.ob wr)) w := by rw [obGet_wr]; exact o1
              have hTA : TA ρ (wrO (obGet c.ob) wr) = TA ρ (obGet (obWr c.ob wr)) := by rw [obGet_wr]
              rw [hTA] at hkept hcase
              have hb' := o1'.base (r0 := ρ) hle hsit hsz hkept (fun _ _ _ h => h) (frnOk_spec hfk) (fun _ _ _ h => h) hszw
              have hR : Rle M M2 ρ ρ := ⟨Mem.le_trans r1.le hle, fun _ j hj => ⟨j, hj, Ile.refl j⟩⟩
              have hput := fun (b : Bool) (td : List It) => putS_abs (S := ⟨TA ρ (obGet (obWr c.ob wr)), ρ⟩) (wl := w2) (M0 := M2) (M := M2) (ρ := ρ) (N := N) (c := ⟨c.sl, obWr c.ob wr, td⟩) (f := f) (w := w2) ⟨hb', ha.ok, fun t ht => RelV.mono hR _ (ha.sl t ht)⟩ ht.1 (Rle.refl _ _) (ob' := obWr c.ob wr) hb' (v := .d (.bool b)) (u := .bool b) mk_bool o.dst (.ops all rest :: k)
              rcases hcase with ⟨rfl, hT⟩ | ⟨rfl, hF⟩ | ⟨⟨t, u, rfl⟩, hP⟩
              · dsimp only
                rw [fr_putd]
                have := ht.2 ⟨TA ρ (obGet (obWr c.ob wr)), ρ⟩ w2 M2 ⟨hT, i, hi, hjl⟩ M2 ρ _ w2 (hput true [])
                simp only [Wk, Exit.then] at this
                exact this
              · dsimp only
                rw [fr_putd]
                have := hs.2 ⟨TA ρ (obGet (obWr c.ob wr)), ρ⟩ w2 M2 ⟨hF, i, hi, hjl⟩ M2 ρ _ w2 (hput false [])
                simp only [Wk, Exit.then] at this
                exact this
              · exact Wk_pan k hb ⟨rfl, _, M2, .inr ⟨⟨t, u, rfl⟩, .inr hP⟩⟩
            · cases hyo
          · cases hyo
        · cases hyo
      · cases hyo
    · cases hx
  · cases hx
theorem J_doneI (R : RoundsOk P l Inv Stop Pan) {st : Option (List (List V))} (hst : (st = some [] ∧ fl = false) ∨ st = none) (hN : Nat.ble N 1024 = true) (hfn : fn.results = #[]) (hat : atRet c = true) : J none P N [] (finI P fn l Inv Stop Pan fl st) c := by
  refine ⟨nb_le hN, fun S wl M0 hH M ρ f w ha => ?_⟩
  have hend : (fl = false ∧ Inv [] (TA ρ (obGet c.ob)) M w) ∨ Stop (TA ρ (obGet c.ob)) M w := by
    rcases hst with ⟨rfl, h⟩ | rfl
    · exact .inl ⟨h, R.inv _ _ _ _ _ _ _ hH.1 ha.ow.step⟩
    · exact .inr (R.stop _ _ _ _ _ _ hH.1 ha.ow.step)
  have key : (finI P fn l Inv Stop Pan fl st) S wl M0 .ret (fr N f []) w := ⟨rfl, _, results_run (rs := []) (vs := []) (by rw [hfn]) trivial, _, M, .inl ⟨_, rfl, hend⟩⟩
  unfold atRet at hat
  split at hat
  · rename_i ht
    rw [ht]
    exact W_ret (Wk_ret _ hat key)
  · rename_i ht
    rw [ht]
    exact key
  · cases hat
/-- The iterator's contract: ys is what it yields, in order; fl: whether it panics then. -/
def IterC (P : Program) (g : FuncId) (os : List (Nat × IObj)) (args : List V) (ys : List (List V)) (fl : Bool) : Prop :=
  ∀ l Inv Stop Pan, RoundsOk P l Inv Stop Pan → ∀ s M ρ w vals i, Ow ⟨s, ρ⟩ w M M ρ (obGet os) w → Inv ys s M w → ρ 2000 = some i → i.b = l → RelVs M ρ args vals → Calls P g vals.toArray w (endI Inv Stop Pan fl)
theorem iterC_of {g : FuncId} {b : Code} {os : List (Nat × IObj)} {args : List V} {ys : List (List V)} (hf : P.funcs[g]? = some fn) (hb : fn.body = some b) (hN : fn.ntmps = N) (hv : Nat.ble args.length N = true) (h : ∀ l Inv Stop Pan, RoundsOk P l Inv Stop Pan → J none P N [] (finI P fn l Inv Stop Pan fl (some ys)) ⟨mkT (argT 0 args), os, [.code b]⟩) : IterC P g os args ys fl := by
  intro l Inv Stop Pan R s M ρ w vals i ho hi h2 hl hr
  have h := h l Inv Stop Pan R
  have hlen := nb_le hv
  refine entry hf hb hN (by rw [hr.len]; exact hlen) ?_
  refine W_mono (h.2 ⟨s, ρ⟩ w M ⟨hi, i, h2, hl⟩ M ρ (argf vals) w ⟨ho, mkT_ok _, mkT_rel h.1 _ (fun t v hm => ?_)⟩) (fun e a w hq => hq)
  obtain ⟨_, h2⟩ := argT_mem hm
  rw [Nat.sub_zero] at h2
  obtain ⟨u, h3, h4⟩ := hr.get h2
  exact ⟨Nat.lt_of_lt_of_le (List.getElem?_eq_some_iff.1 h2).1 hlen, by unfold argf; rw [h3]; exact h4⟩
end
end Go.Proofs.YtfgbhfphjmmiaaaGreatDoor.Kx
end
section
/- Functions that are ranged over: the side of the one who ranges. -/
namespace Go.Proofs.YtfgbhfphjmmiaaaGreatDoor.Kx
open Go Go.RowKit
section
variable {S : Hand} {wl w : World} {M0 M : Mem} {ρ : Rho} {ob : Nat → Option IObj}
/-- A block that is no cells is turned. -/
theorem Ow.raw (h : Ow S wl M0 M ρ ob w) {q b : Nat} {o : Obj} (hq : ob q = some (.raw b o)) (o' : Obj) : w.heap[b]? = some o ∧ Ow S wl M0 M ρ (updO ob q (.raw b o')) (w.putObj b o') := by
  obtain ⟨i, hi, hfix, hib, hm, hw⟩ := h.own q _ hq
  have hlt : b < w.heap.size := (Array.getElem?_eq_some_iff.1 hw).1
  obtain ⟨h1, h2⟩ := h.turn (w' := w.putObj b o') hq hi i (.raw b o') (fun k _ hk => World.putObj_heap_other (by have := hk trivial; rw [hib] at this; exact this)) (by simp) rfl rfl rfl (fun _ c hc => by rw [hm.2] at hc; cases hc) (Ile.refl i) (fun _ => .inl ⟨trivial, rfl⟩)
    (fun ρ' _ _ => ⟨hfix, hib, hm, World.putObj_heap_same hlt⟩)
  refine ⟨hw, ?_⟩
  have e : updO ρ q i = ρ := by
    funext s
    by_cases e : s = q
    · subst e; rw [updO_same, hi]
    · rw [updO_ne _ _ e]
  rw [e] at h2
  exact h2
/-- Two stretches, one behind the other: the second's base is the first's end. -/
theorem Ow.compP {r0 r1 r2 : Rho} {M2 : Mem} {ρ2 : Rho} {ob2 : Nat → Option IObj} {w2 : World} (h : Ow ⟨S.s, r0⟩ wl M0 M ρ ob w) (h2 : Ow ⟨TA ρ ob, r1⟩ w M M2 ρ2 ob2 w2) (hnf : ∀ q x, ob2 q ≠ some (.frn x)) (hh : ∀ q i, Nat.ble 2000 q = true → r2 q = some i → ∃ k, ρ2 q = some k ∧ Ile i k) : Ow ⟨S.s, r2⟩ wl M0 M2 ρ2 ob2 w2 := by
  refine ⟨Nat.le_trans h.size h2.size, h2.os.trans h.os, h2.tape.trans h.tape, h2.output.trans h.output, fun k hk hS => ?_, h2.sits, Mem.le_trans h.le h2.le, ⟨h2.gl.ok, h.gl.off, h.gl.sz⟩, fun b c hb hlt => ?_, fun q o hq => ?_, h2.dom, h2.inj, fun q i hb hi => hh q i hb hi⟩
  · rw [h2.old k (by have := h.size; omega) (fun ht => (TA_mine h ht).1.elim hS (fun hl => by omega))]; exact h.old k hk hS
  · rcases h2.new b c hb (by have := h.size; omega) with h1 | h1
    · exact h.new b c h1 hlt
    · exact (TA_mine h h1).1.elim .inr (fun hl => by omega)
  · obtain ⟨i, hi, hok⟩ := h2.own q o hq
    refine ⟨i, hi, ?_⟩
    have hMb : ∀ b, blk i o b → S.s b ∨ wl.heap.size ≤ b := fun b hl => by
      rcases (blk_mine hok hl).1 with hs | hs
      · exact (TA_mine h hs).1
      · exact .inr (Nat.le_trans h.size hs)
    have hM : live i o → S.s i.b ∨ wl.heap.size ≤ i.b := fun hl => hMb _ (blk_live hl)
    cases o with
    | tree g e sz shs es hh => exact ObjOk.tree hok hMb (fun _ _ _ _ h => h)
    | box te cs => obtain ⟨h0, h1, rest⟩ := hok; exact ⟨h0, ⟨hM trivial, h1.2⟩, rest⟩
    | buf g e sz es =>
      obtain ⟨h0, hg, hs, hn, ht, hx, h1⟩ := hok
      refine ⟨h0, hg, hs, hn, ht, hx, fun hp => ?_⟩
      obtain ⟨h1, rest⟩ := h1 hp
      exact ⟨⟨hM hp, h1.2⟩, rest⟩
    | fzs g sz es => exact hok
    | fzb cs => exact hok
    | mapo kk ag sz es => obtain ⟨h0, h1, rest⟩ := hok; exact ⟨h0, ⟨hM trivial, h1.2⟩, rest⟩
    | raw b x => obtain ⟨h0, e, h1, rest⟩ := hok; exact ⟨h0, e, ⟨hM trivial, h1.2⟩, rest⟩
    | frn x => exact absurd hq (hnf q x)
theorem Ow.comp {r0 : Rho} {M2 : Mem} {ρ2 : Rho} {ob2 : Nat → Option IObj} {w2 : World} (h : Ow ⟨S.s, r0⟩ wl M0 M ρ ob w) (h2 : Ow ⟨TA ρ ob, ρ⟩ w M M2 ρ2 ob2 w2) (hnf : ∀ q x, ob2 q ≠ some (.frn x)) : Ow ⟨S.s, r0⟩ wl M0 M2 ρ2 ob2 w2 :=
  h.compP h2 hnf fun q i hb hi => by
    obtain ⟨j, h1, h3⟩ := h.held q i hb hi
    obtain ⟨k, h4, h5⟩ := h2.held q j hb h1
    exact ⟨k, h4, h3.trans h5⟩
end
section
variable {r : Option Nat} {P : Program} {N : Nat} {ds : List Deferred} {fin : Fin} {c : Cfg}
/-- A round begins. -/
theorem J_begR {l q : Nat} {k : List It} {rec : Loop} (ht : c.td = .begR l :: k) (hq : obGet c.ob q = some (.raw l (.loop rec))) (hs : rec.state = .ready) (hk : J r P N ds fin ⟨c.sl, obSet c.ob q (.raw l (.loop { rec with state := .busy })), k⟩) : J r P N ds fin c := by
  refine ⟨hk.1, fun S wl M0 hH M ρ f w ha => ?_⟩
  rw [ht]
  obtain ⟨h1, h2⟩ := ha.ow.raw hq (.loop { rec with state := .busy })
  simp only [Wk, Exit.then]
  refine ⟨_, run_beginRound h1 hs, hk.2 S wl M0 hH M ρ f _ ⟨?_, ha.ok, ha.sl⟩⟩
  dsimp only
  rw [obGet_set]
  exact h2
end
end Go.Proofs.YtfgbhfphjmmiaaaGreatDoor.Kx
end
section
/- Functions that are ranged over: a round. -/
namespace Go.Proofs.YtfgbhfphjmmiaaaGreatDoor.Kx
open Go Go.RowKit
structure Lp where
  D : Nat
  L : Nat
  fn : FuncId
  tmps : Array Value
  ps : Array Tmp
  as : Code
  bo : Code
def recOf (x : Lp) (st : LoopState) (pe : Option Code) : Loop := { state := st, pending := pe, fn := x.fn, tmps := x.tmps, params := x.ps, assign := x.as, body := x.bo, defers := x.D }
def rob (x : Lp) (st : LoopState) (pe : Option Code) (ob : List (Nat × IObj)) : List (Nat × IObj) := (3000, .raw x.D (.deferred (some []))) :: (3001, .raw x.L (.loop (recOf x st pe))) :: ob
def CInv (x : Lp) (S : Hand) (wl : World) (M0 : Mem) (ρ0 : Rho) (Ms : Mem) (Good : List (List V) → List (Nat × IObj) → Prop) (ys : List (List V)) (T : Nat → Prop) (M : Mem) (w : World) : Prop :=
  Ms.le M ∧ ∃ ρ ob, Good ys ob ∧ Ow ⟨S.s, ρ0⟩ wl M0 M ρ (obGet (rob x .ready none ob)) w ∧ ∀ b, T b → ¬ TA ρ (obGet (rob x .ready none ob)) b ∧ (S b ∨ wl.heap.size ≤ b)
def CStop (x : Lp) (S : Hand) (wl : World) (M0 : Mem) (ρ0 : Rho) (Ms : Mem) (GoodX : Code → List (Nat × IObj) → Prop) (T : Nat → Prop) (M : Mem) (w : World) : Prop :=
  Ms.le M ∧ ∃ ρ ob j, GoodX j ob ∧ Ow ⟨S.s, ρ0⟩ wl M0 M ρ (obGet (rob x .done (some j) ob)) w ∧ ∀ b, T b → ¬ TA ρ (obGet (rob x .done (some j) ob)) b ∧ (S b ∨ wl.heap.size ≤ b)
theorem CInv.it {x : Lp} {S : Hand} {wl : World} {M0 Ms : Mem} {ρ0 : Rho} {Good : List (List V) → List (Nat × IObj) → Prop} : ∀ ys T M w T' M' w', CInv x S wl M0 ρ0 Ms Good ys T M w → ItStep T M w T' M' w' → CInv x S wl M0 ρ0 Ms Good ys T' M' w' :=
  fun _ _ _ _ _ _ _ ⟨h0, ρ, ob, h1, h2, h3⟩ k => by obtain ⟨h4, h5⟩ := h2.it k h3; exact ⟨Mem.le_trans h0 k.le, ρ, ob, h1, h4, h5⟩
theorem CStop.it {x : Lp} {S : Hand} {wl : World} {M0 Ms : Mem} {ρ0 : Rho} {GoodX : Code → List (Nat × IObj) → Prop} : ∀ T M w T' M' w', CStop x S wl M0 ρ0 Ms GoodX T M w → ItStep T M w T' M' w' → CStop x S wl M0 ρ0 Ms GoodX T' M' w' :=
  fun _ _ _ _ _ _ ⟨h0, ρ, ob, j, h1, h2, h3⟩ k => by obtain ⟨h4, h5⟩ := h2.it k h3; exact ⟨Mem.le_trans h0 k.le, ρ, ob, j, h1, h4, h5⟩
/-- A panic has gone through a round: the objects ob are known. -/
def CPan (x : Lp) (S : Hand) (wl : World) (M0 : Mem) (ρ0 : Rho) (Ms : Mem) (GoodP : List (Nat × IObj) → Prop) (T : Nat → Prop) (M : Mem) (w : World) : Prop :=
  Ms.le M ∧ ∃ r1 ρ ob, GoodP ob ∧ (∀ q i, ρ0 q = some i → (∃ o, obGet ob q = some o) → r1 q = some i) ∧ Ow ⟨S.s, r1⟩ wl M0 M ρ (obGet (rob x .busy none ob)) w ∧ ∀ b, T b → ¬ TA ρ (obGet (rob x .busy none ob)) b ∧ (S b ∨ wl.heap.size ≤ b)
/-- A round's aim. -/
def finB (x : Lp) (Good : List (List V) → List (Nat × IObj) → Prop) (GoodX : Code → List (Nat × IObj) → Prop) (GoodP : List (Nat × IObj) → Prop) (ys : List (List V)) : Fin where
  H := fun _ _ _ => True
  post := fun S wl M0 e a w => a.defers = [] ∧ ((∃ ρ M ob, Ow S wl M0 M ρ (obGet (rob x .busy none ob)) w ∧ (∀ q z, obGet ob q ≠ some (.frn z)) ∧ ((e = .normal ∧ Good ys ob) ∨ (e = .ret ∧ GoodX .ret ob) ∨ ∃ id, e = .exit id ∧ GoodX (.exit id) ob)) ∨
    (∃ t u, e = .panic [{ v := .iface t u, recovered := false }]) ∧ ∃ r1 ρ M ob, Ow ⟨S.s, r1⟩ wl M0 M ρ (obGet (rob x .busy none ob)) w ∧ (∀ q i, S.r0 q = some i → (∃ o, obGet (rob x .busy none ob) q = some o) → r1 q = some i) ∧ (∀ q z, obGet ob q ≠ some (.frn z)) ∧ GoodP ob)
/-- What is asked at a round's end. -/
def roundPostP (P : Program) (l : Nat) (R : Ending → World → Prop) : Exit → Act → World → Prop
  | .normal, _, w => ∃ v w', (Instr.endRound l none).run P w = .ok v w' ∧ R (.returned v) w'
  | .ret, _, w => ∃ v w', (Instr.endRound l (some .ret)).run P w = .ok v w' ∧ R (.returned v) w'
  | .exit id, _, w => ∃ v w', (Instr.endRound l (some (.exit id))).run P w = .ok v w' ∧ R (.returned v) w'
  | .panic ch, a, w => a.defers = [] ∧ R (.panicked ch) w
  | _, _, _ => False
theorem roundIn_of_W {P : Program} {l : Nat} {f : FuncId} {tmps : Array Value} {assign body : Code} {w : World} {R : Ending → World → Prop} (hf : ∃ fn, P.funcs[f]? = some fn)
    (h : W (some l) P assign (Exit.then (fun a₁ w₁ => ∃ w₂, (Instr.beginRound l).run P w₁ = .ok () w₂ ∧ W (some l) P body (roundPostP P l R) a₁ w₂) (fun _ _ _ => False)) { tmps := tmps, defers := [] } w) :
    RoundIn (WF none) 0 P l f tmps assign body w R := by
  refine ⟨trivial, fun c cs hr => ?_⟩
  let b : Frame := { (default : Frame) with fn := f, kind := .normal, roundOf := some l }
  have hb0 : Frame.round l f tmps assign body .normal = b.atR { tmps := tmps, defers := [] } [.code assign, .beginRound, .code body] := by
    simp [Frame.round, Frame.atR, b]
  obtain ⟨e, a₁, w₁, hq, harr⟩ := W_at h b [.beginRound, .code body] (c :: cs) rfl hf
  rw [← hb0] at harr
  cases e with
  | normal =>
    obtain ⟨w₂, hbr, hbody⟩ := hq
    have s1 : StepsIn (Machine.fenced P (WF (some l))) P (lone (b.atR a₁ [.beginRound, .code body]) (c :: cs) w₁) (lone (b.atR a₁ [.code body]) (c :: cs) w₂) :=
      .one (WF_calm (fr := b.atR a₁ [.beginRound, .code body]) rfl) (stepR_beginRound rfl hbr)
    obtain ⟨e₂, a₂, w₃, hq₂, harr₂⟩ := W_at hbody b [] (c :: cs) rfl hf
    cases e₂ with
    | normal =>
      obtain ⟨v, w₄, hend, hR⟩ := hq₂
      exact ⟨.returned v, w₄, hR, (StepsIn.trans harr s1).trans (StepsIn.trans harr₂ (.one (WF_calm (fr := b.atR a₂ []) rfl) (stepR_round_end rfl rfl hend)))⟩
    | ret =>
      obtain ⟨v, w₄, hend, hR⟩ := hq₂
      obtain ⟨k₁, hs⟩ := harr₂.2 rfl
      exact ⟨.returned v, w₄, hR, (StepsIn.trans harr s1).trans (StepsIn.trans hs (.one (WF_calm (fr := b.atR a₂ (.code .ret :: k₁)) rfl) (stepR_round_ret rfl rfl hend)))⟩
    | exit id =>
      obtain ⟨v, w₄, hend, hR⟩ := hq₂
      obtain ⟨k₁, hk, hs⟩ := harr₂.2 rfl rfl
      exact ⟨.returned v, w₄, hR, (StepsIn.trans harr s1).trans (StepsIn.trans hs (.one (WF_calm (fr := b.atR a₂ (.code (.exit id) :: k₁)) rfl) (stepR_round_exit rfl rfl hk hend)))⟩
    | panic chain =>
      obtain ⟨hd, hR⟩ := hq₂
      obtain ⟨todo, hs⟩ := harr₂
      obtain ⟨fn, hfn⟩ := hf
      have hl : Frame.leaving P { b.atR a₂ todo with mode := .panicking chain } w₃ (.panicked chain) := ⟨rfl, hd, fn, hfn⟩
      exact ⟨.panicked chain, w₃, hR, (StepsIn.trans harr s1).trans (StepsIn.trans hs (.one (fenced_leaving (n := 0) trivial (WF_room _ _) hl) (step_leave_panicked hl)))⟩
    | goto t => exact hq₂.elim
    | outgrown => exact hq₂.elim
  | exit id => exact hq.elim
  | goto t => exact hq.elim
  | ret => exact hq.elim
  | panic chain => exact hq.elim
  | outgrown => exact hq.elim
/-! ### The parameters are set -/
def setPs (N : Nat) (sl : Tri) : List Tmp → List V → Option Tri
  | [], [] => some sl
  | p :: ps, v :: vs => match Nat.blt p N with | true => setPs N (sl.set 10 p v) ps vs | false => none
  | _, _ => none
def setF (f : Nat → Value) : List (Tmp × Value) → Nat → Value
  | [] => f
  | (p, v) :: l => setF (upd f p v) l
theorem fr_params {N : Nat} : ∀ (l : List (Tmp × Value)) (f : Nat → Value), l.foldl (fun t (p, v) => t.setIfInBounds p v) (fr N f []).tmps = (fr N (setF f l) []).tmps
  | [], _ => rfl
  | (p, v) :: l, f => by
    simp only [List.foldl_cons, setF]
    have e : (fr N f []).tmps.setIfInBounds p v = (fr N (upd f p v) []).tmps := by
      have := congrArg Act.tmps (fr_put (N := N) (f := f) (ds := []) (d := p) (v := v))
      exact this
    rw [e]
    exact fr_params l (upd f p v)
theorem setPs_rel {N : Nat} (hN : N ≤ 1024) {M : Mem} {ρ : Rho} : ∀ {ps : List Tmp} {vs : List V} {us : List Value} {sl sl' : Tri} {f : Nat → Value}, setPs N sl ps vs = some sl' → sl.ok 10 → RelVs M ρ vs us → (∀ t, t < N → RelV M ρ (sl.get 10 t) (f t)) →
    sl'.ok 10 ∧ (∀ t, t < N → RelV M ρ (sl'.get 10 t) (setF f (ps.zip us) t)) ∧ us.length = ps.length
  | [], [], us, sl, sl', f, h, hok, hr, hs => by
    simp only [setPs, Option.some.injEq] at h
    subst h
    simp only [RelVs] at hr
    subst hr
    exact ⟨hok, hs, rfl⟩
  | p :: ps, v :: vs, us, sl, sl', f, h, hok, hr, hs => by
    unfold setPs at h
    split at h
    · rename_i hp
      simp only [RelVs] at hr
      obtain ⟨u, us', rfl, h1, h2⟩ := hr
      have hp := nb_lt hp
      obtain ⟨a1, a2, a3⟩ := setPs_rel hN (f := upd f p u) h (Tri.set_ok _ _ _ _ hok) h2 (fun t ht => by
        by_cases e : t = p
        · subst e; rw [Tri.get_set_same, upd_same]; exact h1
        · rw [Tri.get_set_ne _ _ _ _ _ hok (by omega) (by omega) (fun e' => e e'.symm), upd_ne _ _ e]; exact hs t ht)
      exact ⟨a1, a2, by simp [a3]⟩
    · cases h
  | [], _ :: _, _, _, _, _, h, _, _, _ => by cases h
  | _ :: _, [], _, _, _, _, h, _, _, _ => by cases h
section
variable {P : Program} {N : Nat} {x : Lp} {S : Hand} {wl : World} {M0 Ms : Mem} {ρ0 : Rho} {Good : List (List V) → List (Nat × IObj) → Prop} {GoodX : Code → List (Nat × IObj) → Prop} {GoodP : List (Nat × IObj) → Prop} {sl : Tri} {f : Nat → Value}
theorem round_of (hfx : ∃ fn, P.funcs[x.fn]? = some fn) (hN : N ≤ 1024) (hx : x.tmps = (fr N f []).tmps) (hok : sl.ok 10) (hsl : ∀ t, t < N → RelV Ms ρ0 (sl.get 10 t) (f t)) (hbig : ∀ r i, ρ0 r = some i → Nat.ble 2000 r = true)
    (hnf : ∀ ys ob, Good ys ob → ∀ q z, obGet ob q ≠ some (.frn z))
    (hJ : ∀ y ys ob, Good (y :: ys) ob → ∃ sl', setPs N sl x.ps.toList y = some sl' ∧ J (some x.L) P N [] (finB x Good GoodX GoodP ys) ⟨sl', rob x .ready none ob, [.code x.as, .begR x.L, .code x.bo]⟩)
    (y : List V) (ys : List (List V)) (T : Nat → Prop) (M : Mem) (w : World) (vals : List Value) (hI : CInv x S wl M0 ρ0 Ms Good (y :: ys) T M w) (hs : Sits M w) (hr : RelVs M noR y vals) (hT0 : ∀ b, T b → b < w.heap.size) :
    Yields P x.L vals w (fun e w' => ∃ M', M.le M' ∧ Sits M' w' ∧ Sz w' ∧ w.heap.size ≤ w'.heap.size ∧ (∀ k, T k → w'.heap[k]? = w.heap[k]? ∧ M' k = M k) ∧
      ((e = .returned (.bool true) ∧ CInv x S wl M0 ρ0 Ms Good ys T M' w') ∨ (e = .returned (.bool false) ∧ CStop x S wl M0 ρ0 Ms GoodX T M' w') ∨ (panE e ∧ CPan x S wl M0 ρ0 Ms GoodP T M' w'))) := by
  obtain ⟨hle, ρ, ob, hg, ho, hT⟩ := hI
  obtain ⟨sl', hset, hj⟩ := hJ y ys ob hg
  have hnf' : ∀ (st : LoopState) (pe : Option Code) (ob : List (Nat × IObj)), (∀ q z, obGet ob q ≠ some (.frn z)) → ∀ q z, obGet (rob x st pe ob) q ≠ some (.frn z) := fun st pe ob h q z => by
    simp only [rob, obGet]
    split
    · intro e; cases e
    · split
      · intro e; cases e
      · exact h q z
  have h1 : obGet (rob x .ready none ob) 3001 = some (.raw x.L (.loop (recOf x .ready none))) := rfl
  have hR : Rle Ms M ρ0 ρ := ⟨hle, fun r i hi => ho.held r i (hbig r i hi) hi⟩
  obtain ⟨a1, a2, a3⟩ := setPs_rel hN (f := f) hset hok (RelVs.mono (ρ' := ρ) ⟨M.le_refl, fun r i hi => by cases hi⟩ _ hr) (fun t ht => RelV.mono hR _ (hsl t ht))
  have hy := run_yield (P := P) (args := vals.toArray) (ho.raw h1 (.loop (recOf x .ready none))).1 (by simp [recOf, a3])
  refine ⟨x.fn, _, x.as, x.bo, hy, roundIn_of_W hfx ?_⟩
  have hb := ho.base (r0 := ρ) M.le_refl hs (Nat.le_refl _) (fun k hk => ⟨rfl, rfl⟩) (fun q i hq _ => absurd hq (hnf' _ _ _ (hnf _ _ hg) q q)) (fun q z hq => absurd hq (hnf' _ _ _ (hnf _ _ hg) q z)) (fun _ _ _ h => h) ho.szw
  have hw := hj.2 ⟨TA ρ (obGet (rob x .ready none ob)), ρ⟩ w M trivial M ρ (setF f (x.ps.toList.zip vals)) w ⟨hb, a1, a2⟩
  have hfr : ({ tmps := ((recOf x .ready none).params.zip vals.toArray).foldl (fun t (p, v) => t.setIfInBounds p v) (recOf x .ready none).tmps, defers := [] } : Act) = fr N (setF f (x.ps.toList.zip vals)) [] := by
    have e : ((recOf x .ready none).params.zip vals.toArray).foldl (fun t (p, v) => t.setIfInBounds p v) (recOf x .ready none).tmps = (fr N (setF f (x.ps.toList.zip vals)) []).tmps := by
      rw [← fr_params, ← Array.foldl_toList]
      simp [recOf, hx]
    rw [e]; rfl
  rw [hfr]
  simp only [Wk, Exit.then] at hw
  have hup : ∀ (st st' : LoopState) (pe pe' : Option Code) (ob : List (Nat × IObj)), updO (obGet (rob x st pe ob)) 3001 (.raw x.L (.loop (recOf x st' pe'))) = obGet (rob x st' pe' ob) := fun st st' pe pe' ob => by
    funext q
    by_cases e : q = 3001
    · subst e; rw [updO_same]; rfl
    · rw [updO_ne _ _ e]
      simp only [rob, obGet]
      split
      · rfl
      · have : Nat.beq q 3001 = false := beq_false e
        simp only [this]
  have hLTA : TA ρ (obGet (rob x .ready none ob)) x.L := by
    obtain ⟨i, hi, _, hib, _⟩ := ho.own 3001 _ h1
    exact ⟨3001, i, _, hi, h1, .inl ⟨trivial, hib⟩⟩
  have fin : ∀ (st' : LoopState) (pe' : Option Code) (ρ2 : Rho) (M2 : Mem) (ob2 : List (Nat × IObj)) (w3 : World), Ow ⟨TA ρ (obGet (rob x .ready none ob)), ρ⟩ w M M2 ρ2 (obGet (rob x .busy none ob2)) w3 → (∀ q z, obGet ob2 q ≠ some (.frn z)) →
      w3.heap[x.L]? = some (.loop (recOf x .busy none)) ∧ M.le M2 ∧ Sits M2 (w3.putObj x.L (.loop (recOf x st' pe'))) ∧ w.heap.size ≤ (w3.putObj x.L (.loop (recOf x st' pe'))).heap.size ∧ (∀ k, T k → (w3.putObj x.L (.loop (recOf x st' pe'))).heap[k]? = w.heap[k]? ∧ M2 k = M k) ∧
      Ow ⟨S.s, ρ0⟩ wl M0 M2 ρ2 (obGet (rob x st' pe' ob2)) (w3.putObj x.L (.loop (recOf x st' pe'))) ∧ ∀ b, T b → ¬ TA ρ2 (obGet (rob x st' pe' ob2)) b ∧ (S b ∨ wl.heap.size ≤ b) := fun st' pe' ρ2 M2 ob2 w3 h2 hn2 => by
    have hc := ho.comp h2 (hnf' _ _ _ hn2)
    have h3 : obGet (rob x .busy none ob2) 3001 = some (.raw x.L (.loop (recOf x .busy none))) := rfl
    obtain ⟨hh, h4⟩ := hc.raw h3 (.loop (recOf x st' pe'))
    obtain ⟨_, h5⟩ := h2.raw h3 (.loop (recOf x st' pe'))
    rw [hup] at h4 h5
    refine ⟨hh, h2.le, h5.sits, h5.size, fun k hk => ⟨h5.old k (hT0 k hk) (hT k hk).1, ?_⟩, h4, fun b hb => ⟨fun hta => ?_, (hT b hb).2⟩⟩
    · cases hm : M2 k with
      | none =>
        cases hm0 : M k with
        | none => rfl
        | some c => obtain ⟨c', h3, _⟩ := h2.le _ _ hm0; rw [hm] at h3; cases h3
      | some c =>
        rcases h2.new k c hm (hT0 k hk) with h6 | h6
        · exact h6.symm
        · exact absurd h6 (hT k hk).1
    · rcases (TA_mine h5 hta).1 with h6 | h6
      · exact (hT b hb).1 h6
      · have := hT0 b hb; omega
  have pan : ∀ (r1 ρ2 : Rho) (M2 : Mem) (ob2 : List (Nat × IObj)) (w3 : World), Ow ⟨TA ρ (obGet (rob x .ready none ob)), r1⟩ w M M2 ρ2 (obGet (rob x .busy none ob2)) w3 → (∀ q i, ρ q = some i → (∃ o, obGet (rob x .busy none ob2) q = some o) → r1 q = some i) → (∀ q z, obGet ob2 q ≠ some (.frn z)) →
      M.le M2 ∧ Sits M2 w3 ∧ w.heap.size ≤ w3.heap.size ∧ (∀ k, T k → w3.heap[k]? = w.heap[k]? ∧ M2 k = M k) ∧
      ∃ r2, (∀ q i, ρ0 q = some i → (∃ o, obGet ob2 q = some o) → r2 q = some i) ∧ Ow ⟨S.s, r2⟩ wl M0 M2 ρ2 (obGet (rob x .busy none ob2)) w3 ∧ ∀ b, T b → ¬ TA ρ2 (obGet (rob x .busy none ob2)) b ∧ (S b ∨ wl.heap.size ≤ b) := fun r1 ρ2 M2 ob2 w3 h2 hr1 hn2 => by
    have hob : ∀ q, (∃ o, obGet ob2 q = some o) → ∃ o, obGet (rob x .busy none ob2) q = some o := fun q ⟨o, ho⟩ => by
      simp only [rob, obGet]
      split
      · exact ⟨_, rfl⟩
      · split
        · exact ⟨_, rfl⟩
        · exact ⟨o, ho⟩
    have hc := ho.compP h2 (hnf' _ _ _ hn2) (r2 := restr (idsOf ob2) ρ0) (fun q i hb hq => by
      obtain ⟨hm, hq⟩ := restr_some hq
      obtain ⟨j, h3, h4⟩ := ho.held q i hb hq
      obtain ⟨k, h5, h6⟩ := h2.held q j hb (hr1 q j h3 (hob q (idsOf_mem.1 hm)))
      exact ⟨k, h5, h4.trans h6⟩)
    refine ⟨h2.le, h2.sits, h2.size, fun k hk => ⟨h2.old k (hT0 k hk) (hT k hk).1, ?_⟩, _, fun q i hq ho' => ?_, hc, fun b hb => ⟨fun hta => ?_, (hT b hb).2⟩⟩
    · cases hm : M2 k with
      | none =>
        cases hm0 : M k with
        | none => rfl
        | some c => obtain ⟨c', h3, _⟩ := h2.le _ _ hm0; rw [hm] at h3; cases h3
      | some c =>
        rcases h2.new k c hm (hT0 k hk) with h6 | h6
        · exact h6.symm
        · exact absurd h6 (hT k hk).1
    · unfold restr
      rw [idsOf_mem.2 ho']
      exact hq
    · rcases (TA_mine h2 hta).1 with h6 | h6
      · exact (hT b hb).1 h6
      · have := hT0 b hb; omega
  refine W_mono hw (fun e a1 w1 hq => ?_)
  cases e with
  | normal =>
    obtain ⟨w2, hbr, hbo⟩ := hq
    refine ⟨w2, hbr, W_mono hbo (fun e2 a2 w3 hfin => ?_)⟩
    obtain ⟨hdf, hfin⟩ := hfin
    rcases hfin with ⟨ρ2, M2, ob2, h2, hn2, hcase⟩ | ⟨⟨t, u, rfl⟩, r1, ρ2, M2, ob2, h2, hr1, hn2, hgp⟩
    · rcases hcase with ⟨rfl, hgd⟩ | ⟨rfl, hgx⟩ | ⟨id, rfl, hgx⟩
      · obtain ⟨b1, b2, b3, b4, b5, b6, b7⟩ := fin .ready none ρ2 M2 ob2 w3 h2 hn2
        exact ⟨_, _, run_endRound (P := P) none b1, M2, b2, b3, b6.szw, b4, b5, .inl ⟨rfl, Mem.le_trans hle b2, ρ2, ob2, hgd, b6, b7⟩⟩
      · obtain ⟨b1, b2, b3, b4, b5, b6, b7⟩ := fin .done (some .ret) ρ2 M2 ob2 w3 h2 hn2
        exact ⟨_, _, run_endRound (P := P) (some .ret) b1, M2, b2, b3, b6.szw, b4, b5, .inr (.inl ⟨rfl, Mem.le_trans hle b2, ρ2, ob2, .ret, hgx, b6, b7⟩)⟩
      · obtain ⟨b1, b2, b3, b4, b5, b6, b7⟩ := fin .done (some (.exit id)) ρ2 M2 ob2 w3 h2 hn2
        exact ⟨_, _, run_endRound (P := P) (some (.exit id)) b1, M2, b2, b3, b6.szw, b4, b5, .inr (.inl ⟨rfl, Mem.le_trans hle b2, ρ2, ob2, .exit id, hgx, b6, b7⟩)⟩
    · obtain ⟨b2, b3, b4, b5, r2, b8, b6, b7⟩ := pan r1 ρ2 M2 ob2 w3 h2 hr1 hn2
      exact ⟨hdf, M2, b2, b3, b6.szw, b4, b5, .inr (.inr ⟨⟨t, u, rfl⟩, Mem.le_trans hle b2, r2, ρ2, ob2, hgp, b8, b6, b7⟩)⟩
  | _ => exact hq
end
end Go.Proofs.YtfgbhfphjmmiaaaGreatDoor.Kx
end
section
/- Functions that are ranged over: what is looked at; marks; ends of rounds; other numbers. -/
namespace Go.Proofs.YtfgbhfphjmmiaaaGreatDoor.Kx
open Go Go.RowKit
/-- Every slot hangs on objects of K alone. -/
def triRefs (K : List Nat) : Tri → Bool
  | .e => true
  | .lf v => refsIn K v
  | .nd l r => match triRefs K l with | true => triRefs K r | false => false
theorem triRefs_spec {K : List Nat} : ∀ (d : Nat) (t : Tri) (n : Nat), triRefs K t = true → refsIn K (t.get d n) = true
  | _, .e, _, _ => by rw [Tri.get_e]; rfl
  | 0, .lf v, _, h => h
  | d + 1, .lf v, _, h => h
  | 0, .nd _ _, _, _ => rfl
  | d + 1, .nd l r, n, h => by
    simp only [triRefs] at h
    split at h
    · rename_i hl
      simp only [Tri.get]
      split
      · exact triRefs_spec d l _ hl
      · exact triRefs_spec d r _ h
    · cases h
def allBigL : List Nat → Bool
  | [] => true
  | k :: l => match Nat.ble 2000 k with | true => allBigL l | false => false
theorem allBigL_spec : ∀ {l : List Nat} {r : Nat}, allBigL l = true → memN r l = true → Nat.ble 2000 r = true
  | [], _, _, h => by cases h
  | k :: l, r, hb, h => by
    unfold allBigL at hb
    split at hb
    · rename_i h1
      unfold memN at h
      split at h
      · rename_i he; rw [Nat.eq_of_beq_eq_true he]; exact h1
      · exact allBigL_spec hb h
    · cases hb
/-- The function that is ranged over, and what it is handed beside yield. -/
def rangeOf (N : Nat) (c : Cfg) : Option (FuncId × List V × List V) := match c.td with
  | .code (.rangeFunc g _ _ _) :: _ => match evalV N c.sl g with
    | .fn gf first cap => some (gf, first, cap)
    | .d (.fnc gf) => some (gf, [], [])
    | _ => none
  | _ => none
theorem rangeOf_spec {N : Nat} {c : Cfg} {gf : FuncId} {first cap : List V} (h : rangeOf N c = some (gf, first, cap)) : ∃ g ps as bo k, c.td = .code (.rangeFunc g ps as bo) :: k ∧ ∀ {S : Hand} {wl w : World} {M0 M : Mem} {ρ : Rho} {f : Nat → Value} {ds : List Deferred}, Abs S wl M0 M ρ N c f w → ∃ fs cs, (fr N f ds).eval g = .func (.func gf) fs.toArray cs.toArray ∧ RelVs M ρ first fs ∧ RelVs M ρ cap cs := by
  unfold rangeOf at h
  split at h
  · rename_i g ps as bo k ht
    refine ⟨g, ps, as, bo, k, ht, ?_⟩
    intro S wl w M0 M ρ f ds ha
    have hr := evalV_rel (ds := ds) ha g
    split at h
    · rename_i gf' first' cap' hv
      cases h
      rw [hv] at hr
      simp only [RelV] at hr
      exact hr
    · rename_i gf' hv
      cases h
      rw [hv] at hr
      have hr := relV_d hr
      generalize (fr N f ds).eval g = u at hr ⊢
      cases hr
      exact ⟨[], [], rfl, by simp only [RelVs], by simp only [RelVs]⟩
    · cases h
  · cases h
/-! ### Marks -/
/-- Deferred calls: marks, and what lies below them. -/
def dfsB (base : List Deferred) : List Nat → List Deferred
  | [] => base
  | D :: Ds => { target := .collected D, args := #[] } :: dfsB base Ds
abbrev dfs (Ds : List Nat) : List Deferred := dfsB [] Ds
/-- What was there at the start; s: the blocks that were handed in. -/
structure Bas where
  w : World
  s : Nat → Prop
abbrev Bas.of (w : World) : Bas := ⟨w, fun _ => False⟩
/-- The world goes on; but for the blocks s0, what was there stands as it stood. -/
structure ExtS (s0 : Nat → Prop) (M0 M : Mem) (w0 w : World) : Prop where
  os : w.os = w0.os
  tape : w.tape = w0.tape
  output : w.output = w0.output
  size : w0.heap.size ≤ w.heap.size
  block : ∀ k, k < w0.heap.size → ¬ s0 k → w.heap[k]? = w0.heap[k]?
  le : Mem.le M0 M
  sits : Sits M w
  new : ∀ b c, M b = some c → b < w0.heap.size → M0 b = some c ∨ s0 b
theorem toS {s0 : Nat → Prop} {M0 M : Mem} {w0 w : World} (h : Ext M0 M w0 w) : ExtS s0 M0 M w0 w :=
  ⟨h.below.os, h.below.tape, h.below.output, h.below.size, fun k hk _ => h.below.block k hk, h.le, h.sits, fun b c hb hlt => .inl (h.new b c hb hlt)⟩
def RetO (wl : World) (M0 : Mem) : Option V → Ending → World → Prop
  | some v => RetD wl M0 v
  | none => PanD wl M0
/-- What is known of the world behind marks; Ds: the blocks of the marks. -/
def HM (w0 : Bas) (M00 : Mem) (Ds : List Nat) (S : Hand) (wl : World) (M0 : Mem) : Prop :=
  ExtS w0.s M00 M0 w0.w wl ∧ (∀ b, S.s b → w0.s b ∨ w0.w.heap.size ≤ b) ∧ (∀ D, D ∈ Ds → w0.w.heap.size ≤ D ∧ D < wl.heap.size ∧ ¬ S.s D ∧ M0 D = none ∧ wl.heap[D]? = some (.deferred (some []))) ∧ Ds.Nodup
/-- The aim of a function that ranges over functions, or defers. -/
def finG (P : Program) (fn : Func) (R : Ending → World → Prop) (w0 : Bas) (M00 : Mem) (hr : Rho) (Ds : List Nat) : Fin where
  H := fun S wl M0 => S.r0 = hr ∧ HM w0 M00 Ds S wl M0
  post := fun _ _ _ e a w => bodyPostM (WF none) 0 P fn R e a w
abbrev finD (P : Program) (fn : Func) (v : Option V) (w0 : World) (M00 : Mem) (hr : Rho) (Ds : List Nat) : Fin := finG P fn (RetO w0 M00 v) (.of w0) M00 hr Ds
abbrev finM (P : Program) (fn : Func) (v : V) (w0 : World) (M00 : Mem) (Ds : List Nat) : Fin := finD P fn (some v) w0 M00 noR Ds
section
variable {P : Program} {N : Nat} {fn : Func} {v : V} {w0 : World} {M00 : Mem} {b0 : Bas} {Ds : List Nat} {c : Cfg} {S : Hand} {wl w : World} {M0 M : Mem} {ρ : Rho} {ob : Nat → Option IObj} {f : Nat → Value}
theorem HM_base (hH : HM b0 M00 Ds S wl M0) (h : Ow S wl M0 M ρ ob w) (hn : ∀ q z, ob q ≠ some (.frn z)) :
    HM b0 M00 Ds ⟨TA ρ ob, noR⟩ w M ∧ Ow ⟨TA ρ ob, noR⟩ w M M ρ ob w := by
  obtain ⟨h1, h2, h3, h4⟩ := hH
  refine ⟨⟨⟨h.os.trans h1.os, h.tape.trans h1.tape, h.output.trans h1.output, Nat.le_trans h1.size h.size, fun k hk hs0 => ?_, Mem.le_trans h1.le h.le, h.sits, fun b c hb hlt => ?_⟩, fun b hb => ?_, fun D hD => ?_, h4⟩, h.base M.le_refl h.sits (Nat.le_refl _) (fun k hk => ⟨rfl, rfl⟩) (fun q i hq _ => absurd hq (hn q q)) (fun q z hq => absurd hq (hn q z)) (fun _ _ _ h => (by cases h)) h.szw⟩
  · rw [h.old k (Nat.lt_of_lt_of_le hk h1.size) (fun hs => by rcases h2 k hs with h5 | h5; exact hs0 h5; omega)]; exact h1.block k hk hs0
  · rcases h.new b c hb (Nat.lt_of_lt_of_le hlt h1.size) with h5 | h5
    · exact h1.new b c h5 hlt
    · rcases h2 b h5 with h6 | h6
      · exact .inr h6
      · omega
  · rcases (TA_mine h hb).1 with h5 | h5
    · exact h2 b h5
    · exact .inr (Nat.le_trans h1.size h5)
  · obtain ⟨a1, a2, a3, a4, a5⟩ := h3 D hD
    refine ⟨a1, Nat.lt_of_lt_of_le a2 h.size, fun ht => ?_, ?_, by rw [h.old D a2 a3]; exact a5⟩
    · rcases (TA_mine h ht).1 with h5 | h5
      · exact a3 h5
      · omega
    · cases hm : M D with
      | none => rfl
      | some c =>
        rcases h.new D c hm a2 with h5 | h5
        · rw [a4] at h5; cases h5
        · exact absurd h5 a3
/-- On the way out the marks are shut, one by one. -/
theorem pop_marks {tmps : Array Value} {R : Ending → World → Prop} {base : List Deferred} {u : FrameMode} (hu : u ≠ .run) (hn : ∀ q z, ob q ≠ some (.frn z)) (hbase : ∀ S w, HM b0 M00 [] S w M → Ow S w M M ρ ob w → LeavesInM (WF none) 0 P fn tmps R base u w) :
    ∀ (Ds : List Nat) (S : Hand) (wl w : World) (M0 : Mem), HM b0 M00 Ds S wl M0 → Ow S wl M0 M ρ ob w → LeavesInM (WF none) 0 P fn tmps R (dfsB base Ds) u w
  | [], S, wl, w, M0, hH, h => by
    obtain ⟨h1, h2⟩ := HM_base hH h hn
    exact hbase _ _ h1 h2
  | D :: Ds, S, wl, w, M0, hH, h => by
    obtain ⟨⟨h1, h2, h3, h4⟩, h5⟩ := HM_base hH h hn
    obtain ⟨a1, a2, a3, a4, a5⟩ := h3 D List.mem_cons_self
    refine ⟨hu, .inl ⟨D, w.putObj D (.deferred none), rfl, run_takeDeferred a5, ?_⟩⟩
    have hoth : ∀ k, k ≠ D → (w.putObj D (.deferred none)).heap[k]? = w.heap[k]? := fun k hk => World.putObj_heap_other hk
    have hsits : Sits M (w.putObj D (.deferred none)) := fun b c hb => by
      have : b ≠ D := fun e => by rw [e, a4] at hb; cases hb
      rw [hoth b this]; exact h5.sits b c hb
    refine pop_marks hu hn hbase Ds ⟨TA ρ ob, noR⟩ (w.putObj D (.deferred none)) (w.putObj D (.deferred none)) M ⟨⟨h1.os, h1.tape, h1.output, by simpa using h1.size, fun k hk hs0 => ?_, h1.le, hsits, h1.new⟩, h2, fun D' hD' => ?_, (List.nodup_cons.1 h4).2⟩ ?_
    · rw [hoth k (by omega)]; exact h1.block k hk hs0
    · obtain ⟨b1, b2, b3, b4, b5⟩ := h3 D' (List.mem_cons_of_mem _ hD')
      refine ⟨b1, by simpa using b2, b3, b4, ?_⟩
      rw [hoth D' (fun e => (List.nodup_cons.1 h4).1 (e ▸ hD'))]; exact b5
    · exact h.base M.le_refl hsits (by simp) (fun k hk => ⟨hoth k (fun e => a3 (e ▸ hk)), rfl⟩) (fun q i hq _ => absurd hq (hn q q)) (fun q z hq => absurd hq (hn q z)) (fun _ _ _ h => (by cases h)) (h.szw.frame fun k _ ⟨cs, e⟩ => hoth k fun e' => by
      obtain ⟨us, ⟨c, hc, _⟩, _⟩ := h.gl.ok.d k cs e
      rw [e', a4] at hc; cases hc)
theorem noFrn_spec {l : List (Nat × IObj)} (h : noFrn l = true) : ∀ q z, obGet l q ≠ some (.frn z) := noFrnP h
/-- The results, read behind all deferred calls. -/
theorem ret_read {rs : List ResultVar} {vs xs ys : List V} {wr : Wr} (hfn : fn.results = rs.toArray) (hv : retV P N c rs = some vs) (hx : argsOf (obGet c.ob) vs = some (xs, wr)) (hre : Res' xs ys) (he : tupV ys = v)
    (hH : HM (.of w0) M00 [] S wl M0) (h : Abs S wl M0 M ρ N c f w) : LeavesInM (WF none) 0 P fn (fr N f []).tmps (RetD w0 M00 v) [] .returning w := by
  obtain ⟨us, h3, h4⟩ := retV_ok h hv
  obtain ⟨M', r1, o1, d1⟩ := argsOf_sound h.ow h4 hx
  obtain ⟨h1, h2, _⟩ := hH
  refine ⟨tupv us, results_run (ds := []) hfn h3, tupv us, M', rfl, ⟨⟨o1.os.trans h1.os, o1.tape.trans h1.tape, o1.output.trans h1.output, Nat.le_trans h1.size o1.size, fun k hk => ?_⟩, Mem.le_trans h1.le o1.le, o1.sits, fun b c hb hlt => ?_⟩, ?_⟩
  · rw [o1.old k (Nat.lt_of_lt_of_le hk h1.size) (fun hs => by rcases h2 k hs with h5 | h5; exact h5; exact absurd hk (Nat.not_lt.2 h5))]; exact h1.block k hk id
  · rcases o1.new b c hb (Nat.lt_of_lt_of_le hlt h1.size) with h5 | h5
    · exact (h1.new b c h5 hlt).resolve_right id
    · rcases h2 b h5 with h6 | h6
      · exact h6.elim
      · exact absurd hlt (Nat.not_lt.2 h6)
  · rw [← he]
    exact tupV_rel (hre.rel (d1 noR))
/-- A return, marks and all. -/
theorem J_retM {rs : List ResultVar} {xs : List V} (ys : List V) (hfn : fn.results = rs.toArray) (hN : Nat.ble N 1024 = true) (hv : retOf P N c rs = some xs) (hre : Res' xs ys) (he : tupV ys = v) (hn : noFrn c.ob = true) : J none P N (dfs Ds) (finM P fn v w0 M00 Ds) c := by
  refine ⟨nb_le hN, fun S wl M0 hH M ρ f w h => ?_⟩
  unfold retOf at hv
  split at hv
  · rename_i hat
    split at hv
    · rename_i vs hvs
      split at hv
      · rename_i xs' wr hx
        cases hv
        have key : bodyPostM (WF none) 0 P fn (RetD w0 M00 v) .ret (fr N f (dfs Ds)) w := pop_marks (tmps := (fr N f []).tmps) (by intro e; cases e) (noFrn_spec hn) (fun S w h1 h2 => ret_read hfn hvs hx hre he h1 ⟨h2, h.ok, h.sl⟩) Ds S wl w M0 hH.2 h.ow
        unfold atRet at hat
        split at hat
        · rename_i ht
          rw [ht]
          exact W_ret (Wk_ret _ hat key)
        · rename_i ht
          rw [ht]
          exact key
        · cases hat
      · cases hv
    · cases hv
  · cases hv
/-- A function's contract out of its body's walk, deferred calls and all. -/
theorem entryM {g : FuncId} {c : Code} {vs : List Value} {R : Ending → World → Prop} (hf : P.funcs[g]? = some fn) (hb : fn.body = some c) (hN : fn.ntmps = N) (hv : vs.length ≤ N)
    (h : W none P c (bodyPostM (WF none) 0 P fn R) (fr N (argf vs) []) w) : Calls P g vs.toArray w R := by
  refine CallsIn.calls (F := WF none) (n := 0) ⟨trivial, fun cs hr => ?_⟩ (WF_room none)
  let b : Frame := { (default : Frame) with fn := g, kind := .normal, roundOf := none }
  have henter : Frame.enter P g vs.toArray .normal = b.atR (fr N (argf vs) []) [.code c] := by
    rw [← fr_entry N vs hv, ← hN]
    simp [Frame.enter, Frame.atR, hf, hb, b]
  obtain ⟨e, a', w', hq, harr⟩ := W_at h b [] cs rfl ⟨fn, hf⟩
  rw [← henter] at harr
  cases e with
  | normal =>
    obtain ⟨e', w'', fr', hR, hs, hfn, hl⟩ := leaves_stepsInM (F := WF none) a'.defers .returning w' { b.atR a' [] with mode := .returning } cs rfl rfl rfl hf rfl trivial hr hq
    exact ⟨e', w'', fr', hR, ComesIn.of_steps (StepsIn.trans harr (.one (WF_calm (fr := b.atR a' []) rfl) (stepR_end rfl))) hs, hfn, hl⟩
  | ret =>
    obtain ⟨todo, hs₀⟩ := harr.1 rfl
    obtain ⟨e', w'', fr', hR, hs, hfn, hl⟩ := leaves_stepsInM (F := WF none) a'.defers .returning w' { b.atR a' todo with mode := .returning } cs rfl rfl rfl hf rfl trivial hr hq
    exact ⟨e', w'', fr', hR, ComesIn.of_steps hs₀ hs, hfn, hl⟩
  | panic chain =>
    obtain ⟨todo, hs₀⟩ := harr
    obtain ⟨e', w'', fr', hR, hs, hfn, hl⟩ := leaves_stepsInM (F := WF none) a'.defers (.panicking chain) w' { b.atR a' todo with mode := .panicking chain } cs rfl rfl rfl hf rfl trivial hr hq
    exact ⟨e', w'', fr', hR, ComesIn.of_steps hs₀ hs, hfn, hl⟩
  | exit id => exact hq.elim
  | goto l => exact hq.elim
  | outgrown => exact ⟨.outgrown, w', b, hq, harr.resolve_left (by simp [b]), rfl, trivial⟩
theorem callM_O {g : FuncId} {b : Code} {args : List V} {o : Option V} (hf : P.funcs[g]? = some fn) (hb : fn.body = some b) (hN : fn.ntmps = N) (hv : Nat.ble args.length N = true) (h : ∀ w0 M00, J none P N (dfs []) (finD P fn o w0 M00 noR []) ⟨mkT (argT 0 args), [], [.code b]⟩) : CallO P g args o := by
  have key : ∀ M w vals, Sits M w → GlA M w → RelVs M noR args vals → Calls P g vals.toArray w (RetO w M o) := by
    intro M w vals hs hgl hr
    have hl := nb_le hv
    refine entryM hf hb hN (by rw [hr.len]; exact hl) ?_
    have h := h w M
    have := h.2 ⟨fun _ => False, noR⟩ w M ⟨rfl, toS (Ext.refl hs), fun _ h => h.elim, fun _ h => (by cases h), List.nodup_nil⟩ M noR (argf vals) w ⟨⟨Nat.le_refl _, rfl, rfl, rfl, fun _ _ _ => rfl, hs, M.le_refl, hgl.entry (fun _ _ _ h => h), fun _ _ h _ => .inl h, fun r o h => (by simp [obGet] at h), fun r i h => (by cases h), fun r r' o o' i i' b h => (by simp [obGet] at h), fun r i _ h => (by cases h)⟩, mkT_ok _, mkT_rel h.1 _ (fun t v hm => by
      obtain ⟨_, h2⟩ := argT_mem hm
      rw [Nat.sub_zero] at h2
      obtain ⟨u, h3, h4⟩ := hr.get h2
      exact ⟨Nat.lt_of_lt_of_le (List.getElem?_eq_some_iff.1 h2).1 hl, by unfold argf; rw [h3]; exact h4⟩)⟩
    simp only [Wk, Exit.then] at this
    exact this
  cases o with
  | some v => exact key
  | none => exact key
theorem callM_of {g : FuncId} {b : Code} {args : List V} (hf : P.funcs[g]? = some fn) (hb : fn.body = some b) (hN : fn.ntmps = N) (hv : Nat.ble args.length N = true) (h : ∀ w0 M00, J none P N (dfs []) (finM P fn v w0 M00 []) ⟨mkT (argT 0 args), [], [.code b]⟩) : CallF P g args v :=
  callM_O (o := some v) hf hb hN hv h
end
/-- What lies there between two rounds: nothing that is another's; closed; K is in it. -/
def okB (K : List Nat) (ob : List (Nat × IObj)) : Bool := match noFrn ob, closedAll (obGet ob) (idsOf ob) (idsOf ob), subN K (idsOf ob), memN 3000 (idsOf ob), memN 3001 (idsOf ob) with
  | true, true, true, false, false => true
  | _, _, _, _, _ => false
theorem okB_spec {K : List Nat} {ob : List (Nat × IObj)} (h : okB K ob = true) : noFrn ob = true ∧ closedAll (obGet ob) (idsOf ob) (idsOf ob) = true ∧ subN K (idsOf ob) = true ∧ memN 3000 (idsOf ob) = false ∧ memN 3001 (idsOf ob) = false := by
  unfold okB at h
  split at h
  · rename_i h1 h2 h3 h4 h5; exact ⟨h1, h2, h3, h4, h5⟩
  · cases h
/-! ### The ends of a round -/
section
variable {P : Program} {N : Nat} {x : Lp} {Good : List (List V) → List (Nat × IObj) → Prop} {GoodX : Code → List (Nat × IObj) → Prop} {GoodP : List (Nat × IObj) → Prop} {ys : List (List V)} {c : Cfg}
theorem J_endB (hN : Nat.ble N 1024 = true) (ob : List (Nat × IObj)) (ht : c.td = []) (hob : c.ob = rob x .busy none ob) (hn : noFrn ob = true) (hg : Good ys ob) : J (some x.L) P N [] (finB x Good GoodX GoodP ys) c := by
  refine ⟨nb_le hN, fun S wl M0 hH M ρ f w h => ?_⟩
  rw [ht]
  exact ⟨rfl, .inl ⟨ρ, M, ob, hob ▸ h.ow, noFrn_spec hn, .inl ⟨rfl, hg⟩⟩⟩
theorem J_retB (hN : Nat.ble N 1024 = true) (ob : List (Nat × IObj)) {k : List It} (ht : c.td = .code .ret :: k) (hk : noBeg k = true) (hob : c.ob = rob x .busy none ob) (hn : noFrn ob = true) (hg : GoodX .ret ob) : J (some x.L) P N [] (finB x Good GoodX GoodP ys) c := by
  refine ⟨nb_le hN, fun S wl M0 hH M ρ f w h => ?_⟩
  rw [ht]
  exact W_ret (Wk_ret _ hk ⟨rfl, .inl ⟨ρ, M, ob, hob ▸ h.ow, noFrn_spec hn, .inr (.inl ⟨rfl, hg⟩)⟩⟩)
end
/-! ### Other numbers -/
def mapTri (g : V → V) : Tri → Tri
  | .e => .e
  | .lf v => .lf (g v)
  | .nd l r => .nd (mapTri g l) (mapTri g r)
theorem mapTri_get {g : V → V} (hg : g .undef = .undef) : ∀ (d : Nat) (t : Tri) (n : Nat), (mapTri g t).get d n = g (t.get d n)
  | d, .e, n => by simp only [mapTri]; rw [Tri.get_e, hg]
  | 0, .lf v, n => rfl
  | d + 1, .lf v, n => by simp only [mapTri, Tri.get]; try exact hg.symm
  | 0, .nd l r, n => by simp only [mapTri, Tri.get]; try exact hg.symm
  | d + 1, .nd l r, n => by
    simp only [mapTri, Tri.get]
    split
    · exact mapTri_get hg d l _
    · exact mapTri_get hg d r _
theorem mapTri_ok {g : V → V} : ∀ (d : Nat) (t : Tri), t.ok d → (mapTri g t).ok d
  | 0, .e, _ => trivial
  | _ + 1, .e, _ => trivial
  | 0, .lf _, _ => rfl
  | d + 1, .lf _, h => h
  | 0, .nd _ _, h => h
  | d + 1, .nd l r, h => ⟨mapTri_ok d l h.1, mapTri_ok d r h.2⟩
def renL (p : List (Nat × Nat)) (ob : Nat → Option IObj) : List (Nat × Nat) → List (Nat × IObj)
  | [] => []
  | (a, b) :: l => match ob a with | some o => (b, renO p o) :: renL p ob l | none => renL p ob l
theorem renL_get {p : List (Nat × Nat)} {ob : Nat → Option IObj} (q : Nat) : ∀ l : List (Nat × Nat), (∀ a b, (a, b) ∈ l → ∃ o, ob a = some o) → obGet (renL p ob l) q = match lk (inv l) q with | some a => (match ob a with | some o => some (renO p o) | none => none) | none => none
  | [], _ => rfl
  | (a, b) :: l, h => by
    obtain ⟨o, ha⟩ := h a b List.mem_cons_self
    have ih := renL_get (p := p) q l (fun a b hm => h a b (List.mem_cons_of_mem _ hm))
    simp only [renL, inv, lk, ha, obGet]
    cases hq : Nat.beq q b with
    | true => simp only [ha]
    | false => exact ih
def allIn (p : List (Nat × Nat)) (ob : Nat → Option IObj) : List (Nat × Nat) → Bool
  | [] => true
  | (a, _) :: l => match ob a with | some _ => allIn p ob l | none => false
def bigSame (p : List (Nat × Nat)) : List (Nat × IObj) → Bool
  | [] => true
  | (r, _) :: l => match Nat.ble 2000 r with
    | true => match lk p r with | some s => (match Nat.beq s r with | true => bigSame p l | false => false) | none => false
    | false => bigSame p l
theorem bigSame_spec {p : List (Nat × Nat)} : ∀ {l : List (Nat × IObj)} {r : Nat} {o : IObj}, bigSame p l = true → obGet l r = some o → Nat.ble 2000 r = true → lk p r = some r
  | [], _, _, _, h, _ => by cases h
  | (q, x) :: l, r, o, h, ho, hb => by
    unfold bigSame at h
    simp only [obGet] at ho
    cases hq : Nat.beq r q with
    | true =>
      obtain rfl := Nat.eq_of_beq_eq_true hq
      rw [hb] at h
      simp only at h
      split at h
      · rename_i s hs
        split at h
        · rename_i he; rw [hs, Nat.eq_of_beq_eq_true he]
        · cases h
      · cases h
    | false =>
      rw [hq] at ho
      refine bigSame_spec (l := l) ?_ ho hb
      split at h
      · split at h
        · split at h
          · exact h
          · cases h
        · cases h
      · exact h
section
variable {r : Option Nat} {P : Program} {N : Nat} {ds : List Deferred} {fin : Fin} {c : Cfg}
theorem allIn_spec {p : List (Nat × Nat)} {ob : Nat → Option IObj} : ∀ {l : List (Nat × Nat)}, allIn p ob l = true → ∀ a b, (a, b) ∈ l → ∃ o, ob a = some o
  | [], _, a, b, h => by cases h
  | (x, y) :: l, h, a, b, hm => by
    unfold allIn at h
    split at h
    · rename_i o ho
      rcases List.mem_cons.1 hm with e | hm
      · cases e; exact ⟨o, ho⟩
      · exact allIn_spec h a b hm
    · cases h
/-- Other numbers for the objects; what p does not name is let go. -/
theorem J_ren (p : List (Nat × Nat)) (hb : bij p = true) (ha : allIn p (obGet c.ob) p = true) (hs : bigSame p c.ob = true) (hn : noFrn c.ob = true) (hk : J r P N ds fin ⟨mapTri (renV p) c.sl, renL p (obGet c.ob) p, c.td⟩) : J r P N ds fin c := by
  refine ⟨hk.1, fun S wl M0 hH M ρ f w h => ?_⟩
  have e : renOb p (obGet c.ob) = obGet (renL p (obGet c.ob) p) := by
    funext q
    rw [renL_get q p (fun a b hm => allIn_spec ha a b hm)]
    unfold renOb
    cases lk (inv p) q with
    | none => rfl
    | some a => rfl
  have ho := h.ow.ren (r1 := S.r0) hb (fun a o t h1 h2 => by
    cases hf : isFrn o with
    | false => rfl
    | true =>
      cases o with
      | frn z => exact absurd h2 (noFrn_spec hn a z)
      | _ => cases hf) (fun t i hbt hi => by
    obtain ⟨j, h1, h2⟩ := h.ow.held t i hbt hi
    obtain ⟨o, h3⟩ := h.ow.dom t j h1
    exact ⟨j, by rw [renR_at hb (bigSame_spec hs h3 hbt)]; exact h1, h2⟩)
  rw [e] at ho
  refine hk.2 S wl M0 hH M (renR p ρ) f w ⟨ho, mapTri_ok 10 _ h.ok, fun t ht => ?_⟩
  dsimp only
  rw [mapTri_get rfl]
  exact ren_rel hb _ (h.sl t ht)
/-- The same where what was handed in keeps its number. -/
theorem J_renD {fn : Func} {R : Ending → World → Prop} {w0 : Bas} {M00 : Mem} {Ds : List Nat} {hr : Rho} (p : List (Nat × Nat)) (hhr : ∀ t i, hr t = some i → lk (inv p) t = some t) (hb : bij p = true) (ha : allIn p (obGet c.ob) p = true) (hn : noFrn c.ob = true) (hk : J r P N ds (finG P fn R w0 M00 hr Ds) ⟨mapTri (renV p) c.sl, renL p (obGet c.ob) p, c.td⟩) : J r P N ds (finG P fn R w0 M00 hr Ds) c := by
  refine ⟨hk.1, fun S wl M0 hH M ρ f w h => ?_⟩
  have e : renOb p (obGet c.ob) = obGet (renL p (obGet c.ob) p) := by
    funext q
    rw [renL_get q p (fun a b hm => allIn_spec ha a b hm)]
    unfold renOb
    cases lk (inv p) q with
    | none => rfl
    | some a => rfl
  have ho := h.ow.ren (r1 := S.r0) hb (fun a o t h1 h2 => by
    cases hf : isFrn o with
    | false => rfl
    | true =>
      cases o with
      | frn z => exact absurd h2 (noFrn_spec hn a z)
      | _ => cases hf) (fun t i hbt hi => by
    obtain ⟨j, h1, h2⟩ := h.ow.held t i hbt hi
    rw [show S.r0 = hr from hH.1] at hi
    exact ⟨j, by unfold renR; rw [hhr t i hi]; exact h1, h2⟩)
  rw [e] at ho
  refine hk.2 S wl M0 hH M (renR p ρ) f w ⟨ho, mapTri_ok 10 _ h.ok, fun t ht => ?_⟩
  dsimp only
  rw [mapTri_get rfl]
  exact ren_rel hb _ (h.sl t ht)
/-- The same where nothing was handed in. -/
theorem J_renM {fn : Func} {v : Option V} {w0 : World} {M00 : Mem} {Ds : List Nat} (p : List (Nat × Nat)) (hb : bij p = true) (ha : allIn p (obGet c.ob) p = true) (hn : noFrn c.ob = true) (hk : J r P N ds (finD P fn v w0 M00 noR Ds) ⟨mapTri (renV p) c.sl, renL p (obGet c.ob) p, c.td⟩) : J r P N ds (finD P fn v w0 M00 noR Ds) c :=
  J_renD p (fun _ _ h => by cases h) hb ha hn hk
theorem hJ_of {fin : Fin} {sl : Tri} {ps : List Tmp} {y : List V} {ob : List (Nat × IObj)} {td : List It} (h1 : (setPs N sl ps y).isSome = true) (h2 : J r P N ds fin ⟨(setPs N sl ps y).getD .e, ob, td⟩) : ∃ sl', setPs N sl ps y = some sl' ∧ J r P N ds fin ⟨sl', ob, td⟩ := by
  cases h : setPs N sl ps y with
  | none => rw [h] at h1; cases h1
  | some sl' => rw [h] at h2; exact ⟨sl', rfl, h2⟩
end
/-- Parts of lists. -/
theorem smh {α β : Type} {l k : List α} {f : α → β} {lo : Int} (h : slc l lo (l.length : Int) = some k) : slc (l.map f) lo ((l.map f).length : Int) = some (k.map f) := by
  rw [List.length_map]; exact sm h
theorem gmd {α β : Type} {l : List α} {f : α → β} {n : Nat} {i : Int} {y : α} (h : geti (l.drop n) i = some y) : geti ((l.map f).drop n) i = some (f y) := by
  rw [← List.map_drop]; exact gm h
theorem gjd {α : Type} {l : List α} {n : Nat} {i : Int} {y : α} (h : geti (l.drop n) i = some y) : l[(n + i.toNat)]? = some y := by
  have := (geti_nat h).2
  rwa [List.getElem?_drop] at this
end Go.Proofs.YtfgbhfphjmmiaaaGreatDoor.Kx
end
section
/- Functions that are ranged over: the statement. -/
namespace Go.Proofs.YtfgbhfphjmmiaaaGreatDoor.Kx
open Go Go.RowKit
theorem RelVs.split {M : Mem} {ρ : Rho} : ∀ {us vs : List Value} {xs : List V}, RelVs M ρ xs (us ++ vs) → RelVs M ρ (xs.take us.length) us ∧ RelVs M ρ (xs.drop us.length) vs
  | us, vs, xs, h => by
    have h1 := RelVs.take us.length h
    have h2 := RelVs.drop us.length h
    simp at h1 h2
    exact ⟨h1, h2⟩
def xsOf (c : Cfg) (vs : List V) : Option (List V) := match argsOf (obGet c.ob) vs with | some (xs, _) => some xs | none => none
def obR (c : Cfg) (vs : List V) : List (Nat × IObj) := match argsOf (obGet c.ob) vs with | some (_, wr) => obWr c.ob wr | none => c.ob
/-- A variable that will not be written again. -/
theorem J_frz {r : Option Nat} {P : Program} {N : Nat} {ds : List Deferred} {fin : Fin} {c : Cfg} (q : Nat) {te : TypeId} (cs : List V) (hq : obGet c.ob q = some (.box te cs)) (hx : (xsOf c [.ptr q 0]).isSome = true) (hk : J r P N ds fin ⟨c.sl, obR c [.ptr q 0], c.td⟩) : J r P N ds fin c := by
  refine ⟨hk.1, fun S wl M0 hH M ρ f w ha => ?_⟩
  obtain ⟨i, hi, hf, _⟩ := ha.ow.own q _ hq
  have hu : RelVs M ρ [.ptr q 0] [.pointer (some ⟨i.b, 0, none⟩)] := by
    simp only [RelVs, RelV]
    exact ⟨_, _, rfl, ⟨i, hi, hf, rfl⟩, rfl⟩
  cases hx' : argsOf (obGet c.ob) [.ptr q 0] with
  | none => simp [xsOf, hx'] at hx
  | some p =>
    obtain ⟨xs, wr⟩ := p
    obtain ⟨M', r0, o0, _⟩ := argsOf_sound ha.ow hu hx'
    rw [wrO_of] at o0
    have e : obR c [.ptr q 0] = obWr c.ob wr := by unfold obR; rw [hx']
    rw [e] at hk
    exact hk.2 S wl M0 hH M' ρ f w ⟨o0, ha.ok, fun t ht => RelV.mono r0 _ (ha.sl t ht)⟩
/-! ### The statement, entered -/
theorem W_rangeFunc {r : Option Nat} {P : Program} {g : Operand} {ps : Array Tmp} {assign body : Code} {Q : Exit → Act → World → Prop} {a : Act} {w : World}
    (h : ∀ fn, (∃ x, P.funcs[fn]? = some x) → ∃ (l : Nat) (mark : List Deferred) (w₁ : World) (d : Deferred) (w₁' : World) (f : FuncId) (args : Array Value) (w₂ : World),
      (Instr.enterLoop fn a.tmps ps assign body r).run P w = .ok (l, mark) w₁ ∧
      (resolve a.eval (rangeCall g l) 0).run P w₁ = .ok d w₁' ∧
      (invoke d.target d.args).run P w₁' = .ok (.enter f args) w₂ ∧
      CallsIn (WF r) 0 P f args w₂ (fun e w₃ => match e with
        | .returned _ => ∃ jump w₄, (Instr.endLoop l).run P w₃ = .ok jump w₄ ∧ (match jump with | none => Q .normal { a with defers := mark ++ a.defers } w₄ | some c => W r P c Q { a with defers := mark ++ a.defers } w₄)
        | .panicked chain => Q (.panic chain) { a with defers := mark ++ a.defers } w₃
        | .outgrown => False)) :
    W r P (.rangeFunc g ps assign body) Q a w := by
  unfold W
  intro b k cs hro hb
  obtain ⟨l, mark, w₁, d, w₁', f, args, w₂, he, hres, hinv, hF, hcall⟩ := h b.fn hb
  rw [← hro] at he
  have h0 : (lone (b.atR a (.code (.rangeFunc g ps assign body) :: k)) cs w).fenced P (WF r) :=
    fenced_lone (.inl trivial) (fun f' _ => trivial) (WF_room _ _)
  have henter := stepR_rangeFunc (P := P) (b := b) (a := a) (k := k) (cs := cs) (w := w) he hres hinv
  obtain ⟨e, w₃, fr, hR, hsteps, hfn, hleave⟩ := hcall (b.atR { a with defers := mark ++ a.defers } (.inRangeFunc l :: k) :: cs) (WF_room _ _)
  cases e with
  | outgrown => exact hR.elim
  | returned v =>
    have hl : (lone fr (b.atR { a with defers := mark ++ a.defers } (.inRangeFunc l :: k) :: cs) w₃).fenced P (WF r) := fenced_leaving (n := 0) trivial (WF_room _ _) hleave
    obtain ⟨jump, w₄, hend, hj⟩ := hR
    have sback : StepsIn (Machine.fenced P (WF r)) P (lone (b.atR a (.code (.rangeFunc g ps assign body) :: k)) cs w) (lone (b.atR { a with defers := mark ++ a.defers } ((jump.map Item.code).toList ++ k)) cs w₄) := by
      refine .head h0 henter (StepsIn.trans hsteps (.head hl ?_ (.one (WF_calm (fr := b.atR { a with defers := mark ++ a.defers } (.endRangeFunc l :: k)) rfl) (stepR_endRangeFunc hend))))
      rw [← finish_atR_inRangeFunc l v]; exact step_leave_returned hleave
    cases jump with
    | none => exact ⟨.normal, _, w₄, hj, sback⟩
    | some c =>
      obtain ⟨e', a'', w₅, hq, harr⟩ := W_at hj b k cs hro hb
      exact ⟨e', a'', w₅, hq, .of_steps sback harr⟩
  | panicked chain =>
    have hl : (lone fr (b.atR { a with defers := mark ++ a.defers } (.inRangeFunc l :: k) :: cs) w₃).fenced P (WF r) := fenced_leaving (n := 0) trivial (WF_room _ _) hleave
    refine ⟨.panic chain, _, w₃, hR, .inRangeFunc l :: k, .head h0 henter (StepsIn.trans hsteps (.one hl ?_))⟩
    rw [← Frame.raise_atR]; exact step_leave_panicked hleave
/-- What is handed to the function that is ranged over: its own objects, its arguments; and what is kept. -/
def rngOf (N : Nat) (c : Cfg) (p : List (Nat × Nat)) (vs : List V) (keep ids : List Nat) : Option (List (Nat × IObj) × List V × List (Nat × V) × List (Nat × IObj)) := match handOf (obGet c.ob) p vs with
  | some (os, xs, wr) => match pos ids (obGet (obWr c.ob wr)) ids, keptH ids (obWr c.ob wr), noFrn (obWr c.ob wr), disj ids (firsts p), noFrn os, obGet os 2000 with
    | some obs, true, true, true, true, none => some (os, xs, keepS N ids (obGet (obWr c.ob wr)) c.sl keep, obs)
    | _, _, _, _, _, _ => none
  | none => none
def onlyV (K : List Nat) (v : V) : V := match refsIn K v with | true => v | false => .undef
theorem onlyV_undef (K : List Nat) : onlyV K .undef = .undef := by unfold onlyV; split <;> rfl
/-- What is known behind a panic: nothing that is another's; closed; KP is in it. -/
theorem closed_keep {ob3 : List (Nat × IObj)} {ob' : Nat → Option IObj} (hids : ∀ r, memN r (idsOf ob3) = true → ob' r = obGet ob3 r) : keepO (idsOf ob3) (idsOf ob3) ob' = obGet ob3 := funext fun r => by
  cases hm : memN r (idsOf ob3) with
  | true => rw [keepO_in hm hm, hids r hm]
  | false =>
    have : obGet ob3 r = none := by
      cases ho : obGet ob3 r with
      | none => rfl
      | some o => rw [idsOf_mem.2 ⟨o, ho⟩] at hm; cases hm
    simp only [keepO, hm, this]
/-- **A range over a function.** p: the objects that the function is handed; fl: it panics at its end. -/
theorem J_rangeD {P : Program} {N : Nat} {fn0 : Func} {R0 : Ending → World → Prop} {w00 : Bas} {M00 : Mem} {hr : Rho} {base : List Deferred} {Ds : List Nat} {c : Cfg} {g : Operand} {ps : Array Tmp} {asg bo : Code} {k : List It} {gf : FuncId} {first cap xs : List V} {os : List (Nat × IObj)} {S1 : List (Nat × V)} {ob0 : List (Nat × IObj)} (p : List (Nat × Nat)) (keep ids : List Nat) (yl : List V) {ysAll : List (List V)} {fl : Bool} (K KP : List Nat) (Good : List (List V) → List (Nat × IObj) → Prop) (GoodX : Code → List (Nat × IObj) → Prop) (GoodP : List (Nat × IObj) → Prop)
    (hN : Nat.ble N 1024 = true) (ht : c.td = .code (.rangeFunc g ps asg bo) :: k) (hk : noBeg k = true) (hv : rangeOf N c = some (gf, first, cap)) (hl : allLt N keep = true) (hx : rngOf N c p (first ++ cap) keep ids = some (os, xs, S1, ob0)) (hre : Res' xs yl) (he : entersT P gf)
    (hit : IterC P gf ((2000, .frn 2000) :: os) (yl.take first.length ++ .yl 2000 :: yl.drop first.length) ysAll fl) (hK : allBigL K = true) (hkept : keptH K ob0 = true) (hslots : triRefs K (mkT S1) = true) (hKP : subN KP K = true) (hg0 : Good ysAll ob0) (hnf : ∀ ys ob, Good ys ob → okB K ob = true) (hnfX : ∀ j ob, GoodX j ob → okB K ob = true) (hnfP : ∀ ob, GoodP ob → okB KP ob = true) (hnfP0 : fl = true → ∀ ob, Good [] ob → okB KP ob = true)
    (hfree : obGet ob0 3000 = none ∧ obGet ob0 3001 = none)
    (hJ : ∀ x : Lp, x.as = asg → x.bo = bo → x.ps = ps → ∀ y ys ob, Good (y :: ys) ob → ∃ sl', setPs N (mkT S1) ps.toList y = some sl' ∧ J (some x.L) P N [] (finB x Good GoodX GoodP ys) ⟨sl', rob x .ready none ob, [.code asg, .begR x.L, .code bo]⟩)
    (hdone : fl = false → ∀ D ob, Good [] ob → J none P N (dfsB base (D :: Ds)) (finG P fn0 R0 w00 M00 hr (D :: Ds)) ⟨mkT S1, ob, k⟩)
    (hstop : ∀ D ob j, GoodX j ob → J none P N (dfsB base (D :: Ds)) (finG P fn0 R0 w00 M00 hr (D :: Ds)) ⟨mkT S1, ob, .code j :: k⟩)
    (hdie : fl = true → ∀ D ob, Good [] ob → JP N (dfsB base (D :: Ds)) (finG P fn0 R0 w00 M00 hr (D :: Ds)) (mapTri (onlyV KP) (mkT S1)) ob)
    (hpan : ∀ D ob, GoodP ob → JP N (dfsB base (D :: Ds)) (finG P fn0 R0 w00 M00 hr (D :: Ds)) (mapTri (onlyV KP) (mkT S1)) ob) : J none P N (dfsB base Ds) (finG P fn0 R0 w00 M00 hr Ds) c := by
  have hN := nb_le hN
  unfold rngOf at hx
  split at hx
  case h_2 => cases hx
  rename_i os' xs' wr hh
  split at hx
  case h_2 => cases hx
  rename_i obs hpos hkeptI hnfw hdj hnfos h2000
  cases hx
  refine ⟨hN, fun S wl M0 hH Mo ρo f w hao => ?_⟩
  obtain ⟨g', ps', as', bo', k', ht', hf⟩ := rangeOf_spec hv
  rw [ht] at ht'
  cases ht'
  obtain ⟨fs, cs, hge, hfs, hcs⟩ := hf (ds := dfsB base Ds) hao
  rw [ht]
  simp only [Wk, Exit.then]
  refine W_rangeFunc (fun fn hfn => ?_)
  -- what is handed out
  unfold handOf at hh
  split at hh
  case h_2 => cases hh
  rename_i xs0 wr0 hargs0 hbij hbig
  split at hh
  case h_2 => cases hh
  rename_i hcl
  cases hh
  obtain ⟨M, r0, o1, d1⟩ := argsR_sound hao.ow (hfs.append hcs) hargs0
  have hp := o1.part (firsts p) (firsts p) (fun x o hm hx => closedAll_spec hcl x o hm hx)
  have eR : renR p (keepR (firsts p) ρo) = renR p ρo := by
    funext t
    unfold renR
    split
    · rename_i q hq
      exact keepR_in (memN_firsts.2 ⟨t, bij_of hbij hq⟩)
    · rfl
  have eO : renOb p (keepO (firsts p) (firsts p) (wrO (obGet c.ob) wr)) = renOb p (wrO (obGet c.ob) wr) := by
    funext t
    unfold renOb
    split
    · rename_i q hq
      rw [keepO_in (memN_firsts.2 ⟨t, bij_of hbij hq⟩) (memN_firsts.2 ⟨t, bij_of hbij hq⟩)]
    · rfl
  have hq := hp.ren (r1 := renR p ρo) hbij (fun q o t hq ho => by
    have hm := memN_firsts.2 ⟨t, hq⟩
    rw [keepO_in hm hm] at ho
    have := closedAll_spec hcl q o hm ho
    cases o <;> first | rfl | cases this) (fun t i _ hi => ⟨i, by rw [eR]; exact hi, Ile.refl i⟩)
  rw [eR, eO, ← osOf_eq hbij] at hq
  have hargs := hre.rel (ren_rels hbij _ d1)
  have hlen : fs.length = first.length := hfs.len
  rw [wrO_of] at o1 hq h2000 hnfos hit
  have hosE : obGet (osOf p (obGet (obWr c.ob wr)) p) = renOb p (obGet (obWr c.ob wr)) := osOf_eq hbij _
  -- what is kept
  have o0 := o1.prune (ids := ids) (fun q o hb hq => keptH_spec hkeptI hq hb) hpos
  have hsl : ∀ t, t < N → RelV M (rhoK ids ρo) ((mkT (keepS N ids (obGet (obWr c.ob wr)) c.sl keep)).get 10 t) (f t) := fun t ht => mkT_rel hN _ (fun t v hm => by
    obtain ⟨rfl, h7⟩ := keepS_mem hm
    have hlt := allLt_spec hl t h7
    refine ⟨hlt, pv_rel o1 _ ?_⟩
    have := RelV.mono r0 _ (hao.sl t hlt)
    simp only [evalV, show Nat.blt t N = true by simpa [Nat.blt_eq] using hlt]
    exact this) t ht
  have hTA0 : ∀ b, TA (renR p ρo) (renOb p (obGet (obWr c.ob wr))) b → ¬ TA (rhoK ids ρo) (obGet ob0) b ∧ (S b ∨ wl.heap.size ≤ b) ∧ b < w.heap.size := fun b hb => by
    obtain ⟨q, i, o, hi, ho, hlv⟩ := hb
    obtain ⟨r', o', h1, h2, rfl⟩ := renOb_some ho
    unfold renR at hi
    rw [h1] at hi
    dsimp only at hi
    have hlv := renO_blk hlv
    have hta : TA ρo (obGet (obWr c.ob wr)) b := ⟨r', i, o', hi, h2, hlv⟩
    refine ⟨fun hta' => ?_, TA_mine o1 hta⟩
    obtain ⟨q', i', o2, hi', ho', hl'⟩ := hta'
    obtain ⟨hm', x, hx, hlx⟩ := prune_live hpos ho'
    unfold rhoK at hi'
    rw [hm'] at hi'
    dsimp only at hi'
    cases hρ : ρo q' with
    | none => rw [hρ] at hi'; cases hi'
    | some j =>
      rw [hρ] at hi'
      cases hi'
      have := o1.inj q' r' x o' j i _ hx h2 hρ hi (hlx j _ hl') hlv
      subst this
      have := disj_spec hdj _ (memN_spec hm')
      rw [memN_firsts.2 ⟨q, bij_of hbij h1⟩] at this
      cases this
  have ha : Abs S wl M0 M (rhoK ids ρo) N ⟨mkT (keepS N ids (obGet (obWr c.ob wr)) c.sl keep), ob0, []⟩ f w := ⟨o0, mkT_ok _, hsl⟩
  generalize keepS N ids (obGet (obWr c.ob wr)) c.sl keep = S1 at *
  generalize rhoK ids ρo = ρ at *
  have hargs' := hargs.split
  rw [hlen] at hargs'
  -- the record and the deferred block
  let x : Lp := ⟨w.heap.size, w.heap.size + 1, fn, (fr N f []).tmps, ps, asg, bo⟩
  have hdisj : ∀ r, obGet (rob x .ready none ob0) r = updO (updO (obGet ob0) 3000 (.raw x.D (.deferred (some [])))) 3001 (.raw x.L (.loop (recOf x .ready none))) r := fun r => by
    simp only [rob, obGet, updO]
    by_cases e : r = 3001
    · subst e; rfl
    · rw [beq_false e] <;> dsimp only <;> cases Nat.beq r 3000 <;> rfl
  have hM : ∀ b, w.heap.size ≤ b → M b = none := fun b hb => by
    cases hm : M b with
    | none => rfl
    | some c => exact absurd (ha.ow.sits.lt hm) (by omega)
  let w1 := (w.alloc (.deferred (some []))).alloc (.loop { state := .ready, pending := none, fn, tmps := (fr N f (dfsB base Ds)).tmps, params := ps, assign := asg, body := bo, defers := w.heap.size })
  have hs1 : (w.alloc (.deferred (some []))).heap.size = w.heap.size + 1 := by simp
  obtain ⟨r1, o1'⟩ := ha.ow.alloc (d := 3000) hfree.1 (.deferred (some [])) ⟨w.heap.size, 0, 0, 0, 0, 0, true, []⟩ (.raw x.D (.deferred (some []))) rfl (fun ρ' _ hm => ⟨rfl, rfl, ⟨.inr ha.ow.size, hm⟩, World.alloc_heap_new _ _⟩)
  obtain ⟨r2, o2⟩ := o1'.alloc (d := 3001) (by rw [updO_ne _ _ (by omega)]; exact hfree.2) (.loop (recOf x .ready none)) ⟨w.heap.size + 1, 0, 0, 0, 0, 0, true, []⟩ (.raw x.L (.loop (recOf x .ready none))) hs1.symm (fun ρ' _ hm => ⟨rfl, rfl, ⟨.inr (Nat.le_succ_of_le ha.ow.size), by rw [hs1] at hm; exact hm⟩, by show ((w.alloc (.deferred (some []))).alloc (.loop (recOf x .ready none))).heap[w.heap.size + 1]? = some (.loop (recOf x .ready none)); rw [← hs1]; exact World.alloc_heap_new _ _⟩)
  have hob : updO (updO (obGet ob0) 3000 (.raw x.D (.deferred (some [])))) 3001 (.raw x.L (.loop (recOf x .ready none))) = obGet (rob x .ready none ob0) := funext fun r => (hdisj r).symm
  rw [hob] at o2
  have r12 := r1.trans r2
  generalize hρ2 : updO (updO ρ 3000 (⟨w.heap.size, 0, 0, 0, 0, 0, true, []⟩ : Inf)) 3001 (⟨w.heap.size + 1, 0, 0, 0, 0, 0, true, []⟩ : Inf) = ρ2 at o2 r12 r2
  have o2 : Ow S wl M0 M ρ2 (obGet (rob x .ready none ob0)) w1 := o2
  have hw1 : ∀ b, b < w.heap.size → w1.heap[b]? = w.heap[b]? := fun b hb => by
    show ((w.alloc (.deferred (some []))).alloc (.loop (recOf x .ready none))).heap[b]? = w.heap[b]?
    rw [Below.heap_alloc _ _ _ (by rw [hs1]; omega), Below.heap_alloc _ _ _ hb]
  -- what is kept of the numbers
  have hbig' : ∀ r i, keepR K ρ r = some i → Nat.ble 2000 r = true := fun r i h => allBigL_spec hK (keepR_some h).1
  have hhr : ∀ r i, hr r = some i → Nat.ble 2000 r = true → ∃ j, keepR K ρ r = some j ∧ Ile i j := fun r i hi hb => by
    obtain ⟨j, h1, h2⟩ := ha.ow.held r i hb (by rw [show S.r0 = hr from hH.1]; exact hi)
    obtain ⟨o, ho⟩ := ha.ow.dom r j h1
    exact ⟨j, by rw [keepR_in (keptH_spec hkept ho hb)]; exact h1, h2⟩
  have hnfr : ∀ (st : LoopState) (pe : Option Code) (ob : List (Nat × IObj)), (∀ q z, obGet ob q ≠ some (.frn z)) → ∀ q z, obGet (rob x st pe ob) q ≠ some (.frn z) := fun st pe ob h q z => by
    simp only [rob, obGet]
    split
    · intro e; cases e
    · split
      · intro e; cases e
      · exact h q z
  -- another table of what was handed in
  have hS : ∀ {r0 r0' : Rho} {M : Mem} {ρ : Rho} {ob : Nat → Option IObj} {w : World}, Ow ⟨S.s, r0⟩ wl M0 M ρ ob w → (∀ q z, ob q ≠ some (.frn z)) → (∀ r i, Nat.ble 2000 r = true → r0' r = some i → ∃ j, ρ r = some j ∧ Ile i j) → Ow ⟨S.s, r0'⟩ wl M0 M ρ ob w := fun {r0 r0' M ρ ob w} h hn hh => by
    refine ⟨h.size, h.os, h.tape, h.output, h.old, h.sits, h.le, h.gl, h.new, fun q o hq => ?_, h.dom, h.inj, hh⟩
    obtain ⟨i, hi, hok⟩ := h.own q o hq
    refine ⟨i, hi, ?_⟩
    cases o with
    | frn z => exact absurd hq (hn q z)
    | tree g e sz shs es hh => exact hok
    | box te cs => exact hok
    | buf g e sz es => exact hok
    | fzs g sz es => exact hok
    | fzb cs => exact hok
    | mapo kk ag sz es => exact hok
    | raw b x => exact hok
  have o3 : Ow ⟨S.s, keepR K ρ⟩ wl M0 M ρ2 (obGet (rob x .ready none ob0)) w1 := hS (r0 := S.r0) o2 (hnfr _ _ _ (noFrn_spec (okB_spec (hnf _ _ hg0)).1)) (fun r i hb hi => r12.ext r i (keepR_some hi).2)
  have hR : RoundsOk P (w.heap.size + 1) (CInv x S wl M0 (keepR K ρ) M Good) (CStop x S wl M0 (keepR K ρ) M GoodX) (CPan x S wl M0 (keepR K ρ) M GoodP) :=
    ⟨CInv.it, CStop.it, fun y ys T M w vals h1 h2 h3 h4 => round_of (f := f) (sl := mkT S1) hfn hN rfl ha.ok (fun t ht => refs_rel _ (triRefs_spec 10 (mkT S1) t hslots) (ha.sl t ht)) hbig' (fun ys ob h => noFrn_spec (okB_spec (hnf ys ob h)).1) (hJ x rfl rfl rfl) y ys T M w vals h1 h2 h3 h4⟩
  -- the iterator's own
  let ρq := renR p ρo
  let ρI : Rho := fun r => match Nat.beq r 2000 with | true => some ⟨w.heap.size + 1, 0, 0, 0, 0, 0, true, []⟩ | false => ρq r
  have hρI : ∀ r, r ≠ 2000 → ρI r = ρq r := fun r e => by simp only [ρI, beq_false e]
  have hq2000 : ρq 2000 = none := by
    cases h : ρq 2000 with
    | none => rfl
    | some i =>
      obtain ⟨o, ho⟩ := hq.dom 2000 i h
      rw [h2000] at ho; cases ho
  have hnfos' := noFrnP hnfos
  have rI : Rle M M ρq ρI := ⟨M.le_refl, fun r i hi => ⟨i, by rw [hρI r (fun e => by rw [e, hq2000] at hi; cases hi)]; exact hi, Ile.refl i⟩⟩
  have hqb := hq.base (w' := w1) (r0 := noR) M.le_refl o2.sits (by show w.heap.size ≤ ((w.alloc (.deferred (some []))).alloc (.loop (recOf x .ready none))).heap.size; rw [World.size_alloc, World.size_alloc]; omega) (fun b hb => ⟨hw1 b (TA_mine hq hb).2, rfl⟩) (fun q i hq' _ => absurd hq' (hnfos' q q)) (fun q z hq' => absurd hq' (hnfos' q z)) (fun _ _ _ h => by cases h) (hq.szw.frame fun k hk _ => hw1 k hk)
  have hI : Ow ⟨TA ρq (obGet (osOf p (obGet (obWr c.ob wr)) p)), ρI⟩ w1 M M ρI (obGet ((2000, .frn 2000) :: osOf p (obGet (obWr c.ob wr)) p)) w1 := by
    refine ⟨Nat.le_refl _, rfl, rfl, rfl, fun _ _ _ => rfl, o2.sits, M.le_refl, hqb.gl, fun _ _ hb _ => .inl hb, fun r o h => ?_, fun r i h => ?_, fun r r' o o' i i' b h1 h2 h3 h4 l1 l2 => ?_, fun r i _ hi => ⟨i, hi, Ile.refl i⟩⟩
    · simp only [obGet] at h
      split at h
      · rename_i e
        cases h
        obtain rfl := Nat.eq_of_beq_eq_true e
        exact ⟨_, rfl, rfl⟩
      · rename_i e
        have hne : r ≠ 2000 := fun e' => by subst e'; simp at e
        obtain ⟨i, hi, hok⟩ := hqb.own r o h
        refine ⟨i, by rw [hρI r hne]; exact hi, ?_⟩
        have hok := hok.mono rI (fun _ _ => rfl) (fun _ _ => rfl)
        cases o with
        | frn z => exact absurd h (hnfos' r z)
        | tree g e sz shs es hh => exact hok
        | box te cs => exact hok
        | buf g e sz es => exact hok
        | fzs g sz es => exact hok
        | fzb cs => exact hok
        | mapo kk ag sz es => exact hok
        | raw b x => exact hok
    · by_cases e : r = 2000
      · subst e; exact ⟨_, rfl⟩
      · rw [hρI r e] at h
        obtain ⟨o, ho⟩ := hqb.dom r i h
        exact ⟨o, by simp only [obGet, beq_false e]; exact ho⟩
    · have hne : ∀ {r o i b}, obGet ((2000, IObj.frn 2000) :: osOf p (obGet (obWr c.ob wr)) p) r = some o → blk i o b → r ≠ 2000 := fun {r o i b} h hl e => by
        subst e
        simp only [obGet, Nat.beq_refl] at h
        cases h
        exact blk_none rfl rfl hl
      have e1 := hne h1 l1
      have e2 := hne h2 l2
      simp only [obGet, beq_false e1] at h1
      simp only [obGet, beq_false e2] at h2
      rw [hρI r e1] at h3
      rw [hρI r' e2] at h4
      exact hqb.inj r r' o o' i i' b h1 h2 h3 h4 l1 l2
  have hT0 : ∀ b, TA ρq (obGet (osOf p (obGet (obWr c.ob wr)) p)) b → ¬ TA ρ2 (obGet (rob x .ready none ob0)) b ∧ (S b ∨ wl.heap.size ≤ b) := fun b hb => by
    rw [hosE] at hb
    obtain ⟨h1, h2, h3⟩ := hTA0 b hb
    refine ⟨fun hta => ?_, h2⟩
    obtain ⟨q, i, o, hi, ho, hlv⟩ := hta
    rw [← hρ2] at hi
    simp only [rob, obGet] at ho
    by_cases e1 : q = 3001
    · subst e1; rw [updO_same] at hi; cases hi; have hbb := (blk_flat hlv (by rw [← Option.some.inj ho]; rfl)).2; dsimp only at hbb; omega
    · rw [updO_ne _ _ e1] at hi
      by_cases e0 : q = 3000
      · subst e0; rw [updO_same] at hi; cases hi; have hbb := (blk_flat hlv (by rw [← Option.some.inj ho]; rfl)).2; dsimp only at hbb; omega
      · rw [updO_ne _ _ e0] at hi
        simp only [beq_false e0, beq_false e1] at ho
        exact h1 ⟨q, i, o, hi, ho, hlv⟩
  have hcall := hit (w.heap.size + 1) _ _ _ hR _ M ρI w1 (fs ++ .func (.yield (w.heap.size + 1)) #[] #[] :: cs) ⟨w.heap.size + 1, 0, 0, 0, 0, 0, true, []⟩ hI
    ⟨M.le_refl, ρ2, ob0, hg0, o3, hT0⟩ rfl rfl
    ((RelVs.mono rI _ hargs'.1).append (by
      simp only [RelVs]
      exact ⟨_, _, rfl, ⟨⟨w.heap.size + 1, 0, 0, 0, 0, 0, true, []⟩, rfl, rfl, rfl⟩, RelVs.mono rI _ hargs'.2⟩))
  refine ⟨w.heap.size + 1, [{ target := .collected w.heap.size, args := #[] }], w1, { target := .fn (.func gf) cs.toArray, args := fs.toArray ++ #[.func (.yield (w.heap.size + 1)) #[] #[]] }, w1, gf, (fs ++ .func (.yield (w.heap.size + 1)) #[] #[] :: cs).toArray, w1, run_enterLoop_outer _ _ _ _ _, ?_, ?_, CallsIn.mono (calls_in (r := none) hcall) ?_⟩
  · have : (fr N f (dfsB base Ds)).eval g = .func (.func gf) fs.toArray cs.toArray := hge
    have h2 : (fr N f (dfsB base Ds)).eval (.const (.func (.yield (w.heap.size + 1)) #[] #[])) = .func (.yield (w.heap.size + 1)) #[] #[] := rfl
    simp [resolve, Deferred.ofValue, this, h2]
  · have := he (fs ++ .func (.yield (w.heap.size + 1)) #[] #[] :: cs).toArray w1
    simpa [invoke] using this
  · rintro e w3 ⟨T', M', hend⟩
    have hup : ∀ (st st' : LoopState) (pe : Option Code) (ob : List (Nat × IObj)), updO (obGet (rob x st pe ob)) 3001 (.raw x.L (.loop (recOf x st' pe))) = obGet (rob x st' pe ob) := fun st st' pe ob => by
      funext q
      by_cases e : q = 3001
      · subst e; rw [updO_same]; rfl
      · rw [updO_ne _ _ e]
        simp only [rob, obGet]
        split
        · rfl
        · have : Nat.beq q 3001 = false := beq_false e
          simp only [this]
    -- the record and the block are let go; the base is laid anew
    have key : ∀ (st : LoopState) (pe : Option Code) (M' : Mem) (rr ρ3 : Rho) (ob3 : List (Nat × IObj)) (w4 : World) (KK : List Nat), M.le M' → okB KK ob3 = true → (∀ r, memN r KK = true → memN r K = true) → (∀ q i, keepR K ρ q = some i → (∃ o, obGet ob3 q = some o) → rr q = some i) → Ow ⟨S.s, rr⟩ wl M0 M' ρ3 (obGet (rob x st pe ob3)) w4 →
        ∃ S' ρ4, HM w00 M00 (w.heap.size :: Ds) ⟨S', hr⟩ w4 M' ∧ Ow ⟨S', restr (idsOf ob3) hr⟩ w4 M' M' ρ4 (obGet ob3) w4 ∧ ∀ q i, memN q KK = true → ρ q = some i → ∃ j, ρ4 q = some j ∧ Ile i j := fun st pe M' rr ρ3 ob3 w4 KK hle hok hKK hrr h3 => by
      obtain ⟨k1, k2, k3, k4, k5⟩ := okB_spec hok
      have hids : ∀ r, memN r (idsOf ob3) = true → obGet (rob x st pe ob3) r = obGet ob3 r := fun r hr => by
        have e1 : Nat.beq r 3000 = false := beq_false (fun e => by subst e; rw [hr] at k4; cases k4)
        have e2 : Nat.beq r 3001 = false := beq_false (fun e => by subst e; rw [hr] at k5; cases k5)
        simp only [rob, obGet, e1, e2]
      have hpart := h3.part (idsOf ob3) (idsOf ob3) (fun r o hr ho => closedAll_spec k2 r o hr (by rw [← hids r hr]; exact ho))
      rw [closed_keep hids] at hpart
      have hheld : ∀ q i, Nat.ble 2000 q = true → memN q (idsOf ob3) = true → keepR K ρ q = some i → ∃ j, ρ3 q = some j ∧ Ile i j := fun q i hb hm hi => h3.held q i hb (hrr q i hi (idsOf_mem.1 hm))
      have hpart' : Ow ⟨SK (idsOf ob3) ρ3 (obGet (rob x st pe ob3)), restr (idsOf ob3) hr⟩ w4 M' M' (keepR (idsOf ob3) ρ3) (obGet ob3) w4 := ⟨hpart.size, hpart.os, hpart.tape, hpart.output, hpart.old, hpart.sits, hpart.le, hpart.gl, hpart.new, fun q o hq => by
          obtain ⟨i, hi, hok⟩ := hpart.own q o hq
          refine ⟨i, hi, ?_⟩
          cases o with
          | frn z => exact absurd hq (noFrn_spec k1 q z)
          | tree g e sz shs es hh => exact hok
          | box te cs => exact hok
          | buf g e sz es => exact hok
          | fzs g sz es => exact hok
          | fzb cs => exact hok
          | mapo kk ag sz es => exact hok
          | raw b x => exact hok, hpart.dom, hpart.inj, fun r i hb hi => by
          obtain ⟨hm, hi⟩ := restr_some hi
          obtain ⟨j, h1, h2⟩ := hhr r i hi hb
          obtain ⟨l, h4, h5⟩ := hheld r j hb hm h1
          exact ⟨l, by rw [keepR_in hm]; exact h4, h2.trans h5⟩⟩
      have h3' := hS (r0' := noR) h3 (hnfr _ _ _ (noFrn_spec k1)) (fun r i hb hi => by cases hi)
      obtain ⟨⟨h1, h2, h5, h6⟩, _⟩ := HM_base (S := ⟨S.s, noR⟩) (b0 := w00) (M00 := M00) (Ds := Ds) hH.2 h3' (hnfr _ _ _ (noFrn_spec k1))
      have hSK : ∀ b, SK (idsOf ob3) ρ3 (obGet (rob x st pe ob3)) b → TA ρ3 (obGet (rob x st pe ob3)) b := fun b ⟨r, i, o, _, a1, a2, a3⟩ => ⟨r, i, o, a1, a2, a3⟩
      obtain ⟨iD, hiD, _, hDb, hDm, hDw⟩ := h3.own 3000 (.raw x.D (.deferred (some []))) rfl
      refine ⟨SK (idsOf ob3) ρ3 (obGet (rob x st pe ob3)), keepR (idsOf ob3) ρ3, ⟨h1, fun b hb => h2 b (hSK b hb), fun D hD => ?_, ?_⟩, hpart', fun q i hm hi => ?_⟩
      · rcases List.mem_cons.1 hD with rfl | hD
        · refine ⟨Nat.le_trans hH.2.1.size ha.ow.size, ?_, ?_, ?_, hDw⟩
          · exact (Array.getElem?_eq_some_iff.1 hDw).1
          · rintro ⟨r, i, o, b1, b2, b3, b4⟩
            have : r = 3000 := h3.inj r 3000 o _ i iD _ b3 rfl b2 hiD b4 (.inl ⟨trivial, hDb⟩)
            subst this
            rw [b1] at k4; cases k4
          · have := hDm.2; rw [hDb] at this; exact this
        · obtain ⟨a1, a2, a3, a4, a5⟩ := h5 D hD
          exact ⟨a1, a2, fun h => a3 (hSK D h), a4, a5⟩
      · refine List.nodup_cons.2 ⟨fun hm => ?_, h6⟩
        have := (hH.2.2.2.1 _ hm).2.1
        have := ha.ow.size
        omega
      · have hmi := subN_spec k3 _ hm
        obtain ⟨j, b1, b2⟩ := hheld q i (hbig' q i (by rw [keepR_in (hKK q hm)]; exact hi)) hmi (by rw [keepR_in (hKK q hm)]; exact hi)
        exact ⟨j, by rw [keepR_in hmi]; exact b1, b2⟩
    -- a panic: slots that hang on KP
    have pan : ∀ (st : LoopState) (pe : Option Code) (M' : Mem) (rr ρ3 : Rho) (ob3 : List (Nat × IObj)) (w4 : World) (t : TypeId) (u : Value), M.le M' → okB KP ob3 = true → (∀ q i, keepR K ρ q = some i → (∃ o, obGet ob3 q = some o) → rr q = some i) → Ow ⟨S.s, rr⟩ wl M0 M' ρ3 (obGet (rob x st pe ob3)) w4 →
        JP N (dfsB base (w.heap.size :: Ds)) (finG P fn0 R0 w00 M00 hr (w.heap.size :: Ds)) (mapTri (onlyV KP) (mkT S1)) ob3 → (finG P fn0 R0 w00 M00 hr Ds).post S wl M0 (.panic [{ v := .iface t u, recovered := false }]) (fr N f (dfsB base (w.heap.size :: Ds))) w4 := fun st pe M' rr ρ3 ob3 w4 t u hle hok hrr h3 hjp => by
      obtain ⟨S', ρ4, h5, h6, h7⟩ := key st pe M' rr ρ3 ob3 w4 KP hle hok (fun r h => subN_spec hKP r h) hrr h3
      refine hjp ⟨S', hr⟩ w4 M' ⟨rfl, h5⟩ (restr (idsOf ob3) hr) M' ρ4 w4 f t u (fun q i hi ho => ?_) h6 (fun t ht => ?_)
      · unfold restr
        rw [idsOf_mem.2 ho]
        exact hi
      · rw [mapTri_get (onlyV_undef KP)]
        unfold onlyV
        split
        · rename_i hrf
          exact RelV.mono ⟨hle, fun r i hi => h7 r i (keepR_some hi).1 (keepR_some hi).2⟩ _ (refs_rel _ hrf (ha.sl t ht))
        · exact relV_undef _
    have norm : ∀ (st : LoopState) (pe : Option Code) (M' : Mem) (ρ3 : Rho) (ob3 : List (Nat × IObj)) (w4 : World), M.le M' → okB K ob3 = true → Ow ⟨S.s, keepR K ρ⟩ wl M0 M' ρ3 (obGet (rob x st pe ob3)) w4 →
        ∃ S' wl' M0' ρ4, (finG P fn0 R0 w00 M00 hr (w.heap.size :: Ds)).H S' wl' M0' ∧ Abs S' wl' M0' M' ρ4 N ⟨mkT S1, ob3, []⟩ f w4 := fun st pe M' ρ3 ob3 w4 hle hok h3 => by
      obtain ⟨S', ρ4, h5, h6, h7⟩ := key st pe M' (keepR K ρ) ρ3 ob3 w4 K hle hok (fun _ h => h) (fun _ _ h _ => h) h3
      obtain ⟨k1, k2, k3, k4, k5⟩ := okB_spec hok
      refine ⟨⟨S', hr⟩, w4, M', ρ4, ⟨rfl, h5⟩, ⟨h6.size, h6.os, h6.tape, h6.output, h6.old, h6.sits, h6.le, h6.gl, h6.new, fun q o hq => ?_, h6.dom, h6.inj, fun r i hb hi => ?_⟩, ha.ok, fun t ht => ?_⟩
      · obtain ⟨i, hi, hok⟩ := h6.own q o hq
        refine ⟨i, hi, ?_⟩
        cases o with
        | frn z => exact absurd hq (noFrn_spec k1 q z)
        | tree g e sz shs es hh => exact hok
        | box te cs => exact hok
        | buf g e sz es => exact hok
        | fzs g sz es => exact hok
        | fzb cs => exact hok
        | mapo kk ag sz es => exact hok
        | raw b x => exact hok
      · obtain ⟨j, h1, _⟩ := hhr r i hi hb
        exact h6.held r i hb (by show restr (idsOf ob3) hr r = some i; unfold restr; rw [subN_spec k3 _ (keepR_some h1).1]; exact hi)
      · exact RelV.mono ⟨hle, fun r i hi => h7 r i (keepR_some hi).1 (keepR_some hi).2⟩ _ (refs_rel _ (triRefs_spec 10 (mkT S1) t hslots) (ha.sl t ht))
    rcases hend with ⟨v, rfl, ⟨hfl, hle, ρ3, ob3, hg3, ho3, _⟩ | ⟨hle, ρ3, ob3, j, hg3, ho3, _⟩⟩ | ⟨⟨t, u, rfl⟩, ⟨hfl, hle, ρ3, ob3, hg3, ho3, _⟩ | ⟨hle, rr, ρ3, ob3, hg3, hrr, ho3, _⟩⟩
    · obtain ⟨hh, o4⟩ := ho3.raw (q := 3001) rfl (.loop (recOf x .exhausted none))
      rw [hup] at o4
      refine ⟨none, _, run_endLoop hh (by simp [recOf]), ?_⟩
      obtain ⟨S', wl', M0', ρ4, h5, h6⟩ := norm _ _ _ _ _ _ hle (hnf _ _ hg3) o4
      exact (hdone hfl w.heap.size ob3 hg3).2 S' wl' M0' h5 M' ρ4 f _ ⟨h6.ow, h6.ok, h6.sl⟩
    · obtain ⟨hh, o4⟩ := ho3.raw (q := 3001) rfl (.loop (recOf x .exhausted (some j)))
      rw [hup] at o4
      refine ⟨some j, _, run_endLoop hh (by simp [recOf]), ?_⟩
      obtain ⟨S', wl', M0', ρ4, h5, h6⟩ := norm _ _ _ _ _ _ hle (hnfX _ _ hg3) o4
      have := (hstop w.heap.size ob3 j hg3).2 S' wl' M0' h5 M' ρ4 f _ ⟨h6.ow, h6.ok, h6.sl⟩
      simp only [Wk, Exit.then] at this
      exact this
    · exact Wk_pan k hk (pan _ _ _ _ _ _ _ t u hle (hnfP0 hfl ob3 hg3) (fun _ _ h _ => h) ho3 (hdie hfl w.heap.size ob3 hg3))
    · exact Wk_pan k hk (pan _ _ _ _ _ _ _ t u hle (hnfP _ hg3) hrr ho3 (hpan w.heap.size ob3 hg3))
/-- The same, where nothing is handed out, and nobody panics. -/
theorem J_range {P : Program} {N : Nat} {fn0 : Func} {R0 : Ending → World → Prop} {w00 : Bas} {M00 : Mem} {hr : Rho} {base : List Deferred} {Ds : List Nat} {c : Cfg} {g : Operand} {ps : Array Tmp} {asg bo : Code} {k : List It} {gf : FuncId} {first cap xs : List V} {os : List (Nat × IObj)} {S1 : List (Nat × V)} {ob0 : List (Nat × IObj)} (p : List (Nat × Nat)) (keep ids : List Nat) (yl : List V) {ysAll : List (List V)} (K : List Nat) (Good : List (List V) → List (Nat × IObj) → Prop) (GoodX : Code → List (Nat × IObj) → Prop)
    (hN : Nat.ble N 1024 = true) (ht : c.td = .code (.rangeFunc g ps asg bo) :: k) (hk : noBeg k = true) (hv : rangeOf N c = some (gf, first, cap)) (hl : allLt N keep = true) (hx : rngOf N c p (first ++ cap) keep ids = some (os, xs, S1, ob0)) (hre : Res' xs yl) (he : entersT P gf)
    (hit : IterC P gf ((2000, .frn 2000) :: os) (yl.take first.length ++ .yl 2000 :: yl.drop first.length) ysAll false) (hK : allBigL K = true) (hkept : keptH K ob0 = true) (hslots : triRefs K (mkT S1) = true) (hg0 : Good ysAll ob0) (hnf : ∀ ys ob, Good ys ob → okB K ob = true) (hnfX : ∀ j ob, GoodX j ob → okB K ob = true)
    (hfree : obGet ob0 3000 = none ∧ obGet ob0 3001 = none)
    (hJ : ∀ x : Lp, x.as = asg → x.bo = bo → x.ps = ps → ∀ y ys ob, Good (y :: ys) ob → ∃ sl', setPs N (mkT S1) ps.toList y = some sl' ∧ J (some x.L) P N [] (finB x Good GoodX (fun _ => False) ys) ⟨sl', rob x .ready none ob, [.code asg, .begR x.L, .code bo]⟩)
    (hdone : ∀ D ob, Good [] ob → J none P N (dfsB base (D :: Ds)) (finG P fn0 R0 w00 M00 hr (D :: Ds)) ⟨mkT S1, ob, k⟩)
    (hstop : ∀ D ob j, GoodX j ob → J none P N (dfsB base (D :: Ds)) (finG P fn0 R0 w00 M00 hr (D :: Ds)) ⟨mkT S1, ob, .code j :: k⟩) : J none P N (dfsB base Ds) (finG P fn0 R0 w00 M00 hr Ds) c :=
  J_rangeD p keep ids yl K [] Good GoodX (fun _ => False) hN ht hk hv hl hx hre he hit hK hkept hslots rfl hg0 hnf hnfX (fun _ h => h.elim) (fun h => by cases h) hfree hJ (fun _ => hdone) hstop (fun h => by cases h) (fun _ _ h => h.elim)
end Go.Proofs.YtfgbhfphjmmiaaaGreatDoor.Kx
end
section
/- A pointer to an element, pinned: from here on the buffer is only appended to. -/
namespace Go.Proofs.YtfgbhfphjmmiaaaGreatDoor.Kx
open Go Go.RowKit
section
variable (q g : Nat)
end
section
variable {M : Mem} {ρ : Rho} {q g : Nat} {i : Inf}
end
section
variable {S : Hand} {wl w : World} {M0 M : Mem} {ρ : Rho} {ob : Nat → Option IObj} {q g sz : Nat} {e : TypeId} {es : List (List Dat)}
end
section
variable {r : Option Nat} {P : Program} {N : Nat} {ds : List Deferred} {fin : Fin} {c : Cfg}
/-- What slot t holds will not be written again. -/
theorem J_frzS (t : Nat) (ht : Nat.blt t N = true) (hx : (xsOf c [c.sl.get 10 t]).isSome = true) (hk : J r P N ds fin ⟨c.sl, obR c [c.sl.get 10 t], c.td⟩) : J r P N ds fin c := by
  refine ⟨hk.1, fun S wl M0 hH M ρ f w ha => ?_⟩
  have hu : RelVs M ρ [c.sl.get 10 t] [f t] := by
    simp only [RelVs]
    exact ⟨_, _, rfl, ha.sl t (nb_lt ht), rfl⟩
  cases hx' : argsOf (obGet c.ob) [c.sl.get 10 t] with
  | none => simp [xsOf, hx'] at hx
  | some p =>
    obtain ⟨xs, wr⟩ := p
    obtain ⟨M', r0, o0, _⟩ := argsOf_sound ha.ow hu hx'
    rw [wrO_of] at o0
    have e : obR c [c.sl.get 10 t] = obWr c.ob wr := by unfold obR; rw [hx']
    rw [e] at hk
    exact hk.2 S wl M0 hH M' ρ f w ⟨o0, ha.ok, fun t ht => RelV.mono r0 _ (ha.sl t ht)⟩
end
/-! ### Bytes -/
def toI (b : UInt8) : Int := (b.toNat : Int)
theorem map_byteD {f : Int → List Dat} (hf : ∀ x, f x = [.int .u8 x]) (s : List UInt8) : (s.map toI).map f = s.map byteD := by
  rw [List.map_map]
  refine List.map_congr_left fun b _ => ?_
  simp only [Function.comp, hf]
  rfl
theorem ams {f : Int → List Dat} (hf : ∀ x, f x = [.int .u8 x]) {l k : List Int} {s : List UInt8} (h : app l (s.map toI) = some k) : app (l.map f) (s.map byteD) = some (k.map f) := by
  rw [← map_byteD hf]; exact am h
/-- A text's bytes. -/
theorem bym {s : List UInt8} {f : Int → List Dat} (hf : ∀ x, f x = [.int .u8 x]) : some (s.map byteD) = some ((s.map toI).map f) := by
  rw [← map_byteD hf]
def ustr (l : List Int) (j : Nat) (m : Int) : Option (List UInt8) := bif decide (0 < m) && decide (j + m.toNat ≤ l.length) && decide (m ≤ 2147483648) then some (((l.drop j).take m.toNat).map fun x => x.toNat.toUInt8) else none
theorem strD_map {f : Int → List Dat} (hf : ∀ x, f x = [.int .u8 x]) : ∀ (l : List Int), strD (l.map f) = some (l.map fun x => x.toNat.toUInt8)
  | [] => rfl
  | x :: l => by rw [List.map_cons, hf, strD, strD_map hf l]; rfl
theorem usm {f : Int → List Dat} (hf : ∀ x, f x = [.int .u8 x]) {l : List Int} {j : Nat} {m : Int} {s : List UInt8} (h : ustr l j m = some s) : usd (l.map f) j m = some [.str s] := by
  unfold ustr at h
  unfold usd
  rw [List.length_map]
  cases hb : (decide (0 < m) && decide (j + m.toNat ≤ l.length) && decide (m ≤ 2147483648)) with
  | false => rw [hb] at h; cases h
  | true =>
    rw [hb, cond_true] at h
    cases h
    rw [cond_true, ← List.map_drop, ← List.map_take, strD_map hf]
theorem callX_noEscape {P : Program} {g : FuncId} {fn : Func} (hf : P.funcs[g]? = some fn) (hn : (fn.name == "runtime.NumGoroutine") = false) (hb : fn.body.isNone = true) (hx : (Extern.findNext fn).isNone = true) (he : Extern.find fn = some Extern.AbiNoEscape.same) (v : V) : CallX P g [v] v := by
  intro M ρ vals hr
  simp only [RelVs] at hr
  obtain ⟨u, us, rfl, h1, rfl⟩ := hr
  have hx' : Extern.findNext fn = none := by simpa using hx
  refine ⟨u, h1, fun w => ?_⟩
  rw [run_callFunc_extern hf hn hb hx' he]
  rfl
end Go.Proofs.YtfgbhfphjmmiaaaGreatDoor.Kx
end
section
/- Deferred calls; recover. -/
namespace Go.Proofs.YtfgbhfphjmmiaaaGreatDoor.Kx
open Go Go.RowKit
/-! ### A deferred function that recovers -/
section
variable {P : Program} {N : Nat}
end
section
variable {P : Program} {N : Nat} {fn : Func} {g : FuncId} {id : Nat} {o0 : Oper} {rest : List Oper} {y : Code} {cap : List V}
def frns : List Nat → List (Nat × IObj)
  | [] => []
  | q :: l => (q, .frn q) :: frns l
theorem frns_get : ∀ (K : List Nat) (q : Nat), obGet (frns K) q = match memN q K with | true => some (.frn q) | false => none
  | [], q => rfl
  | k :: K, q => by
    have ih := frns_get K q
    simp only [frns, obGet, memN]
    cases h : Nat.beq q k with
    | true => obtain rfl := Nat.eq_of_beq_eq_true h; rfl
    | false => exact ih
end
/-! ### The door -/
section
variable {P : Program} {N : Nat} {fn : Func} {v : Option V} {w0 : World} {M00 : Mem} {Ds : List Nat} {c : Cfg} {hr : Rho} {base : List Deferred} {g : FuncId} {cap : List V}
/-! ### A panic at the door -/
/-- Other numbers; what the closure has caught keeps its own. -/
def keepsK (p : List (Nat × Nat)) : List Nat → Bool
  | [] => true
  | q :: l => match lk (inv p) q with | some t => (match Nat.beq t q with | true => keepsK p l | false => false) | none => false
theorem keepsK_spec {p : List (Nat × Nat)} : ∀ {l : List Nat} {q : Nat}, keepsK p l = true → memN q l = true → lk (inv p) q = some q
  | [], _, _, h => by cases h
  | k :: l, q, hb, h => by
    unfold keepsK at hb
    split at hb
    · rename_i t ht
      split at hb
      · rename_i he
        unfold memN at h
        split at h
        · rename_i h1
          obtain rfl := Nat.eq_of_beq_eq_true h1
          rw [ht, Nat.eq_of_beq_eq_true he]
        · exact keepsK_spec hb h
      · cases hb
    · cases hb
end
end Go.Proofs.YtfgbhfphjmmiaaaGreatDoor.Kx
end
section
/- Functions that are handed objects of our own, and range over functions. -/
namespace Go.Proofs.YtfgbhfphjmmiaaaGreatDoor.Kx
open Go Go.RowKit
section
variable {s0 s1 : Nat → Prop} {r0 r1 : Rho} {w0 w1 w : World} {M00 M1 M : Mem} {ρ : Rho} {ob : Nat → Option IObj}
/-- What is our own, seen from the start. -/
theorem Ow.under (h : Ow ⟨s1, r1⟩ w1 M1 M ρ ob w) (hx : ExtS s0 M00 M1 w0 w1) (h2 : ∀ b, s1 b → s0 b ∨ w0.heap.size ≤ b) (hq : Sz w0 ∧ ∀ n cs, Kx.gl n = some cs → ¬ s0 n) (hn : ∀ q z, ob q ≠ some (.frn z)) (hh : ∀ t i, Nat.ble 2000 t = true → r0 t = some i → ∃ i', ρ t = some i' ∧ Ile i i') : Ow ⟨s0, r0⟩ w0 M00 M ρ ob w := by
  have mine : ∀ b, (s1 b ∨ w1.heap.size ≤ b) → (s0 b ∨ w0.heap.size ≤ b) := fun b hb => hb.elim (h2 b) (fun h => .inr (Nat.le_trans hx.size h))
  refine ⟨Nat.le_trans hx.size h.size, h.os.trans hx.os, h.tape.trans hx.tape, h.output.trans hx.output, fun k hk hs => ?_, h.sits, Mem.le_trans hx.le h.le, ⟨h.gl.ok, hq.2, hq.1⟩, fun b c hb hlt => ?_, fun r o ho => ?_, h.dom, h.inj, hh⟩
  · rw [h.old k (Nat.lt_of_lt_of_le hk hx.size) (fun hs' => by rcases h2 k hs' with h5 | h5; exact hs h5; exact absurd hk (Nat.not_lt.2 h5))]; exact hx.block k hk hs
  · rcases h.new b c hb (Nat.lt_of_lt_of_le hlt hx.size) with h5 | h5
    · exact hx.new b c h5 hlt
    · rcases h2 b h5 with h6 | h6
      · exact .inr h6
      · exact absurd hlt (Nat.not_lt.2 h6)
  · obtain ⟨i, hi, hok⟩ := h.own r o ho
    refine ⟨i, hi, ?_⟩
    cases o with
    | tree g e sz shs es hh => exact ObjOk.tree hok (fun b hb => mine _ (blk_mine hok hb).1) (fun _ _ _ _ h => h)
    | box te cs =>
      obtain ⟨h0, h1, rest⟩ := hok
      exact ⟨h0, ⟨mine _ h1.1, h1.2⟩, rest⟩
    | buf g e sz es =>
      obtain ⟨h0, hg, hss, hn, ht, hx, h1⟩ := hok
      refine ⟨h0, hg, hss, hn, ht, hx, fun hp => ?_⟩
      obtain ⟨h1, rest⟩ := h1 hp
      exact ⟨⟨mine _ h1.1, h1.2⟩, rest⟩
    | fzs g sz es => exact hok
    | fzb cs => exact hok
    | mapo kk ag sz es =>
      obtain ⟨h0, h1, rest⟩ := hok
      exact ⟨h0, ⟨mine _ h1.1, h1.2⟩, rest⟩
    | raw b x =>
      obtain ⟨h0, e, h1, rest⟩ := hok
      exact ⟨h0, e, ⟨mine _ h1.1, h1.2⟩, rest⟩
    | frn q => exact absurd ho (hn r q)
end
/-- It comes back with v, and what was handed in is as H says. -/
def RetH (s : Nat → Prop) (r0 : Rho) (w0 : World) (M00 : Mem) (H : List (Nat × IObj)) (v : V) : Ending → World → Prop := fun e w' =>
  ∃ u M' ρ', e = .returned u ∧ Ow ⟨s, r0⟩ w0 M00 M' ρ' (obGet H) w' ∧ RelV M' ρ' v u
/-- What is known of the start. -/
def FromH (K : List Nat) (s : Nat → Prop) (r0 : Rho) (w0 : World) : Prop := (Sz w0 ∧ ∀ n cs, Kx.gl n = some cs → ¬ s n) ∧ ∀ r i, r0 r = some i → memN r K = true
abbrev finH (P : Program) (fn : Func) (H : List (Nat × IObj)) (v : V) (s : Nat → Prop) (r0 : Rho) (w0 : World) (M00 : Mem) (Ds : List Nat) : Fin := finG P fn (RetH s r0 w0 M00 H v) ⟨w0, s⟩ M00 r0 Ds
section
variable {P : Program} {N : Nat} {fn : Func} {v : V} {s : Nat → Prop} {r0 : Rho} {w0 : World} {M00 : Mem} {Ds : List Nat} {c : Cfg} {K : List Nat}
theorem closed_nofrn {l : List (Nat × IObj)} (hc : closedAll (obGet l) (idsOf (keepH l)) (idsOf (keepH l)) = true) : ∀ q z, obGet (keepH l) q ≠ some (.frn z) := fun q z hq => by
  have hm : memN q (idsOf (keepH l)) = true := idsOf_mem.2 ⟨_, hq⟩
  rw [keepH_get] at hq
  split at hq
  · have := closedAll_spec hc q _ hm hq
    cases this
  · cases hq
theorem J_retH {rs : List ResultVar} {xs : List V} {H : List (Nat × IObj)} (hst : FromH K s r0 w0) (ys : List V) (hfn : fn.results = rs.toArray) (hN : Nat.ble N 1024 = true) (hv : retROf P N c rs = some (xs, H)) (hre : Res' xs ys) (he : tupV ys = v) (hn : noFrn c.ob = true) : J none P N (dfs Ds) (finH P fn H v s r0 w0 M00 Ds) c := by
  refine ⟨nb_le hN, fun S wl M0 hH M ρ f w h => ?_⟩
  unfold retROf at hv
  split at hv
  case h_2 => cases hv
  rename_i hat
  split at hv
  case h_2 => cases hv
  rename_i vs hvs
  split at hv
  case h_2 => cases hv
  rename_i xs' wr hx
  split at hv
  case h_2 => cases hv
  rename_i hcl
  cases hv
  have hheld : ∀ t i, Nat.ble 2000 t = true → r0 t = some i → ∃ i', ρ t = some i' ∧ Ile i i' := fun t i hb hi => h.ow.held t i hb (by rw [show S.r0 = r0 from hH.1]; exact hi)
  have hbase : ∀ S2 w2, HM ⟨w0, s⟩ M00 [] S2 w2 M → Ow S2 w2 M M ρ (obGet c.ob) w2 → LeavesInM (WF none) 0 P fn (fr N f []).tmps (RetH s r0 w0 M00 (keepH (obWr c.ob wr)) v) [] .returning w2 := fun S2 w2 h1 h2 => by
    have ha : Abs S2 w2 M M ρ N c f w2 := ⟨h2, h.ok, h.sl⟩
    obtain ⟨us, h3, h4⟩ := retV_ok ha hvs
    obtain ⟨M', r1, o1, d1⟩ := argsOf_sound h2 h4 hx
    rw [← obGet_wr] at o1
    have o2 := o1.onlyH hcl
    refine ⟨tupv us, results_run (ds := []) hfn h3, tupv us, M', _, rfl, o2.under h1.1 h1.2.1 hst.1 (closed_nofrn hcl) (fun t i hb hi => ?_), by rw [← he]; exact tupV_rel (hre.rel (d1 _))⟩
    obtain ⟨i', h5, h6⟩ := hheld t i hb hi
    obtain ⟨o, ho⟩ := o1.dom t i' h5
    have hm : memN t (idsOf (keepH (obWr c.ob wr))) = true := idsOf_mem.2 ⟨o, by rw [keepH_get, hb]; exact ho⟩
    exact ⟨i', by rw [keepR_in hm]; exact h5, h6⟩
  have key : bodyPostM (WF none) 0 P fn (RetH s r0 w0 M00 (keepH (obWr c.ob wr)) v) .ret (fr N f (dfs Ds)) w := pop_marks (tmps := (fr N f []).tmps) (by intro e; cases e) (noFrn_spec hn) hbase Ds S wl w M0 hH.2 h.ow
  unfold atRet at hat
  split at hat
  · rename_i ht
    rw [ht]
    exact W_ret (Wk_ret _ hat key)
  · rename_i ht
    rw [ht]
    exact key
  · cases hat
/-- Other numbers; what was handed in keeps its own. -/
theorem J_renG {r : Option Nat} {ds : List Deferred} {H : List (Nat × IObj)} (hst : FromH K s r0 w0) (p : List (Nat × Nat)) (hkk : keepsK p K = true) (hb : bij p = true) (ha : allIn p (obGet c.ob) p = true) (hn : noFrn c.ob = true) (hk : J r P N ds (finH P fn H v s r0 w0 M00 Ds) ⟨mapTri (renV p) c.sl, renL p (obGet c.ob) p, c.td⟩) : J r P N ds (finH P fn H v s r0 w0 M00 Ds) c :=
  J_renD p (fun t i hi => keepsK_spec hkk (hst.2 t i hi)) hb ha hn hk
theorem callH_of {g : FuncId} {b : Code} {os H : List (Nat × IObj)} {args : List V} (hf : P.funcs[g]? = some fn) (hb : fn.body = some b) (hN : fn.ntmps = N) (hv : Nat.ble args.length N = true) (hno : noFrn os = true) (h : ∀ s r0 w0 M00, FromH (idsOf os) s r0 w0 → J none P N (dfs []) (finH P fn H v s r0 w0 M00 []) ⟨mkT (argT 0 args), os, [.code b]⟩) : CallR P g os args H v := by
  intro s wl M0 M ρ w vals ho hr
  have hl := nb_le hv
  refine entryM hf hb hN (by rw [hr.len]; exact hl) ?_
  have hst : FromH (idsOf os) s ρ wl := ⟨⟨ho.gl.sz, ho.gl.off⟩, fun r i hi => idsOf_mem.2 (ho.dom r i hi)⟩
  have h := h s ρ wl M0 hst
  have hbs := ho.base (r0 := ρ) M.le_refl ho.sits (Nat.le_refl _) (fun k hk => ⟨rfl, rfl⟩) (fun q i hq _ => absurd hq (noFrn_spec hno q q)) (fun q z hq => absurd hq (noFrn_spec hno q z)) (fun _ _ _ h => h) ho.szw
  have := h.2 ⟨TA ρ (obGet os), ρ⟩ w M ⟨rfl, ⟨ho.os, ho.tape, ho.output, ho.size, ho.old, ho.le, ho.sits, ho.new⟩, fun b hb => (TA_mine ho hb).1, fun _ h => (by cases h), List.nodup_nil⟩ M ρ (argf vals) w ⟨hbs, mkT_ok _, mkT_rel h.1 _ (fun t v hm => by
    obtain ⟨_, h2⟩ := argT_mem hm
    rw [Nat.sub_zero] at h2
    obtain ⟨u, h3, h4⟩ := hr.get h2
    exact ⟨Nat.lt_of_lt_of_le (List.getElem?_eq_some_iff.1 h2).1 hl, by unfold argf; rw [h3]; exact h4⟩)⟩
  simp only [Wk, Exit.then] at this
  exact this
end
end Go.Proofs.YtfgbhfphjmmiaaaGreatDoor.Kx
end
section
/- Trees: an element is laid open, and shut; a tree becomes a slice of data. -/
namespace Go.Proofs.YtfgbhfphjmmiaaaGreatDoor.Kx
open Go Go.RowKit
section
variable {S : Hand} {wl w : World} {M0 M : Mem} {ρ : Rho} {ob : Nat → Option IObj}
end
/-- The blocks bs are held for good from here on. -/
def Held (w : World) (M M' : Mem) (bs : List Nat) : Prop := M.le M' ∧ (∀ b, b ∉ bs → M' b = M b) ∧ ∀ b, b ∈ bs → ∃ c e z, M' b = some c ∧ w.heap[b]? = some (.cells c e z)
theorem Held.nil {w : World} {M : Mem} : Held w M M [] := ⟨M.le_refl, fun _ _ => rfl, fun _ h => by cases h⟩
theorem Held.app {w : World} {M M1 M2 : Mem} {a b : List Nat} (h : Held w M M1 a) (k : Held w M1 M2 b) : Held w M M2 (a ++ b) := by
  refine ⟨Mem.le_trans h.1 k.1, fun y hy => ?_, fun y hy => ?_⟩
  · rw [k.2.1 y (fun h' => hy (List.mem_append_right _ h')), h.2.1 y (fun h' => hy (List.mem_append_left _ h'))]
  · by_cases hb : y ∈ b
    · exact k.2.2 y hb
    · rcases List.mem_append.1 hy with h' | h'
      · obtain ⟨c, e, z, h1, h2⟩ := h.2.2 y h'
        exact ⟨c, e, z, by rw [k.2.1 y hb]; exact h1, h2⟩
      · exact absurd h' hb
mutual
theorem OwnD.hold {w : World} : ∀ (s : Sh) {M : Mem} {d : Dat} {v : Value} {bs : List Nat}, OwnD w M s d v bs → bs.Nodup → (∀ b, b ∈ bs → M b = none) → ∃ M', Held w M M' bs ∧ RelD M' d v
  | .z, M, d, v, bs, h, _, _ => by
    simp only [OwnD] at h
    obtain ⟨rfl, h⟩ := h
    exact ⟨M, Held.nil, h⟩
  | .o e sz cs, M, d, v, bs, h, hnd, hM => by
    simp only [OwnD] at h
    obtain ⟨es, a, cap, rfl, rfl, h3, h4, h5⟩ := h
    rcases h5 with ⟨h0, rfl⟩ | ⟨h0, b, base, bs', pre, us, sp, h6, rfl, h8, h9, h10, h11⟩
    · have : es = [] := List.length_eq_zero_iff.1 (by omega)
      subst this
      exact ⟨M, Held.nil, relD_nil⟩
    · have hnd := List.nodup_cons.1 hnd
      have hM' : ∀ y, y ∈ bs' → M y = none := fun y hy => hM y (List.mem_cons_of_mem _ hy)
      have key : ∀ (es : List (List Dat)) (us : List Value) (bs' : List Nat) (j : Nat) (M : Mem), OwnEs (fun _ x u b => x.length = sz ∧ OwnCs w M cs x u b) sz j es us bs' → bs'.Nodup → (∀ y, y ∈ bs' → M y = none) → ∃ M', Held w M M' bs' ∧ rL (rDs sz) M' us es := by
        intro es
        induction es with
        | nil => intro us bs' j M h _ _; obtain ⟨rfl, rfl⟩ := h; exact ⟨M, Held.nil, rL_nil⟩
        | cons x es ih =>
          rintro us bs' j M ⟨u, us', b1, b2, rfl, rfl, e3, ⟨e4, e5⟩, e6⟩ hnd hM
          obtain ⟨n1, n2, n3⟩ := List.nodup_append.1 hnd
          obtain ⟨M1, g1, g2⟩ := OwnCs.hold cs e5 n1 (fun y hy => hM y (List.mem_append_left _ hy))
          have e6' : OwnEs (fun _ x u b => x.length = sz ∧ OwnCs w M1 cs x u b) sz (j + 1) es us' b2 := e6.mono (fun _ x u b _ h => ⟨h.1, h.2.mono g1.1 _ (fun _ _ => rfl)⟩)
          obtain ⟨M2, g3, g4⟩ := ih us' b2 (j + 1) M1 e6' n2 (fun y hy => by rw [g1.2.1 y (fun h' => n3 y h' y hy rfl)]; exact hM y (List.mem_append_right _ hy))
          exact ⟨M2, g1.app g3, u, us', rfl, ⟨e4, g2.mono g3.1⟩, g4⟩
      obtain ⟨M1, g1, g2⟩ := key es us bs' 0 M h11 hnd.2 hM'
      have hMb : M1 b = none := by rw [g1.2.1 b hnd.1]; exact hM b List.mem_cons_self
      let M2 : Mem := fun y => if y = b then some (pre ++ (us ++ sp)).toArray else M1 y
      have hM2b : M2 b = some (pre ++ (us ++ sp)).toArray := if_pos rfl
      have hle : M1.le M2 := fun y c hc => by
        have hne : y ≠ b := fun e => by rw [e, hMb] at hc; cases hc
        exact ⟨c, by simp only [M2, if_neg hne]; exact hc, Pre.refl c⟩
      have hh : Held w M1 M2 [b] := ⟨hle, fun y hy => by simp only [M2]; rw [if_neg (by simpa using hy)], fun y hy => by
        have : y = b := by simpa using hy
        subst this; exact ⟨_, _, _, hM2b, h8⟩⟩
      refine ⟨M2, ?_, relD_of (off := 0) hM2b (Pre.refl _) h9 (rL_mono hle g2) h3 (fun _ => by rw [h6, Nat.add_zero]) (fun j _ => by rw [Nat.zero_add])⟩
      have := g1.app hh
      refine ⟨this.1, fun y hy => this.2.1 y (fun h' => hy (by simp at h' ⊢; exact h'.symm)), fun y hy => this.2.2 y (by simp at hy ⊢; exact hy.symm)⟩
theorem OwnCs.hold {w : World} : ∀ (cs : List Sh) {M : Mem} {ds : List Dat} {us : List Value} {bs : List Nat}, OwnCs w M cs ds us bs → bs.Nodup → (∀ b, b ∈ bs → M b = none) → ∃ M', Held w M M' bs ∧ RelDs M' ds us
  | [], M, ds, us, bs, h, _, _ => by
    simp only [OwnCs] at h
    obtain ⟨rfl, rfl, rfl⟩ := h
    exact ⟨M, Held.nil, rfl⟩
  | s :: cs, M, ds, us, bs, h, hnd, hM => by
    simp only [OwnCs] at h
    obtain ⟨d, ds', u, us', b1, b2, rfl, rfl, rfl, h4, h5⟩ := h
    obtain ⟨n1, n2, n3⟩ := List.nodup_append.1 hnd
    obtain ⟨M1, g1, g2⟩ := OwnD.hold s h4 n1 (fun y hy => hM y (List.mem_append_left _ hy))
    obtain ⟨M2, g3, g4⟩ := OwnCs.hold cs (h5.mono g1.1 _ (fun _ _ => rfl)) n2 (fun y hy => by rw [g1.2.1 y (fun h' => n3 y h' y hy rfl)]; exact hM y (List.mem_append_right _ hy))
    exact ⟨M2, g1.app g3, u, us', rfl, g2.mono g3.1, g4⟩
end
theorem OwnEs.hold {w : World} {ρ : Rho} {sz : Nat} {cs : List Sh} : ∀ {es : List (List Dat)} {us : List Value} {bs : List Nat} {j : Nat} {M : Mem}, OwnEs (OwnEl w M ρ sz cs none) sz j es us bs → bs.Nodup → (∀ y, y ∈ bs → M y = none) → ∃ M', Held w M M' bs ∧ rL (rDs sz) M' us es
  | [], us, bs, j, M, h, _, _ => by obtain ⟨rfl, rfl⟩ := h; exact ⟨M, Held.nil, rL_nil⟩
  | x :: es, us, bs, j, M, ⟨u, us', b1, b2, e1, e2, e3, ⟨e4, e5⟩, e6⟩, hnd, hM => by
    subst e1 e2
    obtain ⟨n1, n2, n3⟩ := List.nodup_append.1 hnd
    obtain ⟨M1, g1, g2⟩ := OwnCs.hold cs e5 n1 (fun y hy => hM y (List.mem_append_left _ hy))
    have e6' : OwnEs (OwnEl w M1 ρ sz cs none) sz (j + 1) es us' b2 := e6.mono (fun _ x u b _ h => ⟨h.1, h.2.mono g1.1 _ (fun _ _ => rfl)⟩)
    obtain ⟨M2, g3, g4⟩ := OwnEs.hold e6' n2 (fun y hy => by rw [g1.2.1 y (fun h' => n3 y h' y hy rfl)]; exact hM y (List.mem_append_right _ hy))
    exact ⟨M2, g1.app g3, u, us', rfl, ⟨e4, g2.mono g3.1⟩, g4⟩
section
variable {rr : Option Nat} {P : Program} {N : Nat} {dfr : List Deferred} {fin : Fin} {c : Cfg}
/-- A tree becomes a slice of data. -/
theorem J_flat {g sz : Nat} {e : TypeId} {shs : List Sh} {es : List (List Dat)} (r : Nat) (hr : obGet c.ob r = some (.tree g e sz shs es none)) (hk : J rr P N dfr fin ⟨c.sl, obSet c.ob r (.buf g e sz es), c.td⟩) : J rr P N dfr fin c := by
  refine ⟨hk.1, fun S wl M0 hH M ρ f w ha => ?_⟩
  have h := ha.ow
  obtain ⟨i, hi, hok⟩ := h.own r _ hr
  obtain ⟨a1, a2, a3, a4, a5, a6, a7, a8, a9, a10⟩ := hok
  obtain ⟨M', hM', hbuf⟩ : ∃ M', Held w M M' i.subs ∧ (0 < i.tot → MineB S wl M i g ∧ ∃ pre us sp, w.heap[i.b]? = some (.cells (pre ++ (us ++ sp)).toArray e (0, 0)) ∧ pre.length = i.base * sz ∧ (us ++ sp).length = i.tot * sz ∧ rL (rDs sz) M' us es) := by
    by_cases ht : 0 < i.tot
    · obtain ⟨b1, b2, pre, us, sp, b3, b4, b5, b6⟩ := a10 ht
      obtain ⟨M', g1, g2⟩ := b6.hold (List.nodup_cons.1 a8).2 (fun y hy => (a9 y hy).2.1)
      exact ⟨M', g1, fun _ => ⟨b1, pre, us, sp, b3, b4, b5, g2⟩⟩
    · have := a7 (by omega)
      exact ⟨M, by rw [this]; exact Held.nil, fun h => absurd h ht⟩
  have hib : i.b ∉ i.subs := (List.nodup_cons.1 a8).1
  let i' : Inf := { i with subs := [] }
  have hR : Rle M M' ρ (updO ρ r i') := ⟨hM'.1, fun q j hj => by
    by_cases e : q = r
    · subst e; rw [hi] at hj; cases hj; exact ⟨i', updO_same _ _ _, Nat.le_refl _, fun _ => rfl, fun h => by rw [a1] at h; cases h⟩
    · exact ⟨j, by rw [updO_ne _ _ e]; exact hj, Ile.refl j⟩⟩
  have hsub : ∀ b, blk i' (.buf g e sz es) b → blk i (.tree g e sz shs es none) b := fun b hb => .inl (show live i (.buf g e sz es) ∧ i.b = b from blk_flat (i := i') hb rfl)
  have ow : Ow S wl M0 M' (updO ρ r i') (updO (obGet c.ob) r (.buf g e sz es)) w := by
    refine ⟨h.size, h.os, h.tape, h.output, h.old, fun b cc hb => ?_, Mem.le_trans h.le hM'.1, h.gl.mono hM'.1, fun b cc hb hlt => ?_, fun q y hy => ?_, fun q j hj => ?_, fun q q' y y' j j' b h1 h2 h3 h4 l1 l2 => ?_, fun q j hb hj => ?_⟩
    · by_cases hm : b ∈ i.subs
      · obtain ⟨c1, e1, z1, q1, q2⟩ := hM'.2.2 b hm
        rw [q1] at hb; cases hb
        exact ⟨_, _, _, q2, Pre.refl _⟩
      · rw [hM'.2.1 b hm] at hb; exact h.sits b cc hb
    · by_cases hm : b ∈ i.subs
      · rcases (a9 b hm).1 with hs | hs
        · exact .inr hs
        · omega
      · rw [hM'.2.1 b hm] at hb; exact h.new b cc hb hlt
    · by_cases e : q = r
      · subst e
        rw [updO_same] at hy; cases hy
        refine ⟨i', updO_same _ _ _, a1, a2, a3, a4, a5, a6, fun hp => ?_⟩
        obtain ⟨m, rest⟩ := hbuf hp
        exact ⟨⟨m.1, fun hg => by rw [show i'.b = i.b from rfl, hM'.2.1 _ hib]; exact m.2.1 hg, fun cc hc => m.2.2 cc (by rw [← hM'.2.1 _ hib]; exact hc)⟩, rest⟩
      · rw [updO_ne _ _ e] at hy
        obtain ⟨j, h1, h2⟩ := h.own q y hy
        exact ⟨j, by rw [updO_ne _ _ e]; exact h1, h2.mono hR (fun b hb => hM'.2.1 b (fun hm => e (h.inj q r y _ j i b hy hr h1 hi hb (.inr ⟨rfl, hm⟩)))) (fun _ _ => rfl)⟩
    · by_cases e : q = r
      · subst e; exact ⟨_, updO_same _ _ _⟩
      · rw [updO_ne _ _ e] at hj ⊢; exact h.dom q j hj
    · have key : ∀ q y j, updO (obGet c.ob) r (.buf g e sz es) q = some y → updO ρ r i' q = some j → blk j y b → ∃ y0 j0, obGet c.ob q = some y0 ∧ ρ q = some j0 ∧ blk j0 y0 b := fun q y j hy hj hl => by
        by_cases e : q = r
        · subst e; rw [updO_same] at hy hj; cases hy; cases hj; exact ⟨_, i, hr, hi, hsub b hl⟩
        · rw [updO_ne _ _ e] at hy hj; exact ⟨y, j, hy, hj, hl⟩
      obtain ⟨y0, j0, k1, k2, k3⟩ := key q y j h1 h3 l1
      obtain ⟨y1, j1, k4, k5, k6⟩ := key q' y' j' h2 h4 l2
      exact h.inj q q' y0 y1 j0 j1 b k1 k4 k2 k5 k3 k6
    · obtain ⟨k, h1, h2⟩ := h.held q j hb hj
      obtain ⟨k', h3, h4⟩ := hR.ext q k h1
      exact ⟨k', h3, h2.trans h4⟩
  exact hk.2 S wl M0 hH M' _ f w ⟨by dsimp only; rw [obGet_set]; exact ow, ha.ok, fun t ht => RelV.mono hR _ (ha.sl t ht)⟩
/-- A slice of one's own is only read from here on. -/
theorem J_frzO {g e sz : Nat} {es : List (List Dat)} (r : Nat) (hr : obGet c.ob r = some (.buf g e sz es)) (hk : J rr P N dfr fin ⟨c.sl, obSet c.ob r (.fzs g sz es), c.td⟩) : J rr P N dfr fin c := by
  refine ⟨hk.1, fun S wl M0 hH M ρ f w ha => ?_⟩
  obtain ⟨M', h1, h2⟩ := ha.ow.freeze hr
  exact hk.2 S wl M0 hH M' ρ f w ⟨by dsimp only; rw [obGet_set]; exact h2, ha.ok, fun t ht => RelV.mono h1 _ (ha.sl t ht)⟩
end
/-- A pointer to what is only read, as a datum. -/
theorem Re.pt (cs : List Dat) : Re (.rp cs 0) (.d (.pt cs)) := fun M ρ u h => by
  obtain ⟨b, o, us, rfl, hc, hr⟩ := relV_rp h
  exact relV_d' (.pt cs b o us hc hr.len (fun j c u h1 h2 => hr.get h1 h2))
end Go.Proofs.YtfgbhfphjmmiaaaGreatDoor.Kx
end
section
/- Arguments, as they came in: their data. -/
namespace Go.Proofs.YtfgbhfphjmmiaaaGreatDoor.Kx
open Go Go.RowKit
/-- All that lies in memory. -/
def HeapM (W : World) : Mem := fun b => match W.heap[b]? with | some (.cells c _ _) => some c | _ => none
theorem HeapM_sits (W : World) : Sits (HeapM W) W := fun b c h => by
  unfold HeapM at h
  split at h
  · rename_i c' e z hh; cases h; exact ⟨_, e, z, hh, Pre.refl _⟩
  · cases h
theorem mapM_get {α β : Type} {f : α → Option β} : ∀ {l : List α} {us : List β}, l.mapM f = some us → us.length = l.length ∧ ∀ (i : Nat) (x : α), l[i]? = some x → ∃ y, us[i]? = some y ∧ f x = some y
  | [], us, h => by simp at h; subst h; exact ⟨rfl, fun i x h => by simp at h⟩
  | a :: l, us, h => by
    rw [List.mapM_cons] at h
    simp only [Option.bind_eq_bind, Option.bind_eq_some_iff, Option.pure_def, Option.some.injEq] at h
    obtain ⟨y, hy, ys, hys, rfl⟩ := h
    obtain ⟨h1, h2⟩ := mapM_get hys
    refine ⟨by simp [h1], fun i x hi => ?_⟩
    cases i with
    | zero => simp at hi; subst hi; exact ⟨y, by simp, hy⟩
    | succ i => simpa using h2 i x (by simpa using hi)
/-! ### The shape of data -/
section
variable {H : Type} {enc : TypeId × Value → H} {P : Program} {W : World}
section
variable {P : Program} {n : Nat} {t : TypeId} {ds : List Dat}
end
end
end Go.Proofs.YtfgbhfphjmmiaaaGreatDoor.Kx
end
section
/- Rows that list package-level variables: what their condition gives; the lift. -/
namespace Go.Proofs.YtfgbhfphjmmiaaaGreatDoor.Kx
open Go Go.RowKit
section
variable {H : Type} {enc : TypeId × Value → H} {P : Program} {W : World} {M : Mem} {b : Nat} {sp : Nat → Bool} {held : Bool}
theorem cells_of_heap {g : Nat} {cs : Array Value} {t : TypeId} {tag : Nat × Nat} (h : W.heap[g]? = some (.cells cs t tag)) : Cells (HeapM W) g 0 cs.toList :=
  ⟨cs, by unfold HeapM; rw [h], fun j hj => by simp⟩
theorem heap_of_var {n : String} {g : Nat} {cs : Array Value} (hg : P.globalNamed n = some g) (h : W.var? P n = some cs) : ∃ e z, W.heap[g]? = some (.cells cs e z) := by
  simp only [World.var?, hg, Option.bind_some] at h
  split at h
  · rename_i e
    cases h
    exact ⟨_, _, e⟩
  · cases h
theorem cells_of_var {n : String} {g : Nat} {cs : Array Value} (hg : P.globalNamed n = some g) (h : W.var? P n = some cs) : Cells (HeapM W) g 0 cs.toList := by
  simp only [World.var?, hg, Option.bind_some] at h
  split at h
  · rename_i e
    cases h
    exact cells_of_heap e
  · cases h
def dw : DataW H → Option Dat
  | .lit (.int k z) => some (.int k z)
  | .lit (.string s) => some (.str s)
  | .lit (.bool x) => some (.bool x)
  | .iface _ _ => some (.ife true)
  | _ => none
def okE (P : Program) (t : TypeId) : Bool :=
  match P.underlying t with
  | some .bool => true
  | some (.int _) => true
  | some .string => true
  | some (.interface _) => true
  | _ => false
theorem el1 {t : TypeId} {fuel : Nat} {cs : List Value} {d : DataW H} {q : List MemPlace} {x : Dat} (hk : okE P t = true) (h : DataW.trod enc P W b sp held fuel t cs = some (d, q)) (hd : dw d = some x) : ∃ v, cs = [v] ∧ RelD M x v := by
  cases fuel with
  | zero => simp [DataW.trod] at h
  | succ n =>
    unfold okE at hk
    split at hk
    · rename_i hu
      unfold DataW.trod at h
      rw [hu] at h
      split at h <;> first | (simp_all; done) | skip
      rename_i c _ _
      simp only [Option.some.injEq, Prod.mk.injEq] at h
      obtain ⟨rfl, _⟩ := h
      cases hd
      exact ⟨_, rfl, .bool _⟩
    · rename_i hu
      obtain ⟨z, rfl, hx, _⟩ := DataW.trod_int hu h
      cases hx
      cases hd
      exact ⟨_, rfl, .int _ _⟩
    · rename_i hu
      obtain ⟨s, rfl, hx, _⟩ := DataW.trod_string hu h
      cases hx
      cases hd
      refine ⟨_, rfl, ?_⟩
      have := RelD.str (M := M) s.data.toList
      simpa [strv] using this
    · rename_i hu
      unfold DataW.trod at h
      rw [hu] at h
      split at h <;> first | (simp_all; done) | skip
      · cases h; cases hd
      · split at h
        · cases h; cases hd
        · rename_i nm _
          simp only [Option.map_eq_some_iff, Prod.mk.injEq] at h
          obtain ⟨_, _, rfl, _⟩ := h
          cases hd
          exact ⟨_, rfl, .ifc _ _⟩
        · cases h
    · cases hk
theorem arr1 {t e : TypeId} {k fuel : Nat} {cs : List Value} {ds : List (DataW H)} {q : List MemPlace} {xs : List Dat} (ht : P.underlying t = some (.array k e)) (hk : okE P e = true) (hc : P.cellsOf e = 1) (hct : P.cellsOf t = k)
    (h : DataW.trod enc P W b sp held fuel t cs = some (.agg ds, q)) (hd : ds.mapM dw = some xs) : RelDs M xs cs := by
  obtain ⟨ys, m, _, ex, hl, hn, hel⟩ := DataW.trod_array ht h
  have ed : ds = ys.map (·.1) := DataW.agg.inj (Prod.mk.inj ex).1
  have hm := mapM_get hd
  refine RelDs.of_get (by rw [hl, hct, hm.1, ed, List.length_map, hn]) (fun j c u h1 h2 => ?_)
  have hj : j < k := by
    have := (List.getElem?_eq_some_iff.mp h2).1
    omega
  have hy : ys[j]? = some ys[j] := List.getElem?_eq_getElem (by omega)
  have h3 := hel j hj
  rw [hy, hc, Nat.mul_one] at h3
  have hdj : ds[j]? = some (ys[j]).1 := by rw [ed, List.getElem?_map, hy]; rfl
  obtain ⟨y, e1, e2⟩ := hm.2 j _ hdj
  obtain rfl : y = c := Option.some.inj (e1.symm.trans h1)
  obtain ⟨v, e3, e4⟩ := el1 (M := M) hk (show DataW.trod enc P W b sp held m e _ = some ((ys[j]).1, (ys[j]).2) from h3) e2
  have e5 : cs[j]? = some v := by
    have : ((cs.drop j).take 1)[0]? = some v := by rw [e3]; rfl
    simpa using this
  obtain rfl : v = u := Option.some.inj (e5.symm.trans h2)
  exact e4
end
section
variable {P : Program} {W : World} {laid : List (String × DataW Unit)}
theorem laidVars_get : ∀ {laid : List (String × DataW Unit)} {ps : List MemPlace} {i : Nat} {n : String} {d : DataW Unit}, DataW.LaidVars P W laid ps → laid[i]? = some (n, d) →
    ∃ g t cs fuel p, P.globalNamed n = some g ∧ (P.globals[g]?).map (·.type) = some t ∧ W.var? P n = some cs ∧ DataW.trod (fun _ => ()) P W 0 (fun _ => true) false fuel t cs.toList = some (d, p)
  | [], _, _, _, _, _, h => by simp at h
  | (m, e) :: l, ps, 0, n, d, h, hi => by
    obtain ⟨g, t, cs, fuel, p, q, h1, h2, h3, h4, _⟩ := h
    simp only [List.getElem?_cons_zero, Option.some.injEq, Prod.mk.injEq] at hi
    obtain ⟨rfl, rfl⟩ := hi
    exact ⟨g, t, cs, fuel, p, h1, h2, h3, h4⟩
  | (m, e) :: l, ps, i + 1, n, d, h, hi => by
    obtain ⟨_, _, _, _, _, q, _, _, _, _, h5, _⟩ := h
    exact laidVars_get h5 (by simpa using hi)
theorem gl_arr (hl : laidMet P laid W) (i : Nat) {n : String} {ds : List (DataW Unit)} {g : Nat} {t e : TypeId} {k : Nat} {xs : List Dat} (hm : laid[i]? = some (n, .agg ds)) (hg : P.globalNamed n = some g) (htt : (P.globals[g]?).map (·.type) = some t)
    (ht : P.underlying t = some (.array k e)) (hk : okE P e = true) (hc : P.cellsOf e = 1) (hct : P.cellsOf t = k) (hd : ds.mapM dw = some xs) : (∃ us, Cells (HeapM W) g 0 us ∧ RelDs (HeapM W) xs us) ∧ ∃ c e z, W.heap[g]? = some (.cells c e z) ∧ c.size = (xs : List Dat).length := by
  obtain ⟨ps, h, _⟩ := hl
  obtain ⟨g', t', cs, fuel, p, h1, h2, h3, h4⟩ := laidVars_get h hm
  obtain rfl := Option.some.inj (hg.symm.trans h1)
  obtain rfl := Option.some.inj (htt.symm.trans h2)
  have hr := arr1 (M := HeapM W) ht hk hc hct h4 hd
  obtain ⟨e', z', hh⟩ := heap_of_var hg h3
  exact ⟨⟨_, cells_of_var hg h3, hr⟩, _, _, _, hh, by rw [← hr.len, Array.length_toList]⟩
theorem gl_one (hl : laidMet P laid W) (i : Nat) {n : String} {d : DataW Unit} {g : Nat} {t : TypeId} {x : Dat} (hm : laid[i]? = some (n, d)) (hg : P.globalNamed n = some g) (htt : (P.globals[g]?).map (·.type) = some t)
    (hk : okE P t = true) (hd : dw d = some x) : (∃ us, Cells (HeapM W) g 0 us ∧ RelDs (HeapM W) [x] us) ∧ ∃ c e z, W.heap[g]? = some (.cells c e z) ∧ c.size = ([x] : List Dat).length := by
  obtain ⟨ps, h, _⟩ := hl
  obtain ⟨g', t', cs, fuel, p, h1, h2, h3, h4⟩ := laidVars_get h hm
  obtain rfl := Option.some.inj (hg.symm.trans h1)
  obtain rfl := Option.some.inj (htt.symm.trans h2)
  obtain ⟨v, e, r⟩ := el1 (M := HeapM W) hk h4 hd
  obtain ⟨e', z', hh⟩ := heap_of_var hg h3
  exact ⟨⟨_, cells_of_var hg h3, v, [], e, r, rfl⟩, _, _, _, hh, by rw [← Array.length_toList, e]; rfl⟩
theorem gl_x (hs : W.ShapedOpen P) {g : Nat} {zero : Array Value} {t : TypeId} {k : IntKind} (hlt : g < P.globals.size) (hz : ((begin P (fun _ _ => 0) default).world.heap[g]?).bind Obj.row? = some (zero, t))
    (h1 : zero.size = 1) (hb : P.buildable t = true) (hu : P.underlying t = some (.int k)) (ht : P.cellTypes P.depth t = some [t]) : ∃ m, Cells (HeapM W) g 0 [.int k m] := by
  obtain ⟨cs, e1, e2, e3⟩ := hs.1 g zero t hlt hz
  obtain ⟨ts, e4, _, e5⟩ := e3 hb
  obtain rfl := Option.some.inj (ht.symm.trans e4)
  have e6 : cs[0]? = some cs[0] := Array.getElem?_eq_getElem (by omega)
  obtain ⟨u, e7, e8⟩ := e5 0 _ e6
  simp at e7
  subst e7
  unfold Cell.ok at e8
  rw [hu] at e8
  generalize hv : cs[0]'(by omega) = v at e8 e6
  cases v <;> simp only at e8
  obtain ⟨rfl, _⟩ := e8
  rename_i m _
  refine ⟨m, cs, by unfold HeapM; rw [e1], fun j hj => ?_⟩
  obtain rfl : j = 0 := by simp at hj; omega
  simpa using e6
def allG (Q : Nat → List Dat → Prop) : List (Nat × List Dat) → Prop
  | [] => True
  | x :: l => Q x.1 x.2 ∧ allG Q l
theorem glIn_all {Q : Nat → List Dat → Prop} : ∀ {l : List (Nat × List Dat)} {n : Nat} {cs : List Dat}, allG Q l → glIn l n = some cs → Q n cs
  | [], _, _, _, h => by cases h
  | (m, x) :: l, n, cs, hq, h => by
    unfold glIn at h
    cases hb : Nat.beq n m with
    | true =>
      rw [hb] at h
      cases h
      obtain rfl := Nat.eq_of_beq_eq_true hb
      exact hq.1
    | false =>
      rw [hb] at h
      exact glIn_all hq.2 h
end
/-- The lift, where the contract wants to know that the variables are of their types. -/
theorem returns_of_change_open {H : Type} {enc : TypeId × Value → H} {a : Assume} {C : Checked} {os : Os} {f : FuncId} {fn : Func} {s : ChangeSpec} {conds : List PathCond} {apart fresh handsOn again : Bool} {X : World → Array Value → Prop}
    (hX : ∀ (w w' : World) (args : Array Value), w.heap = w'.heap → X w args → X w' args)
    (own : ownKnob C.prog.godebug = none) (started : os.Started) (noInit : C.prog.inits.idxOf? f = none) (hfn : C.prog.funcs[f]? = some fn)
    (witness : ∃ (w : World) (tape : Tape) (i : Input), w.os = os ∧ (w.forCall tape i).Shaped C.prog ∧ i.vars = [] ∧ Input.okWide C.prog (w.forCall tape i) .any w.heap.size f i ∧
      ((s.pre enc C.prog fn conds apart (w.forCall tape i).memory i.args ∧ X (w.forCall tape i).memory i.args) ∧ sizedMet enc C.prog fn (OpenSpec.ofChange s) apart (w.forCall tape i).memory i.args) ∧ a.holds C.prog (lone (Frame.enter C.prog f i.args .normal) [] (w.forCall tape i)))
    (contract : ∀ (W : World) (base : Nat) (args : Array Value) (ds gs : List (DataW H)) (before : List MemPlace),
      (∀ (j : Nat) t v, fn.params[j]? = some t → args[j]? = some v → Value.okWide C.prog W .any base t v) →
      DataW.Whole enc C.prog fn.params.toList s.vars apart W args.toList ds gs before →
      conds.all (PathCond.test C.prog ⟨fn.params.toList, ds, s.plain.varTypes C.prog, gs⟩) = true →
      X W args → W.ShapedOpen C.prog →
      Calls C.prog f args W fun e W' => ∃ v, e = .returned v ∧ s.post enc C.prog fn apart fresh handsOn again W args v W') :
    ReturnsInHanded a C os f .any (fun w args => (s.pre enc C.prog fn conds apart w args ∧ X w args) ∧ sizedMet enc C.prog fn (OpenSpec.ofChange s) apart w args) (s.post enc C.prog fn apart fresh handsOn again) := by
  refine returnsInHanded_of_calls own started noInit witness ?_
  intro w tape i _ hsh _ hok hpre hholds
  obtain ⟨_, _, _, fn', hfn', _, _, _, _, hval⟩ := hok
  have e : fn' = fn := Option.some.inj (hfn'.symm.trans hfn)
  subst e
  obtain ⟨⟨⟨ds, gs, before, hw, hc⟩, hx⟩, hz⟩ := hpre
  have hw' := DataW.Whole.of_heap (w' := w.forCall tape i) (by rfl) hw
  refine (contract (w.forCall tape i) w.heap.size i.args ds gs before hval hw' hc (hX _ _ _ (by rfl) hx) hsh).mono fun e W' ⟨v, he, hp⟩ => ?_
  subst he
  exact ChangeSpec.post_blind hp
end Go.Proofs.YtfgbhfphjmmiaaaGreatDoor.Kx
end
