/- Functions that are ranged over: the iterator's side. -/
import Derived.Test.YtilfjfpemjfalaaGreatDoorRta
import Derived.RangeFuncRecord
namespace Go.Proofs.YtilfjfpemjfalaaGreatDoor.Kx
open Go Go.RowKit

/-- A call of yield. -/
def Yields (P : Program) (l : Nat) (vals : List Value) (w : World) (R : Ending → World → Prop) : Prop :=
  ∃ fn tmps assign body, (Instr.yield l vals.toArray).run P w = .ok (.round l fn tmps assign body) w ∧ RoundIn (WF none) 0 P l fn tmps assign body w R
/-- What the one who ranges promises; ys: what is still to come. -/
structure RoundsOk (P : Program) (l : Nat) (Inv : List (List V) → (Nat → Prop) → Mem → World → Prop) (Stop Pan : (Nat → Prop) → Mem → World → Prop) : Prop where
  inv : ∀ ys T M w T' M' w', Inv ys T M w → ItStep T M w T' M' w' → Inv ys T' M' w'
  stop : ∀ T M w T' M' w', Stop T M w → ItStep T M w T' M' w' → Stop T' M' w'
  round : ∀ y ys T M w vals, Inv (y :: ys) T M w → Sits M w → RelVs M noR y vals → (∀ b, T b → b < w.heap.size) → Yields P l vals w (fun e w' => ∃ M', M.le M' ∧ Sits M' w' ∧ Sz w' ∧ w.heap.size ≤ w'.heap.size ∧ (∀ k, T k → w'.heap[k]? = w.heap[k]? ∧ M' k = M k) ∧
    ((e = .returned (.bool true) ∧ Inv ys T M' w') ∨ (e = .returned (.bool false) ∧ Stop T M' w') ∨ (panE e ∧ Pan T M' w')))
/-- How an iterator ends; fl: by a panic of its own, behind all that it yields. -/
def endI (Inv : List (List V) → (Nat → Prop) → Mem → World → Prop) (Stop Pan : (Nat → Prop) → Mem → World → Prop) (fl : Bool) : Ending → World → Prop := fun e w' =>
  ∃ T' M', (∃ v, e = .returned v ∧ ((fl = false ∧ Inv [] T' M' w') ∨ Stop T' M' w')) ∨ (panE e ∧ ((fl = true ∧ Inv [] T' M' w') ∨ Pan T' M' w'))

section
variable {S : Hand} {wl w w' : World} {M0 M M' : Mem} {ρ : Rho} {ob : Nat → Option IObj}
/-- Behind a round: what is our own stands as it stood; the base is laid anew. -/
theorem Ow.base (h : Ow S wl M0 M ρ ob w) {r0 : Rho} (hle : M.le M') (hs : Sits M' w') (hsz : w.heap.size ≤ w'.heap.size) (hk : ∀ k, TA ρ ob k → w'.heap[k]? = w.heap[k]? ∧ M' k = M k)
    (hfr : ∀ q i, ob q = some (.frn q) → ρ q = some i → r0 q = some i) (hfq : ∀ q x, ob q = some (.frn x) → x = q) (hh : ∀ r i, Nat.ble 2000 r = true → r0 r = some i → ρ r = some i) (hz : Sz w') : Ow ⟨TA ρ ob, r0⟩ w' M' M' ρ ob w' := by
  have hr : Rle M M' ρ ρ := ⟨hle, fun _ j hj => ⟨j, hj, Ile.refl j⟩⟩
  refine ⟨Nat.le_refl _, rfl, rfl, rfl, fun _ _ _ => rfl, hs, M'.le_refl, ⟨h.gl.ok.mono hle, fun _ _ e hb => h.offm e (TA_mine h hb).1, hz⟩, fun _ _ hb _ => .inl hb, fun r o ho => ?_, h.dom, h.inj, fun r i hb hi => ⟨i, hh r i hb hi, Ile.refl i⟩⟩
  obtain ⟨i, hi, hok⟩ := h.own r o ho
  refine ⟨i, hi, ?_⟩
  have hT : live i o → TA ρ ob i.b := fun hl => ⟨r, i, o, hi, ho, hl, rfl⟩
  have hok' := hok.mono hr (fun hl => (hk _ (hT hl)).2) (fun hl => (hk _ (hT hl)).1)
  cases o with
  | box te cs =>
    obtain ⟨h0, h1, rest⟩ := hok'
    exact ⟨h0, ⟨.inl (hT trivial), h1.2⟩, rest⟩
  | buf g e sz es =>
    obtain ⟨h0, hg, hss, hn, ht, hx, h1⟩ := hok'
    refine ⟨h0, hg, hss, hn, ht, hx, fun hp => ?_⟩
    obtain ⟨h1, rest⟩ := h1 hp
    exact ⟨⟨.inl (hT hp), h1.2⟩, rest⟩
  | fzs g sz es => exact hok'
  | fzb cs => exact hok'
  | mapo kk ag sz es =>
    obtain ⟨h0, h1, rest⟩ := hok'
    exact ⟨h0, ⟨.inl (hT trivial), h1.2⟩, rest⟩
  | raw b x =>
    obtain ⟨h0, e, h1, rest⟩ := hok'
    exact ⟨h0, e, ⟨.inl (hT trivial), h1.2⟩, rest⟩
  | frn q =>
    obtain rfl := hfq r q ho
    exact hfr _ i ho hi
end

/-- The iterator's aim. st: what is still to come; none: it was told to stop. -/
def finI (P : Program) (fn : Func) (l : Nat) (Inv : List (List V) → (Nat → Prop) → Mem → World → Prop) (Stop Pan : (Nat → Prop) → Mem → World → Prop) (fl : Bool) (st : Option (List (List V))) : Fin where
  H := fun S wl M0 => (match st with | some ys => Inv ys S.s M0 wl | none => Stop S.s M0 wl) ∧ ∃ i, S.r0 2000 = some i ∧ i.b = l
  post := fun _ _ _ e a w => bodyPost P fn (endI Inv Stop Pan fl) e a w
def frnOk : List (Nat × IObj) → Bool
  | [] => true
  | (r, o) :: l => match o with | .frn x => (match Nat.beq x r with | true => frnOk l | false => false) | _ => frnOk l
theorem frnOk_spec : ∀ {l : List (Nat × IObj)}, frnOk l = true → ∀ q x, obGet l q = some (.frn x) → x = q
  | [], _, q, x, h => by cases h
  | (r, o) :: l, h, q, x, hx => by
    unfold frnOk at h
    simp only [obGet] at hx
    split at hx
    · rename_i hb
      obtain rfl := Nat.eq_of_beq_eq_true hb
      cases hx
      simp only at h
      split at h
      · rename_i hb; exact Nat.eq_of_beq_eq_true hb
      · cases h
    · split at h
      · split at h
        · exact frnOk_spec h q x hx
        · cases h
      · exact frnOk_spec h q x hx
/-- A call of yield: what is handed over. -/
def yieldOf (N : Nat) (c : Cfg) : Option (List V × Wr) := match c.td with
  | .ops all (o :: _) :: _ => match gd N c.sl all o, o.op with
    | some true, .call cl => match cl.callee with
      | .value f => match evalV N c.sl f, obGet c.ob 2000, frnOk c.ob with
        | .yl 2000, some (.frn 2000), true => argsOf (obGet c.ob) (evsV (evalV N c.sl) cl.args.toList)
        | _, _, _ => none
      | _ => none
    | _, _ => none
  | _ => none
def yieldX (N : Nat) (c : Cfg) : Option (List V) := match yieldOf N c with | some (xs, wr) => (match frnOk (obWr c.ob wr) with | true => some xs | false => none) | none => none
def resY (N : Nat) (c : Cfg) (b : Bool) : Cfg := match yieldOf N c with | some (_, wr) => after N c (.d (.bool b)) wr | none => c
section
variable {P : Program} {N : Nat} {fn : Func} {l : Nat} {Inv : List (List V) → (Nat → Prop) → Mem → World → Prop} {Stop Pan : (Nat → Prop) → Mem → World → Prop} {fl : Bool} {c : Cfg}
theorem run_yieldOp {a : Act} {w : World} {o : Oper} {cl : Call} {f : Operand} {l fn' : Nat} {tmps : Array Value} {assign body : Code} (ho : o.op = .call cl) (hc : cl.callee = .value f) (hf : a.eval f = .func (.yield l) #[] #[])
    (hy : (Instr.yield l (cl.args.map a.eval)).run P w = .ok (.round l fn' tmps assign body) w) : (execOp a.eval o).run P w = .ok (.round l fn' tmps assign body) w := by
  obtain ⟨callee, args, tys⟩ := cl
  simp only at hc
  subst hc
  simp only at hy
  simp [execOp, ho, resolve, Deferred.ofValue, hf, invoke, hy, Result.andThen]
theorem J_yield (R : RoundsOk P l Inv Stop Pan) {xs : List V} (y : List V) {ys : List (List V)} (hx : yieldX N c = some xs) (hb : begOk c = true) (hre : Res' xs y) (ht : J none P N [] (finI P fn l Inv Stop Pan fl (some ys)) (resY N c true)) (hs : J none P N [] (finI P fn l Inv Stop Pan fl none) (resY N c false)) : J none P N [] (finI P fn l Inv Stop Pan fl (some (y :: ys))) c := by
  refine ⟨ht.1, fun S wl M0 hH M ρ f w ha => ?_⟩
  unfold yieldX at hx
  split at hx
  · rename_i xs' wr hyo
    split at hx
    · rename_i hfk
      cases hx
      unfold resY at ht hs
      rw [hyo] at ht hs
      unfold yieldOf at hyo
      split at hyo
      · rename_i all o rest k htd
        split at hyo
        · rename_i cl hg hop
          split at hyo
          · rename_i fop hcal
            split at hyo
            · rename_i hfv hob _
              simp only [after_eq htd] at ht hs
              have hfe := evalV_rel (ds := []) ha fop
              rw [hfv] at hfe
              simp only [RelV] at hfe
              obtain ⟨i, hi, _, hfe⟩ := hfe
              obtain ⟨i', hi', hok⟩ := ha.ow.own 2000 _ hob
              rw [hi] at hi'; cases hi'
              have hok : S.r0 2000 = some i := hok
              obtain ⟨hinv, j, hj, hjl⟩ := hH
              rw [hok] at hj; cases hj
              rw [hjl] at hfe
              have hargs := evsV_rel (xs := cl.args.toList) (evalV_rel (ds := []) ha)
              obtain ⟨M1, r1, o1, d1⟩ := argsOf_sound ha.ow hargs hyo
              have hst := o1.step
              have hinv1 := R.inv _ _ _ _ _ _ _ hinv hst
              obtain ⟨fn', tmps, assign, body, hrun, hround⟩ := R.round y ys _ M1 w _ hinv1 o1.sits (hre.rel (d1 noR)) hst.own
              rw [htd]
              simp only [Wk, Exit.then]
              refine L_wp (gd_spec ha hg) ?_
              have hexec := run_yieldOp (P := P) (a := fr N f []) (w := w) hop hcal hfe (by
                have e : cl.args.map (fr N f []).eval = (cl.args.toList.map (fr N f []).eval).toArray := by apply Array.ext'; simp
                rw [e]; exact hrun)
              refine ⟨fun _ _ => trivial, ?_⟩
              rw [show (WF none).round = none from rfl, sem_plain (by rw [hop]; rfl), hexec]
              refine ⟨fun h => (by cases h), RoundIn.mono hround ?_⟩
              rintro e w2 ⟨M2, hle, hsit, hszw, hsz, hkept, hcase⟩
              have hb : noBeg k = true := by unfold begOk at hb; rw [htd] at hb; exact hb
              have o1' : Ow S wl M0 M1 ρ (obGet (obWr c.ob wr)) w := by rw [obGet_wr]; exact o1
              have hTA : TA ρ (wrO (obGet c.ob) wr) = TA ρ (obGet (obWr c.ob wr)) := by rw [obGet_wr]
              rw [hTA] at hkept hcase
              have hb' := o1'.base (r0 := ρ) hle hsit hsz hkept (fun _ _ _ h => h) (frnOk_spec hfk) (fun _ _ _ h => h) hszw
              have hR : Rle M M2 ρ ρ := ⟨Mem.le_trans r1.le hle, fun _ j hj => ⟨j, hj, Ile.refl j⟩⟩
              have hput := fun (b : Bool) (td : List It) => putS_abs (S := ⟨TA ρ (obGet (obWr c.ob wr)), ρ⟩) (wl := w2) (M0 := M2) (M := M2) (ρ := ρ) (N := N) (c := ⟨c.sl, obWr c.ob wr, td⟩) (f := f) (w := w2) ⟨hb', ha.ok, fun t ht => RelV.mono hR _ (ha.sl t ht)⟩ ht.1 (Rle.refl _ _) (ob' := obWr c.ob wr) hb' (v := .d (.bool b)) (u := .bool b) mk_bool o.dst (.ops all rest :: k)
              rcases hcase with ⟨rfl, hT⟩ | ⟨rfl, hF⟩ | ⟨⟨t, u, rfl⟩, hP⟩
              · dsimp only
                rw [fr_putd]
                have := ht.2 ⟨TA ρ (obGet (obWr c.ob wr)), ρ⟩ w2 M2 ⟨hT, i, hi, hjl⟩ M2 ρ _ w2 (hput true [])
                simp only [Wk, Exit.then] at this
                exact this
              · dsimp only
                rw [fr_putd]
                have := hs.2 ⟨TA ρ (obGet (obWr c.ob wr)), ρ⟩ w2 M2 ⟨hF, i, hi, hjl⟩ M2 ρ _ w2 (hput false [])
                simp only [Wk, Exit.then] at this
                exact this
              · exact Wk_pan k hb ⟨rfl, _, M2, .inr ⟨⟨t, u, rfl⟩, .inr hP⟩⟩
            · cases hyo
          · cases hyo
        · cases hyo
      · cases hyo
    · cases hx
  · cases hx
theorem J_doneI (R : RoundsOk P l Inv Stop Pan) {st : Option (List (List V))} (hst : (st = some [] ∧ fl = false) ∨ st = none) (hN : Nat.ble N 1024 = true) (hfn : fn.results = #[]) (hat : atRet c = true) : J none P N [] (finI P fn l Inv Stop Pan fl st) c := by
  refine ⟨nb_le hN, fun S wl M0 hH M ρ f w ha => ?_⟩
  have hend : (fl = false ∧ Inv [] (TA ρ (obGet c.ob)) M w) ∨ Stop (TA ρ (obGet c.ob)) M w := by
    rcases hst with ⟨rfl, h⟩ | rfl
    · exact .inl ⟨h, R.inv _ _ _ _ _ _ _ hH.1 ha.ow.step⟩
    · exact .inr (R.stop _ _ _ _ _ _ hH.1 ha.ow.step)
  have key : (finI P fn l Inv Stop Pan fl st) S wl M0 .ret (fr N f []) w := ⟨rfl, _, results_run (rs := []) (vs := []) (by rw [hfn]) trivial, _, M, .inl ⟨_, rfl, hend⟩⟩
  unfold atRet at hat
  split at hat
  · rename_i ht
    rw [ht]
    exact W_ret (Wk_ret _ hat key)
  · rename_i ht
    rw [ht]
    exact key
  · cases hat
/-- The iterator panics, behind all that it yields. -/
theorem JP_I (R : RoundsOk P l Inv Stop Pan) {sl : Tri} {ob : List (Nat × IObj)} : JP N [] (finI P fn l Inv Stop Pan true (some [])) sl ob := fun S wl M0 hH r1 M ρ w f t u _ h _ =>
  ⟨rfl, _, M, .inr ⟨⟨t, u, rfl⟩, .inl ⟨rfl, R.inv _ _ _ _ _ _ _ hH.1 h.step⟩⟩⟩
/-- The iterator's contract: ys is what it yields, in order; fl: whether it panics then. -/
def IterC (P : Program) (g : FuncId) (os : List (Nat × IObj)) (args : List V) (ys : List (List V)) (fl : Bool) : Prop :=
  ∀ l Inv Stop Pan, RoundsOk P l Inv Stop Pan → ∀ s M ρ w vals i, Ow ⟨s, ρ⟩ w M M ρ (obGet os) w → Inv ys s M w → ρ 2000 = some i → i.b = l → RelVs M ρ args vals → Calls P g vals.toArray w (endI Inv Stop Pan fl)
theorem iterC_of {g : FuncId} {b : Code} {os : List (Nat × IObj)} {args : List V} {ys : List (List V)} (hf : P.funcs[g]? = some fn) (hb : fn.body = some b) (hN : fn.ntmps = N) (hv : Nat.ble args.length N = true) (h : ∀ l Inv Stop Pan, RoundsOk P l Inv Stop Pan → J none P N [] (finI P fn l Inv Stop Pan fl (some ys)) ⟨mkT (argT 0 args), os, [.code b]⟩) : IterC P g os args ys fl := by
  intro l Inv Stop Pan R s M ρ w vals i ho hi h2 hl hr
  have h := h l Inv Stop Pan R
  have hlen := nb_le hv
  refine entry hf hb hN (by rw [hr.len]; exact hlen) ?_
  refine W_mono (h.2 ⟨s, ρ⟩ w M ⟨hi, i, h2, hl⟩ M ρ (argf vals) w ⟨ho, mkT_ok _, mkT_rel h.1 _ (fun t v hm => ?_)⟩) (fun e a w hq => hq)
  obtain ⟨_, h2⟩ := argT_mem hm
  rw [Nat.sub_zero] at h2
  obtain ⟨u, h3, h4⟩ := hr.get h2
  exact ⟨Nat.lt_of_lt_of_le (List.getElem?_eq_some_iff.1 h2).1 hlen, by unfold argf; rw [h3]; exact h4⟩
end
end Go.Proofs.YtilfjfpemjfalaaGreatDoor.Kx
