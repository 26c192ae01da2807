/- Functions that are ranged over: a round. -/
import Derived.Test.YtilfjfpemjfalaaGreatDoorRv
import Derived.RangeFuncIn
namespace Go.Proofs.YtilfjfpemjfalaaGreatDoor.Kx
open Go Go.RowKit

structure Lp where
  D : Nat
  L : Nat
  fn : FuncId
  tmps : Array Value
  ps : Array Tmp
  as : Code
  bo : Code
def recOf (x : Lp) (st : LoopState) (pe : Option Code) : Loop := { state := st, pending := pe, fn := x.fn, tmps := x.tmps, params := x.ps, assign := x.as, body := x.bo, defers := x.D }
def rob (x : Lp) (st : LoopState) (pe : Option Code) (ob : List (Nat × IObj)) : List (Nat × IObj) := (3000, .raw x.D (.deferred (some []))) :: (3001, .raw x.L (.loop (recOf x st pe))) :: ob
def CInv (x : Lp) (S : Hand) (wl : World) (M0 : Mem) (ρ0 : Rho) (Ms : Mem) (Good : List (List V) → List (Nat × IObj) → Prop) (ys : List (List V)) (T : Nat → Prop) (M : Mem) (w : World) : Prop :=
  Ms.le M ∧ ∃ ρ ob, Good ys ob ∧ Ow ⟨S.s, ρ0⟩ wl M0 M ρ (obGet (rob x .ready none ob)) w ∧ ∀ b, T b → ¬ TA ρ (obGet (rob x .ready none ob)) b ∧ (S b ∨ wl.heap.size ≤ b)
def CStop (x : Lp) (S : Hand) (wl : World) (M0 : Mem) (ρ0 : Rho) (Ms : Mem) (GoodX : Code → List (Nat × IObj) → Prop) (T : Nat → Prop) (M : Mem) (w : World) : Prop :=
  Ms.le M ∧ ∃ ρ ob j, GoodX j ob ∧ Ow ⟨S.s, ρ0⟩ wl M0 M ρ (obGet (rob x .done (some j) ob)) w ∧ ∀ b, T b → ¬ TA ρ (obGet (rob x .done (some j) ob)) b ∧ (S b ∨ wl.heap.size ≤ b)
theorem CInv.it {x : Lp} {S : Hand} {wl : World} {M0 Ms : Mem} {ρ0 : Rho} {Good : List (List V) → List (Nat × IObj) → Prop} : ∀ ys T M w T' M' w', CInv x S wl M0 ρ0 Ms Good ys T M w → ItStep T M w T' M' w' → CInv x S wl M0 ρ0 Ms Good ys T' M' w' :=
  fun _ _ _ _ _ _ _ ⟨h0, ρ, ob, h1, h2, h3⟩ k => by obtain ⟨h4, h5⟩ := h2.it k h3; exact ⟨Mem.le_trans h0 k.le, ρ, ob, h1, h4, h5⟩
theorem CStop.it {x : Lp} {S : Hand} {wl : World} {M0 Ms : Mem} {ρ0 : Rho} {GoodX : Code → List (Nat × IObj) → Prop} : ∀ T M w T' M' w', CStop x S wl M0 ρ0 Ms GoodX T M w → ItStep T M w T' M' w' → CStop x S wl M0 ρ0 Ms GoodX T' M' w' :=
  fun _ _ _ _ _ _ ⟨h0, ρ, ob, j, h1, h2, h3⟩ k => by obtain ⟨h4, h5⟩ := h2.it k h3; exact ⟨Mem.le_trans h0 k.le, ρ, ob, j, h1, h4, h5⟩
/-- A panic has gone through a round: the objects ob are known. -/
def CPan (x : Lp) (S : Hand) (wl : World) (M0 : Mem) (ρ0 : Rho) (Ms : Mem) (GoodP : List (Nat × IObj) → Prop) (T : Nat → Prop) (M : Mem) (w : World) : Prop :=
  Ms.le M ∧ ∃ r1 ρ ob, GoodP ob ∧ (∀ q i, ρ0 q = some i → (∃ o, obGet ob q = some o) → r1 q = some i) ∧ Ow ⟨S.s, r1⟩ wl M0 M ρ (obGet (rob x .busy none ob)) w ∧ ∀ b, T b → ¬ TA ρ (obGet (rob x .busy none ob)) b ∧ (S b ∨ wl.heap.size ≤ b)
/-- A round's aim. -/
def finB (x : Lp) (Good : List (List V) → List (Nat × IObj) → Prop) (GoodX : Code → List (Nat × IObj) → Prop) (GoodP : List (Nat × IObj) → Prop) (ys : List (List V)) : Fin where
  H := fun _ _ _ => True
  post := fun S wl M0 e a w => a.defers = [] ∧ ((∃ ρ M ob, Ow S wl M0 M ρ (obGet (rob x .busy none ob)) w ∧ (∀ q z, obGet ob q ≠ some (.frn z)) ∧ ((e = .normal ∧ Good ys ob) ∨ (e = .ret ∧ GoodX .ret ob) ∨ ∃ id, e = .exit id ∧ GoodX (.exit id) ob)) ∨
    (∃ t u, e = .panic [{ v := .iface t u, recovered := false }]) ∧ ∃ r1 ρ M ob, Ow ⟨S.s, r1⟩ wl M0 M ρ (obGet (rob x .busy none ob)) w ∧ (∀ q i, S.r0 q = some i → (∃ o, obGet (rob x .busy none ob) q = some o) → r1 q = some i) ∧ (∀ q z, obGet ob q ≠ some (.frn z)) ∧ GoodP ob)
/-- What is asked at a round's end. -/
def roundPostP (P : Program) (l : Nat) (R : Ending → World → Prop) : Exit → Act → World → Prop
  | .normal, _, w => ∃ v w', (Instr.endRound l none).run P w = .ok v w' ∧ R (.returned v) w'
  | .ret, _, w => ∃ v w', (Instr.endRound l (some .ret)).run P w = .ok v w' ∧ R (.returned v) w'
  | .exit id, _, w => ∃ v w', (Instr.endRound l (some (.exit id))).run P w = .ok v w' ∧ R (.returned v) w'
  | .panic ch, a, w => a.defers = [] ∧ R (.panicked ch) w
  | _, _, _ => False
theorem roundIn_of_W {P : Program} {l : Nat} {f : FuncId} {tmps : Array Value} {assign body : Code} {w : World} {R : Ending → World → Prop} (hf : ∃ fn, P.funcs[f]? = some fn)
    (h : W (some l) P assign (Exit.then (fun a₁ w₁ => ∃ w₂, (Instr.beginRound l).run P w₁ = .ok () w₂ ∧ W (some l) P body (roundPostP P l R) a₁ w₂) (fun _ _ _ => False)) { tmps := tmps, defers := [] } w) :
    RoundIn (WF none) 0 P l f tmps assign body w R := by
  refine ⟨trivial, fun c cs hr => ?_⟩
  let b : Frame := { (default : Frame) with fn := f, kind := .normal, roundOf := some l }
  have hb0 : Frame.round l f tmps assign body .normal = b.atR { tmps := tmps, defers := [] } [.code assign, .beginRound, .code body] := by
    simp [Frame.round, Frame.atR, b]
  obtain ⟨e, a₁, w₁, hq, harr⟩ := W_at h b [.beginRound, .code body] (c :: cs) rfl hf
  rw [← hb0] at harr
  cases e with
  | normal =>
    obtain ⟨w₂, hbr, hbody⟩ := hq
    have s1 : StepsIn (Machine.fenced P (WF (some l))) P (lone (b.atR a₁ [.beginRound, .code body]) (c :: cs) w₁) (lone (b.atR a₁ [.code body]) (c :: cs) w₂) :=
      .one (WF_calm (fr := b.atR a₁ [.beginRound, .code body]) rfl) (stepR_beginRound rfl hbr)
    obtain ⟨e₂, a₂, w₃, hq₂, harr₂⟩ := W_at hbody b [] (c :: cs) rfl hf
    cases e₂ with
    | normal =>
      obtain ⟨v, w₄, hend, hR⟩ := hq₂
      exact ⟨.returned v, w₄, hR, (StepsIn.trans harr s1).trans (StepsIn.trans harr₂ (.one (WF_calm (fr := b.atR a₂ []) rfl) (stepR_round_end rfl rfl hend)))⟩
    | ret =>
      obtain ⟨v, w₄, hend, hR⟩ := hq₂
      obtain ⟨k₁, hs⟩ := harr₂.2 rfl
      exact ⟨.returned v, w₄, hR, (StepsIn.trans harr s1).trans (StepsIn.trans hs (.one (WF_calm (fr := b.atR a₂ (.code .ret :: k₁)) rfl) (stepR_round_ret rfl rfl hend)))⟩
    | exit id =>
      obtain ⟨v, w₄, hend, hR⟩ := hq₂
      obtain ⟨k₁, hk, hs⟩ := harr₂.2 rfl rfl
      exact ⟨.returned v, w₄, hR, (StepsIn.trans harr s1).trans (StepsIn.trans hs (.one (WF_calm (fr := b.atR a₂ (.code (.exit id) :: k₁)) rfl) (stepR_round_exit rfl rfl hk hend)))⟩
    | panic chain =>
      obtain ⟨hd, hR⟩ := hq₂
      obtain ⟨todo, hs⟩ := harr₂
      obtain ⟨fn, hfn⟩ := hf
      have hl : Frame.leaving P { b.atR a₂ todo with mode := .panicking chain } w₃ (.panicked chain) := ⟨rfl, hd, fn, hfn⟩
      exact ⟨.panicked chain, w₃, hR, (StepsIn.trans harr s1).trans (StepsIn.trans hs (.one (fenced_leaving (n := 0) trivial (WF_room _ _) hl) (step_leave_panicked hl)))⟩
    | goto t => exact hq₂.elim
    | outgrown => exact hq₂.elim
  | exit id => exact hq.elim
  | goto t => exact hq.elim
  | ret => exact hq.elim
  | panic chain => exact hq.elim
  | outgrown => exact hq.elim
theorem CPan.it {x : Lp} {S : Hand} {wl : World} {M0 Ms : Mem} {ρ0 : Rho} {GoodP : List (Nat × IObj) → Prop} : ∀ T M w T' M' w', CPan x S wl M0 ρ0 Ms GoodP T M w → ItStep T M w T' M' w' → CPan x S wl M0 ρ0 Ms GoodP T' M' w' :=
  fun _ _ _ _ _ _ ⟨h0, r1, ρ, ob, h1, hr, h2, h3⟩ k => by obtain ⟨h4, h5⟩ := h2.it k h3; exact ⟨Mem.le_trans h0 k.le, r1, ρ, ob, h1, hr, h4, h5⟩

/-! ### The parameters are set -/
def setPs (N : Nat) (sl : Tri) : List Tmp → List V → Option Tri
  | [], [] => some sl
  | p :: ps, v :: vs => match Nat.blt p N with | true => setPs N (sl.set 10 p v) ps vs | false => none
  | _, _ => none
def setF (f : Nat → Value) : List (Tmp × Value) → Nat → Value
  | [] => f
  | (p, v) :: l => setF (upd f p v) l
theorem fr_params {N : Nat} : ∀ (l : List (Tmp × Value)) (f : Nat → Value), l.foldl (fun t (p, v) => t.setIfInBounds p v) (fr N f []).tmps = (fr N (setF f l) []).tmps
  | [], _ => rfl
  | (p, v) :: l, f => by
    simp only [List.foldl_cons, setF]
    have e : (fr N f []).tmps.setIfInBounds p v = (fr N (upd f p v) []).tmps := by
      have := congrArg Act.tmps (fr_put (N := N) (f := f) (ds := []) (d := p) (v := v))
      exact this
    rw [e]
    exact fr_params l (upd f p v)
theorem setPs_rel {N : Nat} (hN : N ≤ 1024) {M : Mem} {ρ : Rho} : ∀ {ps : List Tmp} {vs : List V} {us : List Value} {sl sl' : Tri} {f : Nat → Value}, setPs N sl ps vs = some sl' → sl.ok 10 → RelVs M ρ vs us → (∀ t, t < N → RelV M ρ (sl.get 10 t) (f t)) →
    sl'.ok 10 ∧ (∀ t, t < N → RelV M ρ (sl'.get 10 t) (setF f (ps.zip us) t)) ∧ us.length = ps.length
  | [], [], us, sl, sl', f, h, hok, hr, hs => by
    simp only [setPs, Option.some.injEq] at h
    subst h
    simp only [RelVs] at hr
    subst hr
    exact ⟨hok, hs, rfl⟩
  | p :: ps, v :: vs, us, sl, sl', f, h, hok, hr, hs => by
    unfold setPs at h
    split at h
    · rename_i hp
      simp only [RelVs] at hr
      obtain ⟨u, us', rfl, h1, h2⟩ := hr
      have hp := nb_lt hp
      obtain ⟨a1, a2, a3⟩ := setPs_rel hN (f := upd f p u) h (Tri.set_ok _ _ _ _ hok) h2 (fun t ht => by
        by_cases e : t = p
        · subst e; rw [Tri.get_set_same, upd_same]; exact h1
        · rw [Tri.get_set_ne _ _ _ _ _ hok (by omega) (by omega) (fun e' => e e'.symm), upd_ne _ _ e]; exact hs t ht)
      exact ⟨a1, a2, by simp [a3]⟩
    · cases h
  | [], _ :: _, _, _, _, _, h, _, _, _ => by cases h
  | _ :: _, [], _, _, _, _, h, _, _, _ => by cases h

section
variable {P : Program} {N : Nat} {x : Lp} {S : Hand} {wl : World} {M0 Ms : Mem} {ρ0 : Rho} {Good : List (List V) → List (Nat × IObj) → Prop} {GoodX : Code → List (Nat × IObj) → Prop} {GoodP : List (Nat × IObj) → Prop} {sl : Tri} {f : Nat → Value}
theorem round_of (hfx : ∃ fn, P.funcs[x.fn]? = some fn) (hN : N ≤ 1024) (hx : x.tmps = (fr N f []).tmps) (hok : sl.ok 10) (hsl : ∀ t, t < N → RelV Ms ρ0 (sl.get 10 t) (f t)) (hbig : ∀ r i, ρ0 r = some i → Nat.ble 2000 r = true)
    (hnf : ∀ ys ob, Good ys ob → ∀ q z, obGet ob q ≠ some (.frn z))
    (hJ : ∀ y ys ob, Good (y :: ys) ob → ∃ sl', setPs N sl x.ps.toList y = some sl' ∧ J (some x.L) P N [] (finB x Good GoodX GoodP ys) ⟨sl', rob x .ready none ob, [.code x.as, .begR x.L, .code x.bo]⟩)
    (y : List V) (ys : List (List V)) (T : Nat → Prop) (M : Mem) (w : World) (vals : List Value) (hI : CInv x S wl M0 ρ0 Ms Good (y :: ys) T M w) (hs : Sits M w) (hr : RelVs M noR y vals) (hT0 : ∀ b, T b → b < w.heap.size) :
    Yields P x.L vals w (fun e w' => ∃ M', M.le M' ∧ Sits M' w' ∧ Sz w' ∧ w.heap.size ≤ w'.heap.size ∧ (∀ k, T k → w'.heap[k]? = w.heap[k]? ∧ M' k = M k) ∧
      ((e = .returned (.bool true) ∧ CInv x S wl M0 ρ0 Ms Good ys T M' w') ∨ (e = .returned (.bool false) ∧ CStop x S wl M0 ρ0 Ms GoodX T M' w') ∨ (panE e ∧ CPan x S wl M0 ρ0 Ms GoodP T M' w'))) := by
  obtain ⟨hle, ρ, ob, hg, ho, hT⟩ := hI
  obtain ⟨sl', hset, hj⟩ := hJ y ys ob hg
  have hnf' : ∀ (st : LoopState) (pe : Option Code) (ob : List (Nat × IObj)), (∀ q z, obGet ob q ≠ some (.frn z)) → ∀ q z, obGet (rob x st pe ob) q ≠ some (.frn z) := fun st pe ob h q z => by
    simp only [rob, obGet]
    split
    · intro e; cases e
    · split
      · intro e; cases e
      · exact h q z
  have h1 : obGet (rob x .ready none ob) 3001 = some (.raw x.L (.loop (recOf x .ready none))) := rfl
  have hR : Rle Ms M ρ0 ρ := ⟨hle, fun r i hi => ho.held r i (hbig r i hi) hi⟩
  obtain ⟨a1, a2, a3⟩ := setPs_rel hN (f := f) hset hok (RelVs.mono (ρ' := ρ) ⟨M.le_refl, fun r i hi => by cases hi⟩ _ hr) (fun t ht => RelV.mono hR _ (hsl t ht))
  have hy := run_yield (P := P) (args := vals.toArray) (ho.raw h1 (.loop (recOf x .ready none))).1 (by simp [recOf, a3])
  refine ⟨x.fn, _, x.as, x.bo, hy, roundIn_of_W hfx ?_⟩
  have hb := ho.base (r0 := ρ) M.le_refl hs (Nat.le_refl _) (fun k hk => ⟨rfl, rfl⟩) (fun q i hq _ => absurd hq (hnf' _ _ _ (hnf _ _ hg) q q)) (fun q z hq => absurd hq (hnf' _ _ _ (hnf _ _ hg) q z)) (fun _ _ _ h => h) ho.szw
  have hw := hj.2 ⟨TA ρ (obGet (rob x .ready none ob)), ρ⟩ w M trivial M ρ (setF f (x.ps.toList.zip vals)) w ⟨hb, a1, a2⟩
  have hfr : ({ tmps := ((recOf x .ready none).params.zip vals.toArray).foldl (fun t (p, v) => t.setIfInBounds p v) (recOf x .ready none).tmps, defers := [] } : Act) = fr N (setF f (x.ps.toList.zip vals)) [] := by
    have e : ((recOf x .ready none).params.zip vals.toArray).foldl (fun t (p, v) => t.setIfInBounds p v) (recOf x .ready none).tmps = (fr N (setF f (x.ps.toList.zip vals)) []).tmps := by
      rw [← fr_params, ← Array.foldl_toList]
      simp [recOf, hx]
    rw [e]; rfl
  rw [hfr]
  simp only [Wk, Exit.then] at hw
  have hup : ∀ (st st' : LoopState) (pe pe' : Option Code) (ob : List (Nat × IObj)), updO (obGet (rob x st pe ob)) 3001 (.raw x.L (.loop (recOf x st' pe'))) = obGet (rob x st' pe' ob) := fun st st' pe pe' ob => by
    funext q
    by_cases e : q = 3001
    · subst e; rw [updO_same]; rfl
    · rw [updO_ne _ _ e]
      simp only [rob, obGet]
      split
      · rfl
      · have : Nat.beq q 3001 = false := beq_false e
        simp only [this]
  have hLTA : TA ρ (obGet (rob x .ready none ob)) x.L := by
    obtain ⟨i, hi, _, hib, _⟩ := ho.own 3001 _ h1
    exact ⟨3001, i, _, hi, h1, trivial, hib⟩
  have fin : ∀ (st' : LoopState) (pe' : Option Code) (ρ2 : Rho) (M2 : Mem) (ob2 : List (Nat × IObj)) (w3 : World), Ow ⟨TA ρ (obGet (rob x .ready none ob)), ρ⟩ w M M2 ρ2 (obGet (rob x .busy none ob2)) w3 → (∀ q z, obGet ob2 q ≠ some (.frn z)) →
      w3.heap[x.L]? = some (.loop (recOf x .busy none)) ∧ M.le M2 ∧ Sits M2 (w3.putObj x.L (.loop (recOf x st' pe'))) ∧ w.heap.size ≤ (w3.putObj x.L (.loop (recOf x st' pe'))).heap.size ∧ (∀ k, T k → (w3.putObj x.L (.loop (recOf x st' pe'))).heap[k]? = w.heap[k]? ∧ M2 k = M k) ∧
      Ow ⟨S.s, ρ0⟩ wl M0 M2 ρ2 (obGet (rob x st' pe' ob2)) (w3.putObj x.L (.loop (recOf x st' pe'))) ∧ ∀ b, T b → ¬ TA ρ2 (obGet (rob x st' pe' ob2)) b ∧ (S b ∨ wl.heap.size ≤ b) := fun st' pe' ρ2 M2 ob2 w3 h2 hn2 => by
    have hc := ho.comp h2 (hnf' _ _ _ hn2)
    have h3 : obGet (rob x .busy none ob2) 3001 = some (.raw x.L (.loop (recOf x .busy none))) := rfl
    obtain ⟨hh, h4⟩ := hc.raw h3 (.loop (recOf x st' pe'))
    obtain ⟨_, h5⟩ := h2.raw h3 (.loop (recOf x st' pe'))
    rw [hup] at h4 h5
    refine ⟨hh, h2.le, h5.sits, h5.size, fun k hk => ⟨h5.old k (hT0 k hk) (hT k hk).1, ?_⟩, h4, fun b hb => ⟨fun hta => ?_, (hT b hb).2⟩⟩
    · cases hm : M2 k with
      | none =>
        cases hm0 : M k with
        | none => rfl
        | some c => obtain ⟨c', h3, _⟩ := h2.le _ _ hm0; rw [hm] at h3; cases h3
      | some c =>
        rcases h2.new k c hm (hT0 k hk) with h6 | h6
        · exact h6.symm
        · exact absurd h6 (hT k hk).1
    · rcases (TA_mine h5 hta).1 with h6 | h6
      · exact (hT b hb).1 h6
      · have := hT0 b hb; omega
  have pan : ∀ (r1 ρ2 : Rho) (M2 : Mem) (ob2 : List (Nat × IObj)) (w3 : World), Ow ⟨TA ρ (obGet (rob x .ready none ob)), r1⟩ w M M2 ρ2 (obGet (rob x .busy none ob2)) w3 → (∀ q i, ρ q = some i → (∃ o, obGet (rob x .busy none ob2) q = some o) → r1 q = some i) → (∀ q z, obGet ob2 q ≠ some (.frn z)) →
      M.le M2 ∧ Sits M2 w3 ∧ w.heap.size ≤ w3.heap.size ∧ (∀ k, T k → w3.heap[k]? = w.heap[k]? ∧ M2 k = M k) ∧
      ∃ r2, (∀ q i, ρ0 q = some i → (∃ o, obGet ob2 q = some o) → r2 q = some i) ∧ Ow ⟨S.s, r2⟩ wl M0 M2 ρ2 (obGet (rob x .busy none ob2)) w3 ∧ ∀ b, T b → ¬ TA ρ2 (obGet (rob x .busy none ob2)) b ∧ (S b ∨ wl.heap.size ≤ b) := fun r1 ρ2 M2 ob2 w3 h2 hr1 hn2 => by
    have hob : ∀ q, (∃ o, obGet ob2 q = some o) → ∃ o, obGet (rob x .busy none ob2) q = some o := fun q ⟨o, ho⟩ => by
      simp only [rob, obGet]
      split
      · exact ⟨_, rfl⟩
      · split
        · exact ⟨_, rfl⟩
        · exact ⟨o, ho⟩
    have hc := ho.compP h2 (hnf' _ _ _ hn2) (r2 := restr (idsOf ob2) ρ0) (fun q i hb hq => by
      obtain ⟨hm, hq⟩ := restr_some hq
      obtain ⟨j, h3, h4⟩ := ho.held q i hb hq
      obtain ⟨k, h5, h6⟩ := h2.held q j hb (hr1 q j h3 (hob q (idsOf_mem.1 hm)))
      exact ⟨k, h5, h4.trans h6⟩)
    refine ⟨h2.le, h2.sits, h2.size, fun k hk => ⟨h2.old k (hT0 k hk) (hT k hk).1, ?_⟩, _, fun q i hq ho' => ?_, hc, fun b hb => ⟨fun hta => ?_, (hT b hb).2⟩⟩
    · cases hm : M2 k with
      | none =>
        cases hm0 : M k with
        | none => rfl
        | some c => obtain ⟨c', h3, _⟩ := h2.le _ _ hm0; rw [hm] at h3; cases h3
      | some c =>
        rcases h2.new k c hm (hT0 k hk) with h6 | h6
        · exact h6.symm
        · exact absurd h6 (hT k hk).1
    · unfold restr
      rw [idsOf_mem.2 ho']
      exact hq
    · rcases (TA_mine h2 hta).1 with h6 | h6
      · exact (hT b hb).1 h6
      · have := hT0 b hb; omega
  refine W_mono hw (fun e a1 w1 hq => ?_)
  cases e with
  | normal =>
    obtain ⟨w2, hbr, hbo⟩ := hq
    refine ⟨w2, hbr, W_mono hbo (fun e2 a2 w3 hfin => ?_)⟩
    obtain ⟨hdf, hfin⟩ := hfin
    rcases hfin with ⟨ρ2, M2, ob2, h2, hn2, hcase⟩ | ⟨⟨t, u, rfl⟩, r1, ρ2, M2, ob2, h2, hr1, hn2, hgp⟩
    · rcases hcase with ⟨rfl, hgd⟩ | ⟨rfl, hgx⟩ | ⟨id, rfl, hgx⟩
      · obtain ⟨b1, b2, b3, b4, b5, b6, b7⟩ := fin .ready none ρ2 M2 ob2 w3 h2 hn2
        exact ⟨_, _, run_endRound (P := P) none b1, M2, b2, b3, b6.szw, b4, b5, .inl ⟨rfl, Mem.le_trans hle b2, ρ2, ob2, hgd, b6, b7⟩⟩
      · obtain ⟨b1, b2, b3, b4, b5, b6, b7⟩ := fin .done (some .ret) ρ2 M2 ob2 w3 h2 hn2
        exact ⟨_, _, run_endRound (P := P) (some .ret) b1, M2, b2, b3, b6.szw, b4, b5, .inr (.inl ⟨rfl, Mem.le_trans hle b2, ρ2, ob2, .ret, hgx, b6, b7⟩)⟩
      · obtain ⟨b1, b2, b3, b4, b5, b6, b7⟩ := fin .done (some (.exit id)) ρ2 M2 ob2 w3 h2 hn2
        exact ⟨_, _, run_endRound (P := P) (some (.exit id)) b1, M2, b2, b3, b6.szw, b4, b5, .inr (.inl ⟨rfl, Mem.le_trans hle b2, ρ2, ob2, .exit id, hgx, b6, b7⟩)⟩
    · obtain ⟨b2, b3, b4, b5, r2, b8, b6, b7⟩ := pan r1 ρ2 M2 ob2 w3 h2 hr1 hn2
      exact ⟨hdf, M2, b2, b3, b6.szw, b4, b5, .inr (.inr ⟨⟨t, u, rfl⟩, Mem.le_trans hle b2, r2, ρ2, ob2, hgp, b8, b6, b7⟩)⟩
  | _ => exact hq
end
end Go.Proofs.YtilfjfpemjfalaaGreatDoor.Kx
