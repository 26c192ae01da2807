/- Deferred calls; recover. -/
import Derived.Test.YtilfjfpemjfalaaGreatDoorRy
import Derived.RecoverIn
namespace Go.Proofs.YtilfjfpemjfalaaGreatDoor.Kx
open Go Go.RowKit

theorem L_monoQ {r : Option Nat} {P : Program} {ops : Array Oper} {Q Q' : Exit → Act → World → Prop} (hq : ∀ e a w, Q e a w → Q' e a w) : ∀ (rest : List Oper) (a : Act) (w : World), L r P ops Q rest a w → L r P ops Q' rest a w
  | [], a, w, h => by rw [L_eq] at h ⊢; exact hq _ _ _ h
  | o :: rest, a, w, h => by
    have ih := L_monoQ (r := r) (P := P) (ops := ops) hq rest
    simp only [L_eq] at ih h ⊢
    unfold wpListIn at h ⊢
    split
    · rename_i hw
      rw [if_pos hw] at h
      refine ⟨h.1, ?_⟩
      have hh := h.2
      have hlets : LetsOut Q → LetsOut Q' := fun ⟨a, w, h⟩ => ⟨a, w, hq _ _ _ h⟩
      generalize (o.semAt (WF r).round a.eval).run P w = res at *
      cases res with
      | ok x w' =>
        cases x <;> simp only [Oper.uponIn] at hh ⊢ <;>
          first
            | exact ih _ _ hh
            | exact ⟨hh.1, CallsIn.mono hh.2 (fun e w'' he => by cases e <;> first | exact ih _ _ he | exact hq _ _ _ he | exact hlets he)⟩
            | exact ⟨hh.1, RowsIn.mono hh.2 (fun _ _ he => ih _ _ he)⟩
            | exact ⟨hh.1, RoundIn.mono hh.2 (fun e w'' he => by cases e <;> first | exact ih _ _ he | exact hq _ _ _ he | exact hlets he)⟩
            | exact hh.elim
      | halt x w' => cases x <;> simp only [Oper.uponIn] at hh ⊢ <;> first | exact hq _ _ _ hh | exact hh.elim
    · rename_i hw
      rw [if_neg hw] at h
      exact ⟨h.1, ih _ _ h.2⟩

/-! ### A deferred function that recovers -/
/-- What recover hands back, and the mode of the frame below from then on. -/
def recSpec (c : Frame) (rv : Value) (u1 : FrameMode) : Prop :=
  (c.mode = .panicking [{ v := rv, recovered := false }] ∧ u1 = .panicking [{ v := rv, recovered := true }]) ∨ (c.mode = .returning ∧ rv = .nilIface ∧ u1 = .returning)
abbrev recCall : Call := { callee := .builtin .recover, args := #[], argTypes := #[] }
section
variable {P : Program} {N : Nat}
theorem step_recover {b : Frame} {a : Act} {ops : Array Oper} {i : Nat} {rest : List Nat} {k : List Item} {c : Frame} {cs : List Frame} {w : World} {o : Oper} {rv : Value} {u1 : FrameMode} (hk : b.kind = .deferred) (hro : b.roundOf = none) (ho : ops[i]? = some o) (hw : Region.wanted o (yielded ops a.tmps) = true) (hop : o.op = .call recCall) (hrec : recSpec c rv u1) :
    step P (lone (b.atR a (.inRegion ops (i :: rest) :: k)) (c :: cs) w) = .next (lone (b.atR (a.put o.dst rv) (.inRegion ops rest :: k)) ({ c with mode := u1 } :: cs) w) := by
  have hg := stepG_op (P := P) (b := b) (k := k) (cs := c :: cs) (w := w) (rest := rest) ho hw
  have hr : (execOp a.eval o).run P w = .ok .recover w := by simp [execOp, hop, resolve, invoke, builtin]
  have hfin : ∀ v, (b.at a (.inRegion ops (i :: rest) :: k)).finish v = b.at (a.put o.dst v) (.inRegion ops rest :: k) := by
    intro v; rw [Frame.finish_at, ho]; rfl
  have htr := tryRecover_deferred (fr := b.at a (.inRegion ops (i :: rest) :: k)) hk (c :: cs)
  rw [Frame.atR_of_none hro, Frame.atR_of_none hro]
  refine step_lone_go ?_
  rw [hg, ← hfin]
  simp only [Frame.at] at htr ⊢
  rcases hrec with ⟨hm, rfl⟩ | ⟨hm, rfl, rfl⟩
  · have hrd : recoverD (c :: cs) = some (rv, { c with mode := .panicking [{ v := rv, recovered := true }] } :: cs) := by simp [recoverD, hm]
    simp [stepG.apply, hr, htr, hrd]
  · have hrd : recoverD (c :: cs) = none := by simp [recoverD, hm]
    have hc : ({ c with mode := .returning } : Frame) = c := by rw [← hm]
    simp [stepG.apply, hr, htr, hrd, hc]
theorem callsD_rec {g : FuncId} {fn : Func} {id : Nat} {o0 : Oper} {rest : List Oper} {y : Code} {vals : List Value} {u u1 : FrameMode} {rv : Value} {w : World} {R' : Ending → World → Prop} (hf : P.funcs[g]? = some fn) (hb : fn.body = some (.seq (.region id (o0 :: rest).toArray false) y)) (hN : fn.ntmps = N) (hv : vals.length ≤ N) (hop : o0.op = .call recCall) (hg : o0.guard = none)
    (hrec : ∀ c : Frame, c.mode = u → recSpec c rv u1) (hW : Wk none P (bodyPost P fn R') [.ops (o0 :: rest) rest, .code y] .normal ((fr N (argf vals) []).put o0.dst rv) w) :
    CallsDIn (WF none) 0 P g vals.toArray u w (fun e u' w' => u' = u1 ∧ R' e w') := by
  refine ⟨trivial, fun c₀ cs hu hr => ?_⟩
  let b : Frame := { (default : Frame) with fn := g, kind := .deferred, roundOf := none }
  have henter : Frame.enter P g vals.toArray .deferred = b.atR (fr N (argf vals) []) [.code (.seq (.region id (o0 :: rest).toArray false) y)] := by
    rw [← fr_entry N vals hv, ← hN]
    simp [Frame.enter, Frame.atR, hf, hb, b]
  have hrange : List.range (o0 :: rest).toArray.size = 0 :: List.range' 1 rest.length := by
    simp [List.range_eq_range', List.range'_succ]
  have s1 : StepsIn (Machine.fenced P (WF none)) P (lone (b.atR (fr N (argf vals) []) [.code (.seq (.region id (o0 :: rest).toArray false) y)]) (c₀ :: cs) w)
      (lone (b.atR ((fr N (argf vals) []).put o0.dst rv) [.inRegion (o0 :: rest).toArray (List.range' 1 rest.length), .code y]) ({ c₀ with mode := u1 } :: cs) w) := by
    refine .head (WF_calm rfl) stepR_seq (.head (WF_calm rfl) stepR_region ?_)
    rw [hrange]
    refine .one ?_ (step_recover rfl rfl (by simp) (by unfold Region.wanted; rw [hg]) hop (hrec c₀ hu))
    exact fenced_lone (.inl trivial) (fun f' _ => trivial) (WF_room _ _)
  simp only [Wk, Exit.then] at hW
  rw [L_eq] at hW
  have hW' : wpOpsIn (WF none) 0 P (o0 :: rest).toArray (Exit.then (fun a w => W none P y (bodyPost P fn R') a w) (bodyPost P fn R')) (List.range' 1 rest.length) ((fr N (argf vals) []).put o0.dst rv) w := by
    rw [wpOpsIn_eq_wpListIn rest 1 (fun j => by simp [Nat.add_comm 1 j])]
    exact hW
  obtain ⟨e, a', w', hq, harr⟩ := wp_opsIn _ _ _ hW' b [.code y] ({ c₀ with mode := u1 } :: cs) rfl trivial (WF_room _ _)
  have fin : ∀ (e : Exit) (a' : Act) (w' : World), bodyPost P fn R' e a' w' → ArrivesIn (Machine.fenced P (WF none)) P (lone (Frame.enter P g vals.toArray .deferred) (c₀ :: cs) w) b [] ({ c₀ with mode := u1 } :: cs) e a' w' →
      ∃ e u' w' fr, (u' = u1 ∧ R' e w') ∧ ComesIn (Machine.fenced P (WF none)) P (lone (Frame.enter P g vals.toArray .deferred) (c₀ :: cs) w) (lone fr ({ c₀ with mode := u' } :: cs) w') e ∧ fr.kind = .deferred ∧ fr.fn = g ∧ fr.going P w' e := fun e a' w' hq harr => by
    cases e with
    | normal =>
      obtain ⟨hd, v, hr', hR⟩ := hq
      exact ⟨.returned v, u1, w', _, ⟨rfl, hR⟩, StepsIn.trans harr (.one (WF_calm (fr := b.atR a' []) rfl) (stepR_end rfl)), rfl, rfl, rfl, hd, fn, hf, hr'⟩
    | ret =>
      obtain ⟨hd, v, hr', hR⟩ := hq
      obtain ⟨todo, hs⟩ := harr.1 rfl
      exact ⟨.returned v, u1, w', _, ⟨rfl, hR⟩, hs, rfl, rfl, rfl, hd, fn, hf, hr'⟩
    | panic chain =>
      obtain ⟨hd, hR⟩ := hq
      obtain ⟨todo, hs⟩ := harr
      exact ⟨.panicked chain, u1, w', _, ⟨rfl, hR⟩, hs, rfl, rfl, rfl, hd, fn, hf⟩
    | exit id => exact hq.elim
    | goto l => exact hq.elim
    | outgrown => exact ⟨.outgrown, u1, w', b, ⟨rfl, hq⟩, harr.resolve_left (by simp [b]), rfl, rfl, trivial⟩
  rw [henter] at fin ⊢
  cases e with
  | normal =>
    simp only [Exit.then] at hq
    obtain ⟨e₂, a₂, w₂, hq₂, harr₂⟩ := W_at hq b [] ({ c₀ with mode := u1 } :: cs) rfl ⟨fn, hf⟩
    exact fin e₂ a₂ w₂ hq₂ (.of_steps (s1.trans harr) harr₂)
  | exit id => exact hq.elim
  | goto l => exact hq.elim
  | ret => exact fin .ret a' w' hq (.of_steps s1 (.pass (x := .code y) rfl (fun _ _ => .inl (by simp)) harr))
  | panic ch => exact fin (.panic ch) a' w' hq (.of_steps s1 (.pass (x := .code y) rfl (fun _ _ => .inl (by simp)) harr))
  | outgrown => exact fin .outgrown a' w' hq (.of_steps s1 (.pass (x := .code y) rfl (fun _ _ => .inl (by simp)) harr))
end

/-- The deferred function, where nobody panics: it turns nothing. -/
def DefR (P : Program) (K : List Nat) (g : FuncId) (cap : List V) : Prop := ∀ M ρ w vals, Sits M w → GlA M w → (∀ q, memN q K = true → ∃ i, ρ q = some i) → (∀ q i, ρ q = some i → memN q K = true) → RelVs M ρ cap vals →
  CallsDIn (WF none) 0 P g vals.toArray .returning w (fun e u' w' => u' = .returning ∧ (∃ v, e = .returned v) ∧ ∃ M', Ext M M' w w')
/-- The same behind a panic: it recovers. -/
def DefP (P : Program) (g : FuncId) (cap : List V) (os os' : List (Nat × IObj)) : Prop := ∀ s wl M0 M ρ w vals t u, Ow ⟨s, ρ⟩ wl M0 M ρ (obGet os) w → RelVs M ρ cap vals →
  CallsDIn (WF none) 0 P g vals.toArray (.panicking [{ v := .iface t u, recovered := false }]) w (fun e u' w' => u' = .panicking [{ v := .iface t u, recovered := true }] ∧ (∃ v, e = .returned v) ∧ ∃ M' ρ', Ow ⟨s, ρ⟩ wl M0 M' ρ' (obGet os') w')
section
variable {P : Program} {N : Nat} {fn : Func} {g : FuncId} {id : Nat} {o0 : Oper} {rest : List Oper} {y : Code} {cap : List V}
def frns : List Nat → List (Nat × IObj)
  | [] => []
  | q :: l => (q, .frn q) :: frns l
theorem frns_get : ∀ (K : List Nat) (q : Nat), obGet (frns K) q = match memN q K with | true => some (.frn q) | false => none
  | [], q => rfl
  | k :: K, q => by
    have ih := frns_get K q
    simp only [frns, obGet, memN]
    cases h : Nat.beq q k with
    | true => obtain rfl := Nat.eq_of_beq_eq_true h; rfl
    | false => exact ih
theorem defR_of {d : Nat} {v : V} (K : List Nat) (hf : P.funcs[g]? = some fn) (hb : fn.body = some (.seq (.region id (o0 :: rest).toArray false) y)) (hN : fn.ntmps = N) (hv : Nat.ble cap.length N = true) (hop : o0.op = .call recCall) (hg : o0.guard = none) (hd : o0.dst = some d)
    (h : J none P N [] (finF P fn v) ⟨putS N (mkT (argT 0 cap)) (some d) (.d (.ife false)), frns K, [.ops (o0 :: rest) rest, .code y]⟩) : DefR P K g cap := by
  intro M ρ w vals hs hgl h1 h2 hr
  have hl := nb_le hv
  have ho : Ow ⟨fun _ => False, ρ⟩ w M M ρ (obGet (frns K)) w := by
    refine ⟨Nat.le_refl _, rfl, rfl, rfl, fun _ _ _ => rfl, hs, M.le_refl, hgl.entry (fun _ _ _ h => h), fun _ _ h _ => .inl h, fun q o hq => ?_, fun q i hi => ⟨.frn q, by rw [frns_get, h2 q i hi]⟩, fun r r' o o' i i' h3 h4 h5 h6 l1 _ _ => ?_, fun q i _ hi => ⟨i, hi, Ile.refl i⟩⟩
    · rw [frns_get] at hq
      split at hq
      · rename_i hm
        cases hq
        obtain ⟨i, hi⟩ := h1 q hm
        exact ⟨i, hi, hi⟩
      · cases hq
    · rw [frns_get] at h3
      split at h3
      · cases h3; exact l1.elim
      · cases h3
  have ha : Abs ⟨fun _ => False, ρ⟩ w M M ρ N ⟨mkT (argT 0 cap), frns K, []⟩ (argf vals) w := ⟨ho, mkT_ok _, mkT_rel h.1 _ (fun t v hm => by
    obtain ⟨_, h2⟩ := argT_mem hm
    rw [Nat.sub_zero] at h2
    obtain ⟨u, h3, h4⟩ := hr.get h2
    exact ⟨Nat.lt_of_lt_of_le (List.getElem?_eq_some_iff.1 h2).1 hl, by unfold argf; rw [h3]; exact h4⟩)⟩
  have hp := putS_abs ha h.1 (Rle.refl _ _) ho (v := .d (.ife false)) (u := .nilIface) (by simp only [RelV]; exact .nili) (some d) [.ops (o0 :: rest) rest, .code y]
  have hw := h.2 _ _ _ trivial _ _ _ _ hp
  refine (callsD_rec (R' := RetD w M v) (rv := .nilIface) (u1 := .returning) hf hb hN (by rw [hr.len]; exact hl) hop hg (fun c hc => .inr ⟨hc, rfl, rfl⟩) ?_).mono ?_
  · rw [hd, fr_putd]
    simp only [Wk, Exit.then] at hw ⊢
    have hfin : ∀ e a w', (finF P fn v) ⟨fun _ => False, ρ⟩ w M e a w' → bodyPost P fn (RetD w M v) e a w' := fun e a w' hq => hq (fun _ h => h)
    exact L_monoQ (fun e a w hq => by
      cases e with
      | normal => exact W_mono hq hfin
      | exit id => exact hfin _ _ _ hq
      | goto l => exact hfin _ _ _ hq
      | ret => exact hfin _ _ _ hq
      | panic ch => exact hfin _ _ _ hq
      | outgrown => exact hfin _ _ _ hq) _ _ _ hw
  · rintro e u' w' ⟨rfl, uu, M', rfl, hext, _⟩
    exact ⟨rfl, ⟨_, rfl⟩, M', hext⟩
theorem defP_of {d : Nat} {v : V} {os os' : List (Nat × IObj)} (hf : P.funcs[g]? = some fn) (hb : fn.body = some (.seq (.region id (o0 :: rest).toArray false) y)) (hN : fn.ntmps = N) (hv : Nat.ble cap.length N = true) (hop : o0.op = .call recCall) (hg : o0.guard = none) (hd : o0.dst = some d)
    (h : J none P N [] (finR P fn os' v) ⟨putS N (mkT (argT 0 cap)) (some d) (.d (.ife true)), os, [.ops (o0 :: rest) rest, .code y]⟩) : DefP P g cap os os' := by
  intro s wl M0 M ρ w vals t u ho hr
  have hl := nb_le hv
  have ha : Abs ⟨s, ρ⟩ wl M0 M ρ N ⟨mkT (argT 0 cap), os, []⟩ (argf vals) w := ⟨ho, mkT_ok _, mkT_rel h.1 _ (fun t v hm => by
    obtain ⟨_, h2⟩ := argT_mem hm
    rw [Nat.sub_zero] at h2
    obtain ⟨u, h3, h4⟩ := hr.get h2
    exact ⟨Nat.lt_of_lt_of_le (List.getElem?_eq_some_iff.1 h2).1 hl, by unfold argf; rw [h3]; exact h4⟩)⟩
  have hp := putS_abs ha h.1 (Rle.refl _ _) ho (v := .d (.ife true)) (u := .iface t u) (by simp only [RelV]; exact .ifc t u) (some d) [.ops (o0 :: rest) rest, .code y]
  have hw := h.2 _ _ _ trivial _ _ _ _ hp
  refine (callsD_rec (R' := fun e w' => ∃ u M' ρ', e = .returned u ∧ Ow ⟨s, ρ⟩ wl M0 M' ρ' (obGet os') w' ∧ RelV M' ρ' v u) (rv := .iface t u) (u1 := .panicking [{ v := .iface t u, recovered := true }]) hf hb hN (by rw [hr.len]; exact hl) hop hg (fun c hc => .inl ⟨hc, rfl⟩) ?_).mono ?_
  · rw [hd, fr_putd]
    exact hw
  · rintro e u' w' ⟨rfl, uu, M', ρ', rfl, ho', _⟩
    exact ⟨rfl, ⟨_, rfl⟩, M', ρ', ho'⟩
end

/-! ### The door -/
/-- The deferred closure g lies below; it has caught the objects K. -/
def DoorOk (P : Program) (K : List Nat) (g : FuncId) (cap : List V) (hr : Rho) (base : List Deferred) : Prop :=
  (∀ q i, hr q = some i → i.fix = true ∧ Nat.ble 2000 q = true ∧ memN q K = true) ∧ (∀ q, memN q K = true → ∃ i, hr q = some i) ∧ ∃ vals : List Value, base = [{ target := .fn (.func g) vals.toArray, args := #[] }] ∧ ∀ M ρ, (∀ q i, hr q = some i → ρ q = some i) → RelVs M ρ cap vals
def allBox (ob : Nat → Option IObj) : List Nat → Bool
  | [] => true
  | q :: l => match ob q, Nat.ble 2000 q with | some (.box _ _), true => allBox ob l | _, _ => false
theorem allBox_spec {ob : Nat → Option IObj} : ∀ {l : List Nat} {q : Nat}, allBox ob l = true → memN q l = true → (∃ te cs, ob q = some (.box te cs)) ∧ Nat.ble 2000 q = true
  | [], _, _, h => by cases h
  | k :: l, q, hb, h => by
    unfold allBox at hb
    split at hb
    · rename_i te cs h1 h2
      unfold memN at h
      split at h
      · rename_i he; rw [Nat.eq_of_beq_eq_true he]; exact ⟨⟨te, cs, h1⟩, h2⟩
      · exact allBox_spec hb h
    · cases hb
def ptrsOnly : List V → Bool
  | [] => true
  | .ptr _ _ :: l => ptrsOnly l
  | _ => false
theorem ptrs_rel {M M' : Mem} {ρ ρ' : Rho} (hρ : ∀ q i, ρ q = some i → ρ' q = some i) : ∀ {vs : List V} {us : List Value}, ptrsOnly vs = true → RelVs M ρ vs us → RelVs M' ρ' vs us
  | [], us, _, h => by simp only [RelVs] at h ⊢; exact h
  | v :: l, us, hp, h => by
    simp only [RelVs] at h ⊢
    obtain ⟨u, us', e, h1, h2⟩ := h
    cases v <;> simp only [ptrsOnly] at hp <;> first | (cases hp; done) | skip
    simp only [RelV] at h1
    obtain ⟨i, hi, hf, hu⟩ := h1
    exact ⟨u, us', e, by simp only [RelV]; exact ⟨i, hρ _ _ hi, hf, hu⟩, ptrs_rel hρ hp h2⟩
def deferOf (N : Nat) (K : List Nat) (c : Cfg) : Option (FuncId × List V) := match c.td with
  | .ops all (o :: _) :: _ => match gd N c.sl all o, o.op with
    | some true, .defer cl => match cl.callee, cl.args.toList with
      | .value f, [] => match evalV N c.sl f with
        | .fn g [] cap => match refsIns K cap, allBox (obGet c.ob) K, noFrn c.ob, ptrsOnly cap with | true, true, true, true => some (g, cap) | _, _, _, _ => none
        | _ => none
      | _, _ => none
    | _, _ => none
  | _ => none
section
variable {P : Program} {N : Nat} {fn : Func} {v : Option V} {w0 : World} {M00 : Mem} {Ds : List Nat} {c : Cfg} {hr : Rho} {base : List Deferred} {g : FuncId} {cap : List V}
theorem J_defer (K : List Nat) (hN : Nat.ble N 1024 = true) (hd : deferOf N K c = some (g, cap)) (hk : ∀ hr base, DoorOk P K g cap hr base → J none P N (dfsB base []) (finD P fn v w0 M00 hr []) (after N c .undef [])) : J none P N (dfs []) (finD P fn v w0 M00 noR []) c := by
  refine ⟨nb_le hN, fun S wl M0 hH M ρ f w ha => ?_⟩
  unfold deferOf at hd
  split at hd
  case h_2 => cases hd
  rename_i all o rest k ht
  split at hd
  case h_2 => cases hd
  rename_i cl hg hop
  split at hd
  case h_2 => cases hd
  rename_i fop hcal hargs
  split at hd
  case h_2 => cases hd
  rename_i g' cap' hfv
  split at hd
  case h_2 => cases hd
  rename_i hrf hbx hnf hpo
  cases hd
  have hfe := evalV_rel (ds := dfs []) ha fop
  rw [hfv] at hfe
  simp only [RelV] at hfe
  obtain ⟨fs, cs, hfe, h1, h2⟩ := hfe
  simp only [RelVs] at h1
  subst h1
  have hcap : RelVs M (keepR K ρ) cap cs := refs_rels cap hrf h2
  have hdoor : DoorOk P K g cap (keepR K ρ) [{ target := .fn (.func g) cs.toArray, args := #[] }] := by
    refine ⟨fun q i hi => ?_, fun q hm => ?_, cs, rfl, fun M2 ρ2 h => ?_⟩
    · obtain ⟨hm, hi⟩ := keepR_some hi
      obtain ⟨⟨te, cs, hb⟩, hbig⟩ := allBox_spec hbx hm
      obtain ⟨j, hj, hok⟩ := ha.ow.own q _ hb
      rw [hi] at hj; cases hj
      exact ⟨hok.1, hbig, hm⟩
    · obtain ⟨⟨te, cs, hb⟩, _⟩ := allBox_spec hbx hm
      obtain ⟨j, hj, _⟩ := ha.ow.own q _ hb
      exact ⟨j, by rw [keepR_in hm]; exact hj⟩
    · exact ptrs_rel h hpo hcap
  have hJ := hk _ _ hdoor
  rw [ht]
  simp only [Wk, Exit.then]
  refine L_wp (gd_spec ha hg) ⟨fun _ _ => trivial, ?_⟩
  have hexec : (o.semAt (WF none).round (fr N f (dfs [])).eval).run P w = .ok (.defer { target := .fn (.func g) cs.toArray, args := #[] }) w := by
    show (Oper.semAt none _ o).run P w = _
    rw [Oper.semAt_none]
    obtain ⟨callee, args, tys⟩ := cl
    simp only at hcal hargs
    subst hcal
    have hargs : args = #[] := by cases args; simp_all
    subst hargs
    simp [execOp, hop, resolve, Deferred.ofValue, hfe]
  rw [hexec]
  obtain ⟨hb1, _⟩ := HM_base hH.2 ha.ow (noFrnP hnf)
  have hb2 := ha.ow.base (r0 := keepR K ρ) M.le_refl ha.ow.sits (Nat.le_refl _) (fun k hk => ⟨rfl, rfl⟩) (fun q i hq _ => absurd hq (noFrnP hnf q q)) (fun q z hq => absurd hq (noFrnP hnf q z)) (fun q i _ hi => (keepR_some hi).2) ha.ow.szw
  rw [after_eq ht] at hJ
  have := hJ.2 ⟨TA ρ (obGet c.ob), keepR K ρ⟩ w M ⟨rfl, hb1⟩ M ρ _ w (putS_abs (c := c) ⟨hb2, ha.ok, ha.sl⟩ (nb_le hN) (Rle.refl _ _) (ob' := c.ob) hb2 (v := .undef) (u := undef) (relV_undef _) o.dst (.ops all rest :: k))
  simp only [Wk, Exit.then] at this
  show L none P all.toArray _ rest (Act.put { (fr N f (dfs [])) with defers := { target := .fn (.func g) cs.toArray, args := #[] } :: (fr N f (dfs [])).defers } o.dst undef) w
  have e : ({ (fr N f (dfs [])) with defers := { target := .fn (.func g) cs.toArray, args := #[] } :: (fr N f (dfs [])).defers } : Act) = fr N f (dfsB [{ target := .fn (.func g) cs.toArray, args := #[] }] []) := rfl
  rw [e, fr_putd]
  exact this
theorem door_call {K : List Nat} {w : World} (he : entersT P g) (vals : List Value) : (invoke (.fn (.func g) vals.toArray) #[]).run P w = .ok (.enter g vals.toArray) w := by
  have := he vals.toArray w
  simpa [invoke] using this
/-- A return: the deferred closure finds no panic. -/
theorem J_retD {rs : List ResultVar} {xs : List V} {v : V} (K : List Nat) (ys : List V) (hdo : DoorOk P K g cap hr base) (hdef : DefR P K g cap) (he : entersT P g) (hfn : fn.results = rs.toArray) (hN : Nat.ble N 1024 = true) (hv : retOf P N c rs = some xs) (hre : Res' xs ys) (hy : tupV ys = v) (hn : noFrn c.ob = true) : J none P N (dfsB base Ds) (finD P fn (some v) w0 M00 hr Ds) c := by
  refine ⟨nb_le hN, fun S wl M0 hH M ρ f w h => ?_⟩
  unfold retOf at hv
  split at hv
  case h_2 => cases hv
  rename_i hat
  split at hv
  case h_2 => cases hv
  rename_i vs hvs
  split at hv
  case h_2 => cases hv
  rename_i xs' wr hx
  cases hv
  obtain ⟨d1, d2, vals, rfl, d3⟩ := hdo
  have hρ : ∀ q i, hr q = some i → keepR K ρ q = some i := fun q i hi => by
    obtain ⟨hf, hb, hm⟩ := d1 q i hi
    obtain ⟨j, hj, hle⟩ := h.ow.held q i hb (by rw [show S.r0 = hr from hH.1]; exact hi)
    obtain rfl := hle.2.2 hf
    rw [keepR_in hm]; exact hj
  have hbase : ∀ S w, HM w0 M00 [] S w M → Ow S w M M ρ (obGet c.ob) w → LeavesInM (WF none) 0 P fn (fr N f []).tmps (RetD w0 M00 v) [{ target := .fn (.func g) vals.toArray, args := #[] }] .returning w := fun S w h1 h2 => by
    refine ⟨(fun e => by cases e), .inr ⟨fun h => (by cases h), .func g, vals.toArray, g, vals.toArray, rfl, door_call (K := K) he vals, fun _ _ => trivial, CallsDIn.mono (hdef M (keepR K ρ) w vals h2.sits h2.gla (fun q hm => ?_) (fun q i hi => (keepR_some hi).1) (d3 M _ hρ)) ?_⟩⟩
    · obtain ⟨i, hi⟩ := d2 q hm
      exact ⟨i, hρ q i hi⟩
    · rintro e u' w' ⟨rfl, ⟨v', rfl⟩, M', hext⟩
      obtain ⟨h3, h4⟩ := h2.call hext
      exact ret_read (S := S) hfn hvs hx hre hy h1 ⟨h4, h.ok, fun t ht => RelV.mono h3 _ (h.sl t ht)⟩
  have key : bodyPostM (WF none) 0 P fn (RetD w0 M00 v) .ret (fr N f (dfsB [{ target := .fn (.func g) vals.toArray, args := #[] }] Ds)) w :=
    pop_marks (tmps := (fr N f []).tmps) (by intro e; cases e) (noFrn_spec hn) hbase Ds S wl w M0 hH.2 h.ow
  unfold atRet at hat
  split at hat
  · rename_i ht
    rw [ht]
    exact W_ret (Wk_ret _ hat key)
  · rename_i ht
    rw [ht]
    exact key
  · cases hat

/-! ### A panic at the door -/
def Tri.okB : Nat → Tri → Bool
  | _, .e => true
  | d, .lf _ => Nat.beq d 0
  | 0, .nd _ _ => false
  | d + 1, .nd l r => match l.okB d with | true => r.okB d | false => false
theorem Tri.okB_spec : ∀ (d : Nat) (t : Tri), t.okB d = true → t.ok d
  | d, .e, _ => by cases d <;> trivial
  | d, .lf v, h => by
    have h : Nat.beq d 0 = true := by cases d <;> exact h
    obtain rfl := Nat.eq_of_beq_eq_true h
    rfl
  | 0, .nd _ _, h => by cases h
  | d + 1, .nd l r, h => by
    unfold Tri.okB at h
    split at h
    · rename_i h1; exact ⟨Tri.okB_spec d l h1, Tri.okB_spec d r h⟩
    · cases h
/-- Other numbers; what the closure has caught keeps its own. -/
def keepsK (p : List (Nat × Nat)) : List Nat → Bool
  | [] => true
  | q :: l => match lk (inv p) q with | some t => (match Nat.beq t q with | true => keepsK p l | false => false) | none => false
theorem keepsK_spec {p : List (Nat × Nat)} : ∀ {l : List Nat} {q : Nat}, keepsK p l = true → memN q l = true → lk (inv p) q = some q
  | [], _, _, h => by cases h
  | k :: l, q, hb, h => by
    unfold keepsK at hb
    split at hb
    · rename_i t ht
      split at hb
      · rename_i he
        unfold memN at h
        split at h
        · rename_i h1
          obtain rfl := Nat.eq_of_beq_eq_true h1
          rw [ht, Nat.eq_of_beq_eq_true he]
        · exact keepsK_spec hb h
      · cases hb
    · cases hb
theorem J_renH {r : Option Nat} {ds : List Deferred} {K : List Nat} (hdo : DoorOk P K g cap hr base) (p : List (Nat × Nat)) (hkk : keepsK p K = true) (hb : bij p = true) (ha : allIn p (obGet c.ob) p = true) (hn : noFrn c.ob = true) (hk : J r P N ds (finD P fn v w0 M00 hr Ds) ⟨mapTri (renV p) c.sl, renL p (obGet c.ob) p, c.td⟩) : J r P N ds (finD P fn v w0 M00 hr Ds) c :=
  J_renD p (fun t i hi => keepsK_spec hkk (hdo.1 t i hi).2.2) hb ha hn hk
def wipeO : IObj → IObj
  | .box te cs => .box te (cs.map fun _ => .undef)
  | o => o
def wipe : List (Nat × IObj) → List (Nat × IObj)
  | [] => []
  | (q, o) :: l => (q, wipeO o) :: wipe l
theorem wipe_get : ∀ (l : List (Nat × IObj)) (q : Nat), obGet (wipe l) q = match obGet l q with | some o => some (wipeO o) | none => none
  | [], q => rfl
  | (k, o) :: l, q => by
    have ih := wipe_get l q
    simp only [wipe, obGet]
    cases h : Nat.beq q k with
    | true => rfl
    | false => exact ih
theorem undefs_rel {M : Mem} {ρ : Rho} : ∀ {cs : List V} {us : List Value}, RelVs M ρ cs us → RelVs M ρ (cs.map fun _ => .undef) us
  | [], us, h => h
  | x :: xs, us, h => by
    simp only [List.map_cons, RelVs] at h ⊢
    obtain ⟨u, us', e, _, h2⟩ := h
    exact ⟨u, us', e, relV_undef _, undefs_rel h2⟩
theorem wipe_live {i : Inf} {o : IObj} : live i (wipeO o) = live i o := by cases o <;> rfl
theorem Ow.wipe {S : Hand} {wl w : World} {M0 M : Mem} {ρ : Rho} {l : List (Nat × IObj)} (h : Ow S wl M0 M ρ (obGet l) w) : Ow S wl M0 M ρ (obGet (wipe l)) w := by
  have hg : ∀ {q o}, obGet (Kx.wipe l) q = some o → ∃ o', obGet l q = some o' ∧ o = wipeO o' := fun {q o} hq => by
    rw [wipe_get] at hq
    split at hq
    · rename_i o' ho; cases hq; exact ⟨o', ho, rfl⟩
    · cases hq
  refine ⟨h.size, h.os, h.tape, h.output, h.old, h.sits, h.le, h.gl, h.new, fun q o hq => ?_, fun q i hi => ?_, fun q q' o o' i i' h1 h2 h3 h4 l1 l2 hbb => ?_, h.held⟩
  · obtain ⟨o', ho, rfl⟩ := hg hq
    obtain ⟨i, hi, hok⟩ := h.own q o' ho
    refine ⟨i, hi, ?_⟩
    cases o' with
    | box te cs => obtain ⟨a1, a2, us, e, a3, a4, a5⟩ := hok; exact ⟨a1, a2, us, e, a3, undefs_rel a4, a5⟩
    | _ => exact hok
  · obtain ⟨o, ho⟩ := h.dom q i hi
    exact ⟨wipeO o, by rw [wipe_get, ho]⟩
  · obtain ⟨p, hp, rfl⟩ := hg h1
    obtain ⟨p', hp', rfl⟩ := hg h2
    rw [wipe_live] at l1 l2
    exact h.inj q q' p p' i i' hp hp' h3 h4 l1 l2 hbb
theorem JP_D {sl : Tri} {ob obs os' : List (Nat × IObj)} {rs : List ResultVar} {vs xs : List V} {wr : Wr} {v : V} (K : List Nat) (ys : List V) (hdo : DoorOk P K g cap hr base) (hdef : DefP P g cap (wipe obs) os') (he : entersT P g) (hK : allBigL K = true) (hn : noFrn ob = true) (hn' : noFrn obs = true) (hp : pos K (obGet ob) K = some obs) (hfn : fn.results = rs.toArray)
    (hv : retV P N ⟨mapTri (onlyV K) sl, os', []⟩ rs = some vs) (hx : argsOf (obGet os') vs = some (xs, wr)) (hre : Res' xs ys) (hy : tupV ys = v) (hsl : (mapTri (onlyV K) sl).okB 10 = true) : JP N (dfsB base Ds) (finD P fn (some v) w0 M00 hr Ds) sl ob := by
  intro S wl M0 hH r1 M ρ w f t u hr1 h hsl0
  obtain ⟨d1, d2, vals, rfl, d3⟩ := hdo
  have hρ : ∀ q i, hr q = some i → rhoK K ρ q = some i := fun q i hi => by
    obtain ⟨hf, hb, hm⟩ := d1 q i hi
    obtain ⟨o, ho⟩ := (pos_get hp).2 q hm
    obtain ⟨j, hj, hle⟩ := h.held q i hb (hr1 q i (by rw [show S.r0 = hr from hH.1]; exact hi) (by obtain ⟨_, x, hx, _⟩ := prune_live hp ho; exact ⟨x, hx⟩))
    obtain rfl := hle.2.2 hf
    rw [rhoK_some hm hj]
    have : gK q j.g = j.g := by simp [gK, hb]
    rw [this]
  have hbase : ∀ S w, HM w0 M00 [] S w M → Ow S w M M ρ (obGet ob) w → LeavesInM (WF none) 0 P fn (fr N f []).tmps (RetD w0 M00 v) [{ target := .fn (.func g) vals.toArray, args := #[] }] (.panicking [{ v := .iface t u, recovered := false }]) w := fun S w h1 h2 => by
    have h3 := ((h2.less (r1 := noR) (noFrnP hn) (fun _ _ h => by cases h)).prune0 (ids := K) (fun _ _ _ h => by cases h) hp).wipe
    have hnw : ∀ q z, obGet (wipe obs) q ≠ some (.frn z) := fun q z hq => by
      rw [wipe_get] at hq
      split at hq
      · rename_i o ho
        cases o <;> simp [wipeO] at hq
        exact noFrnP hn' q _ ho
      · cases hq
    have h4 := h3.base (r0 := rhoK K ρ) M.le_refl h3.sits (Nat.le_refl _) (fun k hk => ⟨rfl, rfl⟩) (fun q i hq _ => absurd hq (hnw q q)) (fun q z hq => absurd hq (hnw q z)) (fun _ _ _ h => h) h3.szw
    obtain ⟨h5, _⟩ := HM_base (S := ⟨S.s, noR⟩) h1 h3 hnw
    refine ⟨(fun e => by cases e), .inr ⟨fun h => (by cases h), .func g, vals.toArray, g, vals.toArray, rfl, door_call (K := K) he vals, fun _ _ => trivial, CallsDIn.mono (hdef _ w M M (rhoK K ρ) w vals t u h4 (d3 M _ hρ)) ?_⟩⟩
    rintro e u' w' ⟨rfl, ⟨v', rfl⟩, M', ρ', h6⟩
    refine ret_read (S := ⟨_, rhoK K ρ⟩) (c := ⟨mapTri (onlyV K) sl, os', []⟩) hfn hv hx hre hy h5 ⟨h6, Tri.okB_spec 10 _ hsl, fun t ht => ?_⟩
    dsimp only
    rw [mapTri_get (onlyV_undef K)]
    unfold onlyV
    split
    · rename_i hrf
      refine RelV.mono ⟨h6.le, fun q i hi => ?_⟩ _ (refs_rel _ hrf (hsl0 t ht))
      obtain ⟨hm, hi⟩ := keepR_some hi
      have hb := allBigL_spec hK hm
      have e : rhoK K ρ q = some i := by
        rw [rhoK_some hm hi]
        have : gK q i.g = i.g := by simp [gK, hb]
        rw [this]
      exact h6.held q i hb e
    · exact relV_undef _
  exact pop_marks (tmps := (fr N f []).tmps) (by intro e; cases e) (noFrn_spec hn) hbase Ds ⟨S.s, r1⟩ wl w M0 hH.2 h
end
end Go.Proofs.YtilfjfpemjfalaaGreatDoor.Kx
