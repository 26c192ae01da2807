/- Panics: calls that end so, and the ways by which a panic leaves a function. -/
import Derived.Test.YtilfjfpemjfalaaGreatDoorRt
namespace Go.Proofs.YtilfjfpemjfalaaGreatDoor.Kx
open Go Go.RowKit

/-- What an iterator does between two rounds: its own blocks T, and new ones. -/
structure ItStep (T : Nat → Prop) (M : Mem) (w : World) (T' : Nat → Prop) (M' : Mem) (w' : World) : Prop where
  size : w.heap.size ≤ w'.heap.size
  os : w'.os = w.os
  tape : w'.tape = w.tape
  output : w'.output = w.output
  old : ∀ k, k < w.heap.size → ¬ T k → w'.heap[k]? = w.heap[k]?
  le : M.le M'
  sits : Sits M' w'
  new : ∀ b c, M' b = some c → b < w.heap.size → M b = some c ∨ T b
  grow : ∀ b, T' b → T b ∨ w.heap.size ≤ b
  own : ∀ b, T' b → b < w'.heap.size
section
variable {S : Hand} {wl w w' : World} {M0 M M' : Mem} {ρ : Rho} {ob : Nat → Option IObj}
/-- The blocks of all live objects. -/
def TA (ρ : Rho) (ob : Nat → Option IObj) : Nat → Prop := fun b => ∃ r i o, ρ r = some i ∧ ob r = some o ∧ live i o ∧ i.b = b
theorem TA_mine (h : Ow S wl M0 M ρ ob w) {b : Nat} (hb : TA ρ ob b) : (S b ∨ wl.heap.size ≤ b) ∧ b < w.heap.size := by
  obtain ⟨r, i, o, h2, h3, h4, rfl⟩ := hb
  obtain ⟨i', h5, h6⟩ := h.own r o h3
  rw [h2] at h5; cases h5
  exact live_mine h6 h4
theorem Ow.step (h : Ow S wl M0 M ρ ob w) : ItStep S.s M0 wl (TA ρ ob) M w :=
  ⟨h.size, h.os, h.tape, h.output, h.old, h.le, h.sits, h.new, fun _ hb => (TA_mine h hb).1, fun _ hb => (TA_mine h hb).2⟩
/-- The iterator has gone on. -/
theorem Ow.it {T T' : Nat → Prop} {M' : Mem} {w' : World} (h : Ow S wl M0 M ρ ob w) (k : ItStep T M w T' M' w') (hT : ∀ b, T b → ¬ TA ρ ob b ∧ (S b ∨ wl.heap.size ≤ b)) :
    Ow S wl M0 M' ρ ob w' ∧ ∀ b, T' b → ¬ TA ρ ob b ∧ (S b ∨ wl.heap.size ≤ b) := by
  have hr : Rle M M' ρ ρ := ⟨k.le, fun _ j hj => ⟨j, hj, Ile.refl j⟩⟩
  refine ⟨⟨Nat.le_trans h.size k.size, k.os.trans h.os, k.tape.trans h.tape, k.output.trans h.output, fun b hb hS => ?_, k.sits, Mem.le_trans h.le k.le, h.gl.mono k.le, fun b c hb hlt => ?_, fun q o hq => ?_, h.dom, h.inj, h.held⟩, fun b hb => ?_⟩
  · rw [k.old b (by have := h.size; omega) (fun ht => (hT b ht).2.elim hS (fun hl => by omega))]; exact h.old b hb hS
  · rcases k.new b c hb (by have := h.size; omega) with h1 | h1
    · exact h.new b c h1 hlt
    · exact (hT b h1).2.elim .inr (fun hl => by omega)
  · obtain ⟨i, h1, h2⟩ := h.own q o hq
    have hTA : live i o → TA ρ ob i.b := fun hl => ⟨q, i, o, h1, hq, hl, rfl⟩
    refine ⟨i, h1, h2.mono hr (fun hl => ?_) (fun hl => k.old _ (live_mine h2 hl).2 (fun ht => (hT _ ht).1 (hTA hl)))⟩
    cases hm : M' i.b with
    | none =>
      cases hm0 : M i.b with
      | none => rfl
      | some c => obtain ⟨c', h3, _⟩ := k.le _ _ hm0; rw [hm] at h3; cases h3
    | some c =>
      rcases k.new _ _ hm (live_mine h2 hl).2 with h3 | h3
      · exact h3.symm
      · exact absurd (hTA hl) (hT _ h3).1
  · rcases k.grow b hb with h1 | h1
    · exact hT b h1
    · refine ⟨fun hta => ?_, .inr (Nat.le_trans h.size h1)⟩
      have := (TA_mine h hta).2
      omega
end

/-- An end by one panic, whose value is not nil. -/
def panE (e : Ending) : Prop := ∃ t u, e = .panicked [{ v := .iface t u, recovered := false }]
def PanD (wl : World) (M0 : Mem) : Ending → World → Prop := fun e w' => panE e ∧ ∃ M', Ext M0 M' wl w'
/-- A function that panics. -/
def CallP (P : Program) (g : FuncId) (args : List V) : Prop := ∀ M w vals, Sits M w → GlA M w → RelVs M noR args vals → Calls P g vals.toArray w (PanD w M)
/-- A function that hands back data, or panics. -/
def CallO (P : Program) (g : FuncId) (args : List V) : Option V → Prop
  | some v => CallF P g args v
  | none => CallP P g args
/-- The same, where objects are handed in: they are lost. -/
def CallRP (P : Program) (g : FuncId) (os : List (Nat × IObj)) (args : List V) : Prop :=
  ∀ s wl M0 M ρ w vals, Ow ⟨s, ρ⟩ wl M0 M ρ (obGet os) w → RelVs M ρ args vals → Calls P g vals.toArray w (fun e w' => panE e ∧ ∃ M', ItStep s M0 wl (fun _ => False) M' w')
def CallRO (P : Program) (g : FuncId) (os : List (Nat × IObj)) (args : List V) : Option (List (Nat × IObj) × V) → Prop
  | some (H, v) => CallR P g os args H v
  | none => CallRP P g os args

section
variable {r : Option Nat} {P : Program} {N : Nat} {ds : List Deferred} {fin : Fin} {c : Cfg}
theorem Wk_pan {fin' : Exit → Act → World → Prop} {a : Act} {w : World} {ch : List PanicEntry} : ∀ (k : List It), noBeg k = true → fin' (.panic ch) a w → Wk r P fin' k (.panic ch) a w
  | [], _, h => h
  | .begR _ :: _, hn, _ => by cases hn
  | .code _ :: k, hn, h => by simp only [Wk, Exit.then]; exact Wk_pan k hn h
  | .inBlock _ :: k, hn, h => by simp only [Wk, Exit.inBlock]; exact Wk_pan k hn h
  | .inLoop _ :: k, hn, h => by simp only [Wk, Exit.then]; exact Wk_pan k hn h
  | .inScope :: k, hn, h => by simp only [Wk, Exit.noGoto]; exact Wk_pan k hn h
  | .ops _ _ :: k, hn, h => by simp only [Wk, Exit.then]; exact Wk_pan k hn h
/-- A panic leaves the frame: the slots and the objects that are known then. -/
def JP (N : Nat) (ds : List Deferred) (fin : Fin) (sl : Tri) (ob : List (Nat × IObj)) : Prop :=
  ∀ S wl M0, fin.H S wl M0 → ∀ r1 M ρ w f t u, (∀ q i, S.r0 q = some i → (∃ o, obGet ob q = some o) → r1 q = some i) → Ow ⟨S.s, r1⟩ wl M0 M ρ (obGet ob) w → (∀ t, t < N → RelV M ρ (sl.get 10 t) (f t)) → fin S wl M0 (.panic [{ v := .iface t u, recovered := false }]) (fr N f ds) w
def panOf (N : Nat) (c : Cfg) : Bool := match c.td with
  | .ops all (o :: _) :: k => match gd N c.sl all o, o.op, noBeg k with
    | some true, .panic x, true => match evalV N c.sl x with | .d (.ife b) => b | _ => false
    | _, _, _ => false
  | _ => false
theorem J_pan (hN : Nat.ble N 1024 = true) (h : panOf N c = true) (hk : JP N ds fin c.sl c.ob) : J r P N ds fin c := by
  refine ⟨nb_le hN, fun S wl M0 hH M ρ f w ha => ?_⟩
  unfold panOf at h
  split at h
  · rename_i all o rest k ht
    split at h
    · rename_i x hg hop hb
      split at h
      · rename_i b hv
        subst h
        have hr := evalV_rel (ds := ds) ha x
        rw [hv] at hr
        have hr := relV_d hr
        rw [ht]
        simp only [Wk, Exit.then]
        refine L_wp (gd_spec ha hg) ⟨fun _ _ => trivial, ?_⟩
        rw [show (WF r).round = r from rfl, sem_plain (by rw [hop]; rfl)]
        obtain ⟨t, u, he⟩ : ∃ t u, (fr N f ds).eval x = .iface t u := by
          generalize (fr N f ds).eval x = v at hr
          cases hr with
          | ifc t u => exact ⟨t, u, rfl⟩
        have hp : (Instr.panic (.iface t u)).run P w = .halt (.panic (.iface t u)) w := rfl
        have : (execOp (fr N f ds).eval o).run P w = .halt (.panic (.iface t u)) w := by simp [execOp, hop, he, hp]
        rw [this]
        exact Wk_pan k hb (hk S wl M0 hH S.r0 M ρ w f t u (fun _ _ h _ => h) ha.ow ha.sl)
      · cases h
    · cases h
  · cases h

theorem wp_of_callQ {a : Act} {w : World} {Q : Exit → Act → World → Prop} {o : Oper} {g : FuncId} {args : Array Value} {w₁ : World} {R : Ending → World → Prop} {K : Act → World → Prop} (hd : isDefer o.op = false) (h : (execOp a.eval o).run P w = .ok (.enter g args) w₁)
    (hc : Calls P g args w₁ R) (k : ∀ e w', R e w' → ∃ ch, e = .panicked ch ∧ Q (.panic ch) a w') : o.wpIn (WF r) 0 P a w K Q := by
  refine ⟨fun _ _ => trivial, ?_⟩
  rw [show (WF r).round = r from rfl, sem_plain hd, h]
  refine ⟨fun h => (by cases h), CallsIn.mono (calls_in (r := r) hc) ?_⟩
  intro e w' he
  obtain ⟨ch, rfl, hk⟩ := k e w' he
  exact hk
theorem call_effQ {a : Act} {w : World} {o : Oper} {ob : Nat → Option IObj} {d : Nat} {ty : TypeId} {ev : Operand → V} {g : FuncId} {args : List V} {M : Mem} {ρ : Rho} (hc : evOp P ob d ty ev o.op = .call g args) (hev : ∀ x, RelV M ρ (ev x) (a.eval x)) (he : entersT P g) :
    ∃ vals : List Value, RelVs M ρ args vals ∧ ∀ (R : Ending → World → Prop) (K : Act → World → Prop) (Q : Exit → Act → World → Prop), Calls P g vals.toArray w R → (∀ e w', R e w' → ∃ ch, e = .panicked ch ∧ Q (.panic ch) a w') → o.wpIn (WF r) 0 P a w K Q := by
  obtain ⟨f, as, tys, fs, cs, hop, hfe, hr⟩ := call_is hc hev
  refine ⟨_, hr, fun R K Q hcall hk => wp_of_callQ (w₁ := w) (by rw [hop]; rfl) ?_ hcall hk⟩
  have he' := he (fs ++ as.toList.map a.eval ++ cs).toArray w
  have hm : as.map a.eval = (as.toList.map a.eval).toArray := by rw [← List.map_toArray]
  simp only [List.append_assoc] at he'
  simp [execOp, hop, resolve, Deferred.ofValue, hfe, invoke, hm, he']
def obC (P : Program) (N : Nat) (c : Cfg) : List (Nat × IObj) := match evNow P N c with
  | .call _ args => match argsOf (obGet c.ob) args with | some (_, wr) => obWr c.ob wr | none => c.ob
  | _ => c.ob
def begOk (c : Cfg) : Bool := match c.td with | _ :: k => noBeg k | [] => false
theorem J_callP {g : FuncId} {xs : List V} (ys : List V) (hN : Nat.ble N 1024 = true) (hc : callOf P N c = some (g, xs)) (he : entersT P g) (hre : Res' xs ys) (hb : begOk c = true) (hcall : CallP P g ys) (hk : JP N ds fin c.sl (obC P N c)) : J r P N ds fin c := by
  unfold callOf at hc
  split at hc
  · rename_i g' args hev
    split at hc
    · rename_i xs' wr hargs
      cases hc
      obtain ⟨op, all, rest, k', ht, hg⟩ := evNow_is (P := P) (N := N) (c := c) (by rw [hev]; intro e; cases e)
      unfold obC at hk
      rw [hev] at hk
      simp only [hargs] at hk
      refine ⟨nb_le hN, fun S wl M0 hH M ρ f w ha => ?_⟩
      rw [evNow_ops ht hg] at hev
      have hb : noBeg k' = true := by unfold begOk at hb; rw [ht] at hb; exact hb
      rw [ht]
      simp only [Wk, Exit.then]
      obtain ⟨vals, h1, h2⟩ := call_effQ (r := r) (w := w) hev (evalV_rel (ds := ds) ha) he
      obtain ⟨M1, r1, o1, d1⟩ := argsOf_sound ha.ow h1 hargs
      refine L_wp (gd_spec ha hg) (h2 _ _ _ (hcall M1 w vals o1.sits o1.gla (hre.rel (d1 noR))) ?_)
      rintro e w' ⟨⟨t, u, rfl⟩, M2, hext⟩
      obtain ⟨h3, h4⟩ := o1.call hext
      rw [wrO_of] at h4
      exact ⟨_, rfl, Wk_pan k' hb (hk S wl M0 hH S.r0 M2 ρ w' f t u (fun _ _ h _ => h) h4 (fun t ht => RelV.mono (r1.trans h3) _ (ha.sl t ht)))⟩
    · cases hc
  · cases hc

/-! ### Objects that are lost -/
def restr (ids : List Nat) (ρ : Rho) : Rho := fun r => match memN r ids with | true => ρ r | false => none
theorem restr_some {ids : List Nat} {ρ : Rho} {r : Nat} {i : Inf} (h : restr ids ρ r = some i) : memN r ids = true ∧ ρ r = some i := by
  unfold restr at h
  split at h
  · rename_i hm; exact ⟨hm, h⟩
  · cases h
theorem Ow.less {S : Hand} {wl w : World} {M0 M : Mem} {ρ r1 : Rho} {ob : Nat → Option IObj} (h : Ow S wl M0 M ρ ob w) (hn : ∀ q z, ob q ≠ some (.frn z)) (hr : ∀ q i, r1 q = some i → S.r0 q = some i) : Ow ⟨S.s, r1⟩ wl M0 M ρ ob w := by
  refine ⟨h.size, h.os, h.tape, h.output, h.old, h.sits, h.le, h.gl, h.new, fun q o hq => ?_, h.dom, h.inj, fun q i hb hi => h.held q i hb (hr q i hi)⟩
  obtain ⟨i, hi, hok⟩ := h.own q o hq
  refine ⟨i, hi, ?_⟩
  cases o with
  | frn z => exact absurd hq (hn q z)
  | box te cs => exact hok
  | buf g e sz es => exact hok
  | fzs g sz es => exact hok
  | fzb cs => exact hok
  | mapo kk ag sz es => exact hok
  | raw b x => exact hok
/-- The objects ids alone are kept; the blocks of all others may be turned. -/
theorem Ow.lose {S : Hand} {wl w w' : World} {M0 M M' : Mem} {ρ : Rho} {ob : Nat → Option IObj} {ids K : List Nat} {obs : List (Nat × IObj)} (h : Ow S wl M0 M ρ ob w) (hn : ∀ q z, ob q ≠ some (.frn z)) (hp : pos ids ob ids = some obs) (hd : ∀ q, memN q ids = true → memN q K = true → False)
    {T' : Nat → Prop} (k : ItStep (SK K ρ ob) M w T' M' w') : Ow ⟨S.s, restr ids S.r0⟩ wl M0 M' (rhoK ids ρ) (obGet obs) w' := by
  have h1 := (h.less (r1 := restr ids S.r0) hn (fun q i hq => (restr_some hq).2)).prune0 (ids := ids) (fun q i _ hq => (restr_some hq).1) hp
  refine (h1.it k fun b hb => ⟨fun hta => ?_, (SK_mine h hb).1⟩).1
  obtain ⟨q, i, o, hm, hi, ho, hl, rfl⟩ := hb
  obtain ⟨q', i', o', hi', ho', hl', hbb⟩ := hta
  obtain ⟨hm', x, hx, hlx⟩ := prune_live hp ho'
  unfold rhoK at hi'
  rw [hm'] at hi'
  dsimp only at hi'
  cases hρ : ρ q' with
  | none => rw [hρ] at hi'; cases hi'
  | some j =>
    rw [hρ] at hi'
    cases hi'
    have := h.inj q' q x o j i hx ho hρ hi (hlx j hl') hl hbb
    subst this
    exact hd _ hm' hm
def obL (P : Program) (N : Nat) (c : Cfg) (p : List (Nat × Nat)) (ids : List Nat) : Option (List (Nat × IObj)) := match evNow P N c with
  | .call _ args => match handOf (obGet c.ob) p args with
    | some (_, _, wr) => match noFrn (obWr c.ob wr), disj ids (firsts p) with
      | true, true => pos ids (obGet (obWr c.ob wr)) ids
      | _, _ => none
    | none => none
  | _ => none
def slL (P : Program) (N : Nat) (c : Cfg) (p : List (Nat × Nat)) (keep ids : List Nat) : Tri := match evNow P N c with
  | .call _ args => match handOf (obGet c.ob) p args with
    | some (_, _, wr) => mkT (keepS N ids (obGet (obWr c.ob wr)) c.sl keep)
    | none => .e
  | _ => .e
theorem noFrnP {l : List (Nat × IObj)} (h : noFrn l = true) : ∀ q z, obGet l q ≠ some (.frn z) := by
  induction l with
  | nil => intro q z h; cases h
  | cons x l ih =>
    obtain ⟨r, o⟩ := x
    intro q z hx
    unfold noFrn at h
    split at h
    · cases h
    · rename_i hf
      simp only [obGet] at hx
      split at hx
      · cases hx; cases hf
      · exact ih h q z hx
theorem J_callRP {g : FuncId} {os obs : List (Nat × IObj)} {xs : List V} (p : List (Nat × Nat)) (ys : List V) (keep ids : List Nat) (hl : allLt N keep = true) (hN : Nat.ble N 1024 = true) (hc : callROf P N c p = some (g, os, xs)) (he : entersT P g) (hre : Res' xs ys) (hb : begOk c = true) (hcall : CallRP P g os ys) (ho : obL P N c p ids = some obs) (hk : JP N ds fin (slL P N c p keep ids) obs) : J r P N ds fin c := by
  unfold callROf at hc
  split at hc
  · rename_i g' args hev
    split at hc
    · rename_i os' xs' wr hh
      cases hc
      obtain ⟨op, all, rest, k', ht, hg⟩ := evNow_is (P := P) (N := N) (c := c) (by rw [hev]; intro e; cases e)
      unfold obL at ho
      unfold slL at hk
      rw [hev] at ho hk
      simp only [hh] at ho hk
      split at ho
      · rename_i hnf hdj
        refine ⟨nb_le hN, fun S wl M0 hH M ρ f w ha => ?_⟩
        rw [evNow_ops ht hg] at hev
        have hb : noBeg k' = true := by unfold begOk at hb; rw [ht] at hb; exact hb
        rw [ht]
        simp only [Wk, Exit.then]
        obtain ⟨vals, h1, h2⟩ := call_effQ (r := r) (w := w) hev (evalV_rel (ds := ds) ha) he
        unfold handOf at hh
        split at hh
        · rename_i xs0 wr0 hargs hbij hbig
          split at hh
          · rename_i hcl
            cases hh
            obtain ⟨M1, r1, o1, d1⟩ := argsR_sound ha.ow h1 hargs
            have hp := o1.part (firsts p) (firsts p) (fun x o hm hx => closedAll_spec hcl x o hm hx)
            have eR : renR p (keepR (firsts p) ρ) = renR p ρ := by
              funext t
              unfold renR
              split
              · rename_i q hq
                exact keepR_in (memN_firsts.2 ⟨t, bij_of hbij hq⟩)
              · rfl
            have eO : renOb p (keepO (firsts p) (firsts p) (wrO (obGet c.ob) wr)) = renOb p (wrO (obGet c.ob) wr) := by
              funext t
              unfold renOb
              split
              · rename_i q hq
                rw [keepO_in (memN_firsts.2 ⟨t, bij_of hbij hq⟩) (memN_firsts.2 ⟨t, bij_of hbij hq⟩)]
              · rfl
            have hq := hp.ren (r1 := renR p ρ) hbij (fun q o t hq ho => by
              have hm := memN_firsts.2 ⟨t, hq⟩
              rw [keepO_in hm hm] at ho
              have := closedAll_spec hcl q o hm ho
              cases o <;> first | rfl | cases this) (fun t i _ hi => ⟨i, by rw [eR]; exact hi, Ile.refl i⟩)
            rw [eR, eO, ← osOf_eq hbij] at hq
            refine L_wp (gd_spec ha hg) (h2 _ _ _ (hcall _ _ _ _ _ w vals hq (hre.rel (ren_rels hbij _ d1))) ?_)
            rintro e w' ⟨⟨t, u, rfl⟩, M2, hst⟩
            refine ⟨_, rfl, Wk_pan k' hb ?_⟩
            rw [wrO_of] at o1 hst
            have h4 := o1.lose (K := firsts p) (noFrnP hnf) ho (fun q h5 h6 => by have := disj_spec hdj q (memN_spec h5); rw [h6] at this; cases this) hst
            refine hk S wl M0 hH _ _ _ w' f t u (fun q i hi ⟨o, ho'⟩ => ?_) h4 (fun t ht => mkT_rel (nb_le hN) _ (fun t v hm => ?_) t ht)
            · unfold restr
              rw [(prune_live ho ho').1]
              exact hi
            · obtain ⟨rfl, h7⟩ := keepS_mem hm
              have hlt := allLt_spec hl t h7
              refine ⟨hlt, RelV.mono ⟨hst.le, fun q i hi => ⟨i, hi, Ile.refl i⟩⟩ _ (pv_rel o1 _ ?_)⟩
              have := RelV.mono r1 _ (ha.sl t hlt)
              simp only [evalV, show Nat.blt t N = true by simpa [Nat.blt_eq] using hlt]
              exact this
          · cases hh
        · cases hh
      · cases ho
    · cases hc
  · cases hc

/-! ### Functions that a panic goes through -/
def finPan (P : Program) (fn : Func) : Fin := .mk (fun _ _ _ => True) fun S wl M0 e a w => (∀ b, ¬ S b) → bodyPost P fn (PanD wl M0) e a w
def finO (P : Program) (fn : Func) : Option V → Fin
  | some v => finF P fn v
  | none => finPan P fn
theorem JP_fin {fn : Func} {sl : Tri} {ob : List (Nat × IObj)} : JP N [] (finPan P fn) sl ob := fun S wl M0 _ r1 M ρ w f t u _ h _ hS =>
  ⟨rfl, ⟨t, u, rfl⟩, M, ⟨⟨h.os, h.tape, h.output, h.size, fun k hk => h.old k hk (hS k)⟩, h.le, h.sits, fun b c hb hlt => (h.new b c hb hlt).resolve_right (hS b)⟩⟩
theorem callO_of {fn : Func} {g : FuncId} {b : Code} {args : List V} {o : Option V} (hf : P.funcs[g]? = some fn) (hb : fn.body = some b) (hN : fn.ntmps = N) (hv : Nat.ble args.length N = true) (h : J none P N [] (finO P fn o) ⟨mkT (argT 0 args), [], [.code b]⟩) : CallO P g args o := by
  cases o with
  | some v => exact callF_of hf hb hN hv h
  | none =>
    intro M w vals hs hgl hr
    have hl := nb_le hv
    refine entry hf hb hN (by rw [hr.len]; exact hl) ?_
    refine W_mono (h.2 ⟨fun _ => False, noR⟩ w M trivial M noR (argf vals) w ⟨⟨Nat.le_refl _, rfl, rfl, rfl, fun _ _ _ => rfl, hs, M.le_refl, hgl.entry (fun _ _ _ h => h), fun _ _ h _ => .inl h, fun r o h => (by simp [obGet] at h), fun r i h => (by cases h), fun r r' o o' i i' h => (by simp [obGet] at h), fun r i _ h => (by cases h)⟩, mkT_ok _, mkT_rel h.1 _ (fun t v hm => ?_)⟩) (fun e a w hq => hq (fun _ h => h))
    obtain ⟨_, h2⟩ := argT_mem hm
    rw [Nat.sub_zero] at h2
    obtain ⟨u, h3, h4⟩ := hr.get h2
    exact ⟨Nat.lt_of_lt_of_le (List.getElem?_eq_some_iff.1 h2).1 hl, by unfold argf; rw [h3]; exact h4⟩
def finRPan (P : Program) (fn : Func) : Fin := .mk (fun _ _ _ => True) fun S wl M0 e a w => bodyPost P fn (fun e w' => panE e ∧ ∃ M', ItStep S.s M0 wl (fun _ => False) M' w') e a w
def finRO (P : Program) (fn : Func) : Option (List (Nat × IObj) × V) → Fin
  | some (H, v) => finR P fn H v
  | none => finRPan P fn
theorem JP_finR {fn : Func} {sl : Tri} {ob : List (Nat × IObj)} : JP N [] (finRPan P fn) sl ob := fun S wl M0 _ r1 M ρ w f t u _ h _ => by
  have := h.step
  exact ⟨rfl, ⟨t, u, rfl⟩, M, ⟨this.size, this.os, this.tape, this.output, this.old, this.le, this.sits, this.new, fun _ h => h.elim, fun _ h => h.elim⟩⟩
theorem callRO_of {fn : Func} {g : FuncId} {b : Code} {os : List (Nat × IObj)} {args : List V} {o : Option (List (Nat × IObj) × V)} (hf : P.funcs[g]? = some fn) (hb : fn.body = some b) (hN : fn.ntmps = N) (hv : Nat.ble args.length N = true) (h : J none P N [] (finRO P fn o) ⟨mkT (argT 0 args), os, [.code b]⟩) : CallRO P g os args o := by
  cases o with
  | some x => obtain ⟨H, v⟩ := x; exact callR_of hf hb hN hv h
  | none =>
    intro s wl M0 M ρ w vals ho hr
    have hl := nb_le hv
    refine entry hf hb hN (by rw [hr.len]; exact hl) ?_
    refine W_mono (h.2 ⟨s, ρ⟩ wl M0 trivial M ρ (argf vals) w ⟨ho, mkT_ok _, mkT_rel h.1 _ (fun t v hm => ?_)⟩) (fun e a w hq => hq)
    obtain ⟨_, h2⟩ := argT_mem hm
    rw [Nat.sub_zero] at h2
    obtain ⟨u, h3, h4⟩ := hr.get h2
    exact ⟨Nat.lt_of_lt_of_le (List.getElem?_eq_some_iff.1 h2).1 hl, by unfold argf; rw [h3]; exact h4⟩
end
end Go.Proofs.YtilfjfpemjfalaaGreatDoor.Kx
