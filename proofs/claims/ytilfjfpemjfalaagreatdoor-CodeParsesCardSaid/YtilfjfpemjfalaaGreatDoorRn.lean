/- The judgement's rules: look-ups, calls, bools, returns; contracts. -/
import Derived.Test.YtilfjfpemjfalaaGreatDoorRm
namespace Go.Proofs.YtilfjfpemjfalaaGreatDoor.Kx
open Go Go.RowKit

def noR : Rho := fun _ => none
/-- A call with data alone: what comes back is data; nothing that lay there is turned. -/
def CallF (P : Program) (g : FuncId) (args : List V) (v : V) : Prop :=
  ∀ M w vals, Sits M w → GlA M w → RelVs M noR args vals → Calls P g vals.toArray w (fun e w' => ∃ u M', e = .returned u ∧ Ext M M' w w' ∧ RelV M' noR v u)

/-- y says no more than x. -/
def Re (x y : V) : Prop := ∀ M ρ u, RelV M ρ x u → RelV M ρ y u
theorem Re.refl (x : V) : Re x x := fun _ _ _ h => h
theorem Re.nil (a b : Nat) : Re (.d (.sl a [])) (.d (.sl b [])) := fun M ρ u h => by
  obtain ⟨p, cap, rfl, _⟩ := relD_sl_slice (relV_d h)
  exact relV_d' relD_nil
theorem Re.esl (a b : Nat) : Re (.esl a) (.d (.sl b [])) := fun M ρ u h => by
  simp only [RelV] at h
  obtain ⟨p, rfl⟩ := h
  exact relV_d' relD_nil
/-- The same for lists. -/
def Res' : List V → List V → Prop
  | [], [] => True
  | x :: xs, y :: ys => Re x y ∧ Res' xs ys
  | _, _ => False
theorem Res'.refl : ∀ (l : List V), Res' l l
  | [] => trivial
  | x :: xs => ⟨Re.refl x, Res'.refl xs⟩
theorem Res'.rel {M : Mem} {ρ : Rho} : ∀ {xs ys : List V} {us : List Value}, Res' xs ys → RelVs M ρ xs us → RelVs M ρ ys us
  | [], [], _, _, h => h
  | x :: xs, y :: ys, us, h, hr => by
    simp only [RelVs] at hr ⊢
    obtain ⟨u, us', e, h1, h2⟩ := hr
    exact ⟨u, us', e, h.1 _ _ _ h1, Res'.rel h.2 h2⟩
  | [], _ :: _, _, h, _ => h.elim
  | _ :: _, [], _, h, _ => h.elim
theorem Re.agg {xs ys : List V} (h : Res' xs ys) : Re (.agg xs) (.agg ys) := fun M ρ u hr => by
  obtain ⟨us, rfl, h1⟩ := relV_agg hr
  exact mk_agg (h.rel h1)
theorem Re.tup {xs ys : List V} (h : Res' xs ys) : Re (.tup xs) (.tup ys) := fun M ρ u hr => by
  obtain ⟨us, rfl, h1⟩ := relV_tup hr
  simp only [RelV]
  exact ⟨us, rfl, h.rel h1⟩

section
variable {r : Option Nat} {P : Program} {N : Nat} {ds : List Deferred} {fin : Fin} {c : Cfg}

def isOps (N : Nat) (c : Cfg) : Option Oper := match c.td with
  | .ops all (o :: _) :: _ => match gd N c.sl all o with | some true => some o | _ => none
  | _ => none
theorem isOps_spec {o : Oper} (h : isOps N c = some o) : ∃ all rest k, c.td = .ops all (o :: rest) :: k ∧ gd N c.sl all o = some true := by
  unfold isOps at h
  split at h
  · rename_i all o' rest k ht
    split at h
    · rename_i hg; cases h; exact ⟨all, rest, k, ht, hg⟩
    · cases h
  · cases h
theorem evNow_ops {o : Oper} {all rest : List Oper} {k : List It} (ht : c.td = .ops all (o :: rest) :: k) (hg : gd N c.sl all o = some true) : evNow P N c = evOp P (obGet c.ob) (o.dst.getD 0) o.type (evalV N c.sl) o.op := by
  unfold evNow; rw [ht]; simp only [hg]
theorem evNow_is (h : evNow P N c ≠ .bad) : ∃ o all rest k, c.td = .ops all (o :: rest) :: k ∧ gd N c.sl all o = some true := by
  unfold evNow at h
  split at h
  · rename_i all o rest k ht
    split at h
    · rename_i hg; exact ⟨o, all, rest, k, ht, hg⟩
    · exact absurd rfl h
  · exact absurd rfl h
theorem after_eq {o : Oper} {all rest : List Oper} {k : List It} (ht : c.td = .ops all (o :: rest) :: k) (v : V) (wr : Wr) : after N c v wr = ⟨putS N c.sl o.dst v, obWr c.ob wr, .ops all rest :: k⟩ := by
  unfold after; rw [ht]

def opt1Of (P : Program) (N : Nat) (c : Cfg) : Option (Option (List Dat)) := match evNow P N c with | .opt1 o _ => some o | _ => none
def opt2Of (P : Program) (N : Nat) (c : Cfg) : Option (Option (List (List Dat))) := match evNow P N c with | .opt2 o _ => some o | _ => none
def res1 (P : Program) (N : Nat) (c : Cfg) (x : List Dat) : Cfg := match evNow P N c with | .opt1 _ k => after N c (k x).1 (k x).2 | _ => c
def res2 (P : Program) (N : Nat) (c : Cfg) (x : List (List Dat)) : Cfg := match evNow P N c with | .opt2 _ k => after N c (k x).1 (k x).2 | _ => c
theorem J_opt1 {o : Option (List Dat)} (x : List Dat) (ho : opt1Of P N c = some o) (hx : o = some x) (hk : J r P N ds fin (res1 P N c x)) : J r P N ds fin c := by
  unfold opt1Of at ho
  split at ho
  · rename_i o' k he
    cases ho
    obtain ⟨op, all, rest, k', ht, hg⟩ := evNow_is (P := P) (N := N) (c := c) (by rw [he]; intro e; cases e)
    unfold res1 at hk
    rw [he] at hk
    simp only [after_eq ht] at hk
    refine J_eff ht hg (fun S wl M0 M ρ f w ha => ?_) hk
    have := evOp_sound (r := r) (P := P) (a := fr N f ds) (op := op.op) (d := op.dst.getD 0) (ty := op.type) ha.ow (evalV_rel (ds := ds) ha)
    rw [← evNow_ops ht hg, he] at this
    exact this x hx
  · cases ho
theorem J_opt2 {o : Option (List (List Dat))} (x : List (List Dat)) (ho : opt2Of P N c = some o) (hx : o = some x) (hk : J r P N ds fin (res2 P N c x)) : J r P N ds fin c := by
  unfold opt2Of at ho
  split at ho
  · rename_i o' k he
    cases ho
    obtain ⟨op, all, rest, k', ht, hg⟩ := evNow_is (P := P) (N := N) (c := c) (by rw [he]; intro e; cases e)
    unfold res2 at hk
    rw [he] at hk
    simp only [after_eq ht] at hk
    refine J_eff ht hg (fun S wl M0 M ρ f w ha => ?_) hk
    have := evOp_sound (r := r) (P := P) (a := fr N f ds) (op := op.op) (d := op.dst.getD 0) (ty := op.type) ha.ow (evalV_rel (ds := ds) ha)
    rw [← evNow_ops ht hg, he] at this
    exact this x hx
  · cases ho

/-! ### Calls -/
theorem Ow.call {S : Hand} {wl w w' : World} {M0 M M' : Mem} {ρ : Rho} {ob : Nat → Option IObj} (h : Ow S wl M0 M ρ ob w) (k : Ext M M' w w') : Rle M M' ρ ρ ∧ Ow S wl M0 M' ρ ob w' := by
  have hr : Rle M M' ρ ρ := ⟨k.le, fun _ j hj => ⟨j, hj, Nat.le_refl _, fun _ => rfl, fun _ => rfl⟩⟩
  refine ⟨hr, Nat.le_trans h.size k.below.size, k.below.os.trans h.os, k.below.tape.trans h.tape, k.below.output.trans h.output, fun b hb hS => ?_, k.sits, Mem.le_trans h.le k.le, h.gl.mono k.le, fun b c hb hlt => ?_, fun q o hq => ?_, h.dom, h.inj, h.held⟩
  · rw [k.below.block b (by have := h.size; omega)]; exact h.old b hb hS
  · exact h.new b c (k.new b c hb (by have := h.size; omega)) hlt
  · obtain ⟨i, h1, h2⟩ := h.own q o hq
    refine ⟨i, h1, h2.mono hr (fun hl => ?_) (fun hl => k.below.block _ (live_mine h2 hl).2)⟩
    cases hm : M' i.b with
    | none =>
      cases hm0 : M i.b with
      | none => rfl
      | some c => obtain ⟨c', h3, _⟩ := k.le _ _ hm0; rw [hm] at h3; cases h3
    | some c => exact (k.new _ _ hm (live_mine h2 hl).2).symm
theorem relV_noR {M : Mem} {ρ : Rho} {v : V} {u : Value} (h : RelV M noR v u) : RelV M ρ v u :=
  RelV.mono ⟨M.le_refl, fun r i hi => by cases hi⟩ v h
/-- The function that is called, and what is handed to it. -/
def callOf (P : Program) (N : Nat) (c : Cfg) : Option (FuncId × List V) := match evNow P N c with
  | .call g args => match argsOf (obGet c.ob) args with
    | some (xs, _) => some (g, xs)
    | none => none
  | _ => none
/-- Behind a call that gave v. -/
def resC (P : Program) (N : Nat) (c : Cfg) (v : V) : Cfg := match evNow P N c with
  | .call _ args => match argsOf (obGet c.ob) args with
    | some (_, wr) => after N c v wr
    | none => c
  | _ => c
theorem orElse_call {x y : Res} {g : FuncId} {args : List V} (h : orElse x y = .call g args) : x = .call g args ∨ y = .call g args := by
  cases x <;> first | exact .inl h | exact .inr h
theorem evEq_call {P : Program} {o : BinOp} {t : TypeId} {x y : V} {c : Bool} {g : FuncId} {args : List V} : evEq P o t x y c ≠ .call g args := fun h => by
  have hb : ∀ b, boolRes o b ≠ .call g args := fun b h => by unfold boolRes at h; split at h <;> cases h
  unfold evEq at h
  repeat' split at h
  all_goals first | (cases h; done) | exact hb _ h
theorem evConv_call {P : Program} {ob : Nat → Option IObj} {s t : TypeId} {v : V} {g : FuncId} {args : List V} : evConv P ob s t v ≠ .call g args := fun h => by
  unfold evConv at h
  repeat' split at h
  all_goals cases h
theorem evSData_call {ob : Nat → Option IObj} {v : V} {g : FuncId} {args : List V} : evSData ob v ≠ .call g args := fun h => by
  unfold evSData at h
  repeat' split at h
  all_goals cases h
theorem evUStr_call {P : Program} {ob : Nat → Option IObj} {t : TypeId} {v u : V} {g : FuncId} {args : List V} : evUStr P ob t v u ≠ .call g args := fun h => by
  unfold evUStr at h
  repeat' split at h
  all_goals cases h
theorem call_is {a : Act} {op : Op} {ob : Nat → Option IObj} {d : Nat} {ty : TypeId} {ev : Operand → V} {g : FuncId} {args : List V} {M : Mem} {ρ : Rho} (hc : evOp P ob d ty ev op = .call g args) (hev : ∀ x, RelV M ρ (ev x) (a.eval x)) :
    ∃ (f : Operand) (as : Array Operand) (tys : Array TypeId) (fs cs : List Value), op = .call { callee := .value f, args := as, argTypes := tys } ∧ a.eval f = .func (.func g) fs.toArray cs.toArray ∧ RelVs M ρ args (fs ++ as.toList.map a.eval ++ cs) := by
  cases op with
  | call c =>
    obtain ⟨callee, as, tys⟩ := c
    cases callee with
    | builtin b =>
      exfalso
      simp only [evOp] at hc
      cases b <;> simp only at hc <;> first | (cases hc; done) | skip
      all_goals (
        repeat' split at hc
        all_goals first | (cases hc; done) | skip)
      · unfold evAppend at hc
        repeat' split at hc
        all_goals cases hc
      · unfold evLen at hc
        repeat' split at hc
        all_goals cases hc
      · exact evSData_call hc
      · exact evUStr_call hc
    | value f =>
      simp only [evOp] at hc
      have hf := hev f
      split at hc
      · rename_i gg first cap hfv
        cases hc
        rw [hfv] at hf
        simp only [RelV] at hf
        obtain ⟨fs, cs, hfe, h1, h2⟩ := hf
        have hargs := evsV_rel (xs := as.toList) hev
        exact ⟨f, as, tys, fs, cs, rfl, hfe, (h1.append hargs).append h2⟩
      · rename_i gg hfv
        cases hc
        rw [hfv] at hf
        have hfe : a.eval f = .func (.func g) ([] : List Value).toArray ([] : List Value).toArray := by
          have hf := relV_d hf
          generalize a.eval f = u at hf ⊢
          cases hf; rfl
        have hargs := evsV_rel (xs := as.toList) hev
        exact ⟨f, as, tys, [], [], rfl, hfe, by simpa using hargs⟩
      · cases hc
    | invoke x m => simp [evOp] at hc
  | binOp o t x y u =>
    exfalso
    simp only [evOp] at hc
    rcases orElse_call hc with hc | hc
    rotate_left
    · exact evEq_call hc
    unfold evBin at hc
    repeat' split at hc
    all_goals first | (cases hc; done) | skip
    · unfold evShift at hc; repeat' split at hc
      all_goals cases hc
    · unfold evInt at hc; repeat' split at hc
      all_goals cases hc
  | convert s t x =>
    exfalso
    simp only [evOp] at hc
    rcases orElse_call hc with hc | hc
    · repeat' split at hc
      all_goals cases hc
    · exact evConv_call hc
  | load t x => exfalso; simp only [evOp] at hc; unfold evLoad at hc; repeat' split at hc
                all_goals cases hc
  | store t x y => exfalso; simp only [evOp] at hc; unfold evStore at hc; repeat' split at hc
                   all_goals cases hc
  | indexAddr t x y => exfalso; simp only [evOp] at hc; unfold evIndexAddr at hc; repeat' split at hc
                       all_goals cases hc
  | index t x y => exfalso; simp only [evOp] at hc; unfold evIndex at hc; repeat' split at hc
                   all_goals cases hc
  | makeSlice t x y => exfalso; simp only [evOp] at hc; unfold evMake at hc; repeat' split at hc
                       all_goals cases hc
  | slice t x lo hi mx =>
    exfalso
    have key : ∀ a b, evSlice P ob t (ev x) a b ≠ .call g args := fun a b h => by
      unfold evSlice at h; repeat' split at h
      all_goals cases h
    cases mx with
    | some _ => simp [evOp] at hc
    | none =>
      simp only [evOp] at hc
      repeat' split at hc
      all_goals first | (cases hc; done) | exact key _ _ hc
  | makeFunc f x y => exfalso; cases f <;> simp [evOp] at hc
  | makeMap t hint => exfalso; cases hint with
    | some _ => simp [evOp] at hc
    | none => simp only [evOp] at hc; unfold evMakeMap at hc; repeat' split at hc
              all_goals cases hc
  | lookup t m k ok => exfalso; simp only [evOp] at hc; unfold evLookup at hc; repeat' split at hc
                       all_goals first | (cases hc; done) | (cases ok <;> simp [lookRes] at hc)
  | mapUpdate t m k v => exfalso; simp only [evOp] at hc; unfold evMapPut at hc; repeat' split at hc
                         all_goals cases hc
  | insert t m k v => exfalso; simp only [evOp] at hc; unfold evMapPut at hc; repeat' split at hc
                      all_goals cases hc
  | _ => exfalso; simp only [evOp] at hc; repeat' split at hc
         all_goals cases hc

theorem evs_self (a : Act) : ∀ l : List Operand, evs a l (l.map a.eval)
  | [] => trivial
  | _ :: l => ⟨rfl, evs_self a l⟩
theorem call_eff {a : Act} {w : World} {op : Op} {ob : Nat → Option IObj} {d : Nat} {ty : TypeId} {ev : Operand → V} {g : FuncId} {args : List V} {M : Mem} {ρ : Rho} (hc : evOp P ob d ty ev op = .call g args) (hev : ∀ x, RelV M ρ (ev x) (a.eval x)) (he : entersT P g) :
    ∃ vals : List Value, RelVs M ρ args vals ∧ ∀ (R : Ending → World → Prop) (R' : Value → World → Prop), Calls P g vals.toArray w R → (∀ e w', R e w' → ∃ v, e = .returned v ∧ R' v w') → Eff r P a op w R' := by
  obtain ⟨f, as, tys, fs, cs, rfl, hfe, hr⟩ := call_is hc hev
  exact ⟨_, hr, fun R R' hcall hk => eff_callv (xs := as.toList) he (by simp) hfe (evs_self a _) hcall hk⟩
/-- The same, where the model answers for the function. -/
theorem call_effX {a : Act} {w : World} {op : Op} {ob : Nat → Option IObj} {d : Nat} {ty : TypeId} {ev : Operand → V} {g : FuncId} {args : List V} {M : Mem} {ρ : Rho} (hc : evOp P ob d ty ev op = .call g args) (hev : ∀ x, RelV M ρ (ev x) (a.eval x)) :
    ∃ vals : List Value, RelVs M ρ args vals ∧ ∀ (R' : Value → World → Prop) (u : Value) (w' : World), (callFunc g vals.toArray).run P w = .ok (.value u) w' → R' u w' → Eff r P a op w R' := by
  obtain ⟨f, as, tys, fs, cs, rfl, hfe, hr⟩ := call_is hc hev
  refine ⟨_, hr, fun R' u w' h1 h2 => Eff.of_run ?_ rfl h2⟩
  intro d ty pos aft g'
  simp only [List.append_assoc] at h1
  have hm : as.map a.eval = (as.toList.map a.eval).toArray := by rw [← List.map_toArray]
  simp [execOp, resolve, Deferred.ofValue, hfe, invoke, hm, h1]
/-- A function that the model answers for: it turns nothing. -/
def CallX (P : Program) (g : FuncId) (args : List V) (v : V) : Prop := ∀ M ρ vals, RelVs M ρ args vals → ∃ u, RelV M ρ v u ∧ ∀ w, (callFunc g vals.toArray).run P w = .ok (.value u) w
def callXOf (P : Program) (N : Nat) (c : Cfg) : Option (FuncId × List V) := match evNow P N c with
  | .call g args => some (g, args)
  | _ => none
theorem J_callX {g : FuncId} {xs : List V} (v : V) (hc : callXOf P N c = some (g, xs)) (hcall : CallX P g xs v) (hk : J r P N ds fin (after N c v [])) : J r P N ds fin c := by
  unfold callXOf at hc
  split at hc
  · rename_i g' args hev
    cases hc
    obtain ⟨op, all, rest, k', ht, hg⟩ := evNow_is (P := P) (N := N) (c := c) (by rw [hev]; intro e; cases e)
    rw [after_eq ht] at hk
    refine J_eff ht hg (fun S wl M0 M ρ f w ha => ?_) hk
    rw [evNow_ops ht hg] at hev
    obtain ⟨vals, h1, h2⟩ := call_effX (r := r) (w := w) hev (evalV_rel (ds := ds) ha)
    obtain ⟨u, h3, h4⟩ := hcall M ρ vals h1
    exact h2 _ u w (h4 w) ⟨M, ρ, Rle.refl _ _, ha.ow, h3⟩
  · cases hc

theorem J_callF {g : FuncId} {xs : List V} (ys : List V) (v : V) (hc : callOf P N c = some (g, xs)) (he : entersT P g) (hre : Res' xs ys) (hcall : CallF P g ys v) (hk : J r P N ds fin (resC P N c v)) : J r P N ds fin c := by
  unfold callOf at hc
  split at hc
  · rename_i g' args hev
    split at hc
    · rename_i xs' wr hargs
      cases hc
      obtain ⟨op, all, rest, k', ht, hg⟩ := evNow_is (P := P) (N := N) (c := c) (by rw [hev]; intro e; cases e)
      unfold resC at hk
      rw [hev] at hk
      simp only [hargs, after_eq ht] at hk
      refine J_eff ht hg (fun S wl M0 M ρ f w ha => ?_) hk
      rw [evNow_ops ht hg] at hev
      obtain ⟨vals, h1, h2⟩ := call_eff (r := r) (w := w) hev (evalV_rel (ds := ds) ha) he
      obtain ⟨M1, r1, o1, d1⟩ := argsOf_sound ha.ow h1 hargs
      refine h2 _ _ (hcall M1 w vals o1.sits o1.gla (hre.rel (d1 noR))) ?_
      rintro e w' ⟨u, M2, rfl, hext, hv⟩
      obtain ⟨h3, h4⟩ := o1.call hext
      exact ⟨u, rfl, M2, ρ, r1.trans h3, h4, relV_noR hv⟩
    · cases hc
  · cases hc
end
end Go.Proofs.YtilfjfpemjfalaaGreatDoor.Kx
