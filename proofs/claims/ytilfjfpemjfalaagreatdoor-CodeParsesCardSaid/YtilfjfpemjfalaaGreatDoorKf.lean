/- Operations that look into memory or turn it, and calls. -/
import Derived.Test.YtilfjfpemjfalaaGreatDoorKe
import Derived.Laws.MakeOwn
namespace Go.Proofs.YtilfjfpemjfalaaGreatDoor.Kx
open Go Go.RowKit
section
variable {r : Option Nat} {P : Program} {a : Act} {w w0 : World} {M : Mem} {os : List Own}

def evs (a : Act) : List Operand → List Value → Prop
  | [], [] => True
  | x :: xs, v :: vs => a.eval x = v ∧ evs a xs vs
  | _, _ => False
theorem evs_map {a : Act} : ∀ {xs : List Operand} {vs : List Value}, evs a xs vs → xs.map a.eval = vs
  | [], [], _ => rfl
  | x :: xs, v :: vs, h => by rw [List.map_cons, h.1, evs_map h.2]
  | [], _ :: _, h => h.elim
  | _ :: _, [], h => h.elim

theorem run_build' {t : TypeId} {is : List Nat} {xs : List Operand} {vs : List Value} {cells : List Value} (hx : evs a xs vs) (hb : P.built t (is.zip vs) = some cells.toArray) :
    Run P a (.build t (is.zip xs).toArray) w (.agg cells.toArray) w := by
  intro d ty pos aft g
  have : ((is.zip xs).map fun (i, x) => (i, a.eval x)) = is.zip vs := by
    rw [← evs_map hx, List.zip_map_right]
    rfl
  have hr := run_build (P := P) w t (is.zip vs).toArray cells.toArray hb
  simp [execOp, this, hr]

/-! ### Reads -/
theorem St.ro {b o j : Nat} {vs : List Value} (h : St w0 M os w) (x : Cells M b o vs) {v : Value} (hv : vs[j]? = some v) : w.cell? ⟨b, o + j, none⟩ = some v := x.cell h.sits hv
theorem St.box_heap {i b : Nat} {cs : List Value} (h : St w0 M os w) (hi : os[i]? = some (box b cs)) : ∃ e, w.heap[b]? = some (.cells cs.toArray e (0, 0)) := by
  have := h.own _ (List.mem_of_getElem? hi)
  simp only [Own.holds, box] at this
  obtain ⟨_, _, o, ho, e, rfl⟩ := this
  exact ⟨e, ho⟩
theorem St.box_cell {i b j : Nat} {cs : List Value} (h : St w0 M os w) (hi : os[i]? = some (box b cs)) {v : Value} (hv : cs[j]? = some v) : w.cell? ⟨b, j, none⟩ = some v := by
  obtain ⟨e, he⟩ := h.box_heap hi
  simp [World.cell?, he, hv]

/-- A load out of memory that is held for good. -/
theorem run_load_ro {x : Operand} {t : TypeId} {b o k : Nat} {vs us : List Value} {agg : Bool} (h : St w0 M os w) (hc : Cells M b o vs) (hx : a.eval x = .pointer (some ⟨b, o + k, none⟩)) (ht : aggT P t = some agg) (hs : sizeT P t = some us.length)
    (h1 : agg = false → us.length = 1) (hu : ∀ j, j < us.length → vs[k + j]? = us[j]?) : Run P a (.load t x) w (mkv agg us) w :=
  run_load hx ht hs h1 (fun j v hv => by
    have hlt : j < us.length := (List.getElem?_eq_some_iff.1 hv).1
    have := h.ro (j := k + j) hc (v := v) (by rw [hu j hlt, hv])
    rwa [← Nat.add_assoc] at this)
/-- A load out of a variable of our own. -/
theorem run_load_box {x : Operand} {t : TypeId} {i b k : Nat} {cs us : List Value} {agg : Bool} (h : St w0 M os w) (hi : os[i]? = some (box b cs)) (hx : a.eval x = .pointer (some ⟨b, k, none⟩)) (ht : aggT P t = some agg) (hs : sizeT P t = some us.length)
    (h1 : agg = false → us.length = 1) (hu : ∀ j, j < us.length → cs[k + j]? = us[j]?) : Run P a (.load t x) w (mkv agg us) w :=
  run_load hx ht hs h1 (fun j v hv => by
    have hlt : j < us.length := (List.getElem?_eq_some_iff.1 hv).1
    exact h.box_cell hi (by rw [hu j hlt, hv]))

/-- All j below a numeral, one by one. -/
def allj (us vs : List Value) (k : Nat) : Prop := ∀ j, j < us.length → vs[k + j]? = us[j]?
theorem allj_of {us vs : List Value} {k : Nat} (h : (vs.drop k).take us.length = us) : allj us vs k := fun j hj => by
  have := congrArg (fun l : List Value => l[j]?) h
  simp only [List.getElem?_take_of_lt hj, List.getElem?_drop] at this
  exact this

/-! ### What turns the world -/
/-- The operation comes to a value and a world of which R holds. -/
def Eff (r : Option Nat) (P : Program) (a : Act) (op : Op) (w : World) (R : Value → World → Prop) : Prop :=
  ∀ d ty pos aft g (K : Act → World → Prop) (Q : Exit → Act → World → Prop), (∀ v w', R v w' → K (a.put d v) w') → (⟨d, op, ty, pos, aft, g⟩ : Oper).wpIn (WF r) 0 P a w K Q
theorem Eff.of_run {op : Op} {v : Value} {w' : World} {R : Value → World → Prop} (h : Run P a op w v w') (hd : isDefer op = false) (hR : R v w') : Eff r P a op w R :=
  fun d ty pos aft g _ _ hK => wp_of_run (o := ⟨d, op, ty, pos, aft, g⟩) hd (h _ _ _ _ _) (hK _ _ hR)
theorem Eff.of_runU {op : Op} {w' : World} {R : Value → World → Prop} (h : RunU P a op w w') (hd : isDefer op = false) (hR : R undef w') : Eff r P a op w R :=
  fun d ty pos aft g _ _ hK => wp_of_runU (o := ⟨d, op, ty, pos, aft, g⟩) hd (h _ _ _ _ _) (hK _ _ hR)
theorem Eff.mono {op : Op} {R R' : Value → World → Prop} (h : Eff r P a op w R) (k : ∀ v w', R v w' → R' v w') : Eff r P a op w R' :=
  fun d ty pos aft g K Q hK => h d ty pos aft g K Q (fun v w' hr => hK v w' (k v w' hr))

section
variable {Q : Exit → Act → World → Prop} {N : Nat} {f : Nat → Value} {ds : List Deferred} {ops : Array Oper} {rest : List Oper} {op : Op} {ty : TypeId} {pos : String} {aft : Array Edge} {R : Value → World → Prop}
theorem L_eff {d : Tmp} (h : Eff r P (fr N f ds) op w R) (k : ∀ v w', R v w' → L r P ops Q rest (fr N (upd f d v) ds) w') : L r P ops Q (⟨some d, op, ty, pos, aft, none⟩ :: rest) (fr N f ds) w :=
  L_wp rfl (h _ _ _ _ _ _ _ fun v w' hr => by rw [fr_put]; exact k v w' hr)
theorem L_effn (h : Eff r P (fr N f ds) op w R) (k : ∀ v w', R v w' → L r P ops Q rest (fr N f ds) w') : L r P ops Q (⟨none, op, ty, pos, aft, none⟩ :: rest) (fr N f ds) w :=
  L_wp rfl (h _ _ _ _ _ _ _ fun v w' hr => k v w' hr)
theorem L_effg {l : List Oper} {d : Tmp} {j e : Nat} {b c : Bool} (ho : dstAt l j = some e) (hN : Nat.blt e N = true) (hv : f e = .bool b) (hb : b = c) (h : Eff r P (fr N f ds) op w R) (k : ∀ v w', R v w' → L r P l.toArray Q rest (fr N (upd f d v) ds) w') : L r P l.toArray Q (⟨some d, op, ty, pos, aft, some (j, c)⟩ :: rest) (fr N f ds) w :=
  L_wp (by rw [wanted_g (yields ho hN hv), hb]; simp) (h _ _ _ _ _ _ _ fun v w' hr => by rw [fr_put]; exact k v w' hr)
variable {K : Act → World → Prop} {S : World → Prop} {fuel : Nat} {listed : Array Bool}
theorem H_eff {l : List Oper} {i : Nat} {d : Tmp} (hi : opAt l i = some ⟨some d, op, ty, pos, aft, none⟩) (hr : Region.ready .any l.toArray listed = [i]) (h : Eff r P (fr N f ds) op w R)
    (k : ∀ v w', R v w' → S w' ∧ HA r P l.toArray K S fuel (listed.setIfInBounds i true) (fr N (upd f d v) ds) w') : HA r P l.toArray K S (fuel + 1) listed (fr N f ds) w :=
  H_one hi hr rfl (h _ _ _ _ _ _ _ fun v w' hx => by rw [fr_put]; exact k v w' hx)
theorem H_effn {l : List Oper} {i : Nat} (hi : opAt l i = some ⟨none, op, ty, pos, aft, none⟩) (hr : Region.ready .any l.toArray listed = [i]) (h : Eff r P (fr N f ds) op w R)
    (k : ∀ v w', R v w' → S w' ∧ HA r P l.toArray K S fuel (listed.setIfInBounds i true) (fr N f ds) w') : HA r P l.toArray K S (fuel + 1) listed (fr N f ds) w :=
  H_one hi hr rfl (h _ _ _ _ _ _ _ fun v w' hx => k v w' hx)
theorem H_effg {l : List Oper} {i : Nat} {d : Tmp} {j e : Nat} {b c : Bool} (hi : opAt l i = some ⟨some d, op, ty, pos, aft, some (j, c)⟩) (hr : Region.ready .any l.toArray listed = [i]) (ho : dstAt l j = some e) (hN : Nat.blt e N = true) (hv : f e = .bool b) (hb : b = c) (h : Eff r P (fr N f ds) op w R)
    (k : ∀ v w', R v w' → S w' ∧ HA r P l.toArray K S fuel (listed.setIfInBounds i true) (fr N (upd f d v) ds) w') : HA r P l.toArray K S (fuel + 1) listed (fr N f ds) w :=
  H_one hi hr (by rw [wanted_g (yields ho hN hv), hb]; simp) (h _ _ _ _ _ _ _ fun v w' hx => by rw [fr_put]; exact k v w' hx)
end

def zeroT (P : Program) (t : TypeId) : Option (List Value) := ((P.info? t).bind (·.zero)).map (·.cells.toList)
theorem run_zeroT {t : TypeId} {zs : List Value} (h : zeroT P t = some zs) : ∃ v, (zeroValue t).run P w = .ok v w ∧ v.cells = zs.toArray := by
  unfold zeroT at h
  cases hi : P.info? t with
  | none => rw [hi] at h; cases h
  | some i =>
    rw [hi] at h
    cases hz : i.zero with
    | none => simp [hz] at h
    | some z => simp [hz] at h; exact ⟨z, by simp [zeroValue, typeInfo, hi, hz], by rw [← h]⟩

theorem eff_box {x : Operand} {t : TypeId} {v : Value} {vs : List Value} (h : St w0 M os w) (hx : a.eval x = v) (hv : v.cells = vs.toArray) :
    Eff r P a (.box t x) w (fun v w' => ∃ b, v = .pointer (some ⟨b, 0, none⟩) ∧ St w0 M (box b vs :: os) w') := by
  refine Eff.of_run (v := .pointer (some ⟨w.heap.size, 0, none⟩)) (w' := w.alloc (.cells vs.toArray t)) ?_ rfl ⟨_, rfl, h.alloc _ _ rfl ⟨t, rfl⟩⟩
  intro d ty pos aft g
  simp [execOp, Instr.box, newVar, newRow, hx, hv]
theorem eff_alloc {t : TypeId} {zs : List Value} (h : St w0 M os w) (hz : zeroT P t = some zs) :
    Eff r P a (.alloc t) w (fun v w' => ∃ b, v = .pointer (some ⟨b, 0, none⟩) ∧ St w0 M (box b zs :: os) w') := by
  refine Eff.of_run (v := .pointer (some ⟨w.heap.size, 0, none⟩)) (w' := w.alloc (.cells zs.toArray t)) ?_ rfl ⟨_, rfl, h.alloc _ _ rfl ⟨t, rfl⟩⟩
  intro d ty pos aft g
  obtain ⟨v, hv, hc⟩ := run_zeroT (w := w) hz
  simp [execOp, Instr.alloc, newVar, newRow, hv, hc]

theorem run_storeVar_at {t e : TypeId} {b k : Nat} {v : Value} {us : List Value} {cur : Array Value} (hg : w.heap[b]? = some (.cells cur e (0, 0))) (hv : v.cells = us.toArray) (hs : sizeT P t = some us.length) (h1 : ∀ v ∈ us, v.oneCell' = true) (hl : k + us.length ≤ cur.size) :
    (storeVar t ⟨b, k, none⟩ v).run P w = .ok () (w.setRow b (setAt cur.toList k us).toArray) := by
  have := run_storeCells_at P b k e us 0 cur w hg (by omega) h1
  simp only [Nat.add_zero] at this
  simp [storeVar, hv, run_sizeT hs, this, setAt]

theorem eff_store_box {x y : Operand} {t : TypeId} {i b k : Nat} {v : Value} {us cs : List Value} (h : St w0 M os w) (hi : os[i]? = some (box b cs)) (hx : a.eval x = .pointer (some ⟨b, k, none⟩)) (hy : a.eval y = v) (hv : v.cells = us.toArray)
    (hs : sizeT P t = some us.length) (h1 : ∀ v ∈ us, v.oneCell' = true) (hl : k + us.length ≤ cs.length) :
    Eff r P a (.store t x y) w (fun _ w' => St w0 M (os.set i (box b (setAt cs k us))) w') := by
  obtain ⟨e, he⟩ := h.box_heap hi
  have hr := run_storeVar_at (P := P) (k := k) he hv hs h1 (by simpa using hl)
  refine Eff.of_runU (w' := w.setRow b (setAt cs k us).toArray) ?_ rfl ?_
  · intro d ty pos aft g
    simp [execOp, Instr.storeAt, Instr.sureAddr, hx, hy, hr]
  · exact h.turn hi rfl _ rfl (o := .cells (setAt cs k us).toArray e (0, 0)) ⟨e, rfl⟩ (by simp) (setRow_heap w b _ _ e _ he) (fun k hk => setRow_other w b k _ hk) rfl rfl rfl

/-- A call of a function that is known. -/
def entersT (P : Program) (g : FuncId) : Prop := ∀ (args : Array Value) (w : World), (callFunc g args).run P w = .ok (.enter g args) w
theorem enters_of {g : FuncId} {fn : Func} (hf : P.funcs[g]? = some fn) (hn : (fn.name == "runtime.NumGoroutine") = false) (hb : fn.body.isNone = false) : entersT P g := by
  intro args w
  unfold callFunc
  simp only [Sem.run_bind, run_program, Result.andThen_ok, hf, hn, hb, Bool.false_eq_true, if_false]
  rfl
theorem eff_call {g : FuncId} {args : Array Operand} {tys : Array TypeId} {xs : List Operand} {vs : List Value} {R : Ending → World → Prop} {R' : Value → World → Prop} (he : entersT P g) (hxs : args = xs.toArray) (hx : evs a xs vs) (hc : Calls P g vs.toArray w R)
    (k : ∀ e w', R e w' → ∃ v, e = .returned v ∧ R' v w') : Eff r P a (.call { callee := .value (.func g), args := args, argTypes := tys }) w R' := by
  intro d ty pos aft g' K Q hK
  subst hxs
  refine wp_of_call (w₁ := w) (args := vs.toArray) (g := g) rfl ?_ hc (fun e w' hR => let ⟨v, h1, h2⟩ := k e w' hR; ⟨v, h1, hK v w' h2⟩)
  have he' := he vs.toArray w
  simp [execOp, resolve, Deferred.ofValue, Act.eval, invoke, evs_map hx, he']
/-- A call of a function value. -/
theorem eff_callv {g : FuncId} {x : Operand} {args : Array Operand} {tys : Array TypeId} {xs : List Operand} {vs first captured : List Value} {R : Ending → World → Prop} {R' : Value → World → Prop} (he : entersT P g) (hxs : args = xs.toArray)
    (hg : a.eval x = .func (.func g) first.toArray captured.toArray) (hx : evs a xs vs) (hc : Calls P g (first ++ vs ++ captured).toArray w R)
    (k : ∀ e w', R e w' → ∃ v, e = .returned v ∧ R' v w') : Eff r P a (.call { callee := .value x, args := args, argTypes := tys }) w R' := by
  intro d ty pos aft g' K Q hK
  subst hxs
  refine wp_of_call (w₁ := w) (args := (first ++ vs ++ captured).toArray) (g := g) rfl ?_ hc (fun e w' hR => let ⟨v, h1, h2⟩ := k e w' hR; ⟨v, h1, hK v w' h2⟩)
  have he' := he (first ++ vs ++ captured).toArray w
  simp only [List.append_assoc] at he'
  simp [execOp, resolve, Deferred.ofValue, hg, invoke, evs_map hx, he']
end
end Go.Proofs.YtilfjfpemjfalaaGreatDoor.Kx
