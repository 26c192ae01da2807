/- Returns, contracts, and the small steps of the code's own form. -/
import Derived.Test.YtilfjfpemjfalaaGreatDoorKf
namespace Go.Proofs.YtilfjfpemjfalaaGreatDoor.Kx
open Go Go.RowKit
section
variable {r : Option Nat} {P : Program} {w w0 : World} {M : Mem} {os : List Own} {N : Nat} {f : Nat → Value} {ds : List Deferred} {Q Q' : Exit → Act → World → Prop} {a : Act}

/-- A result variable read at the return. -/
def resOk (P : Program) (N : Nat) (f : Nat → Value) (w : World) : List ResultVar → List Value → Prop
  | [], [] => True
  | .tmp t :: rs, v :: vs => (Nat.blt t N = true ∧ f t = v) ∧ resOk P N f w rs vs
  | .cell c t :: rs, v :: vs => (Nat.blt c N = true ∧ ∃ ad, f c = .pointer (some ad) ∧ (loadVar t ad).run P w = .ok v w) ∧ resOk P N f w rs vs
  | _, _ => False
def tupv : List Value → Value
  | [v] => v
  | vs => .tuple vs.toArray
theorem tmps_get {t : Nat} {v : Value} (h : Nat.blt t N = true) (hv : f t = v) : (fr N f ds).tmps.getD t undef = v := ev (ds := ds) h hv
def rdRes (tmps : Array Value) : ResultVar → Sem Value
  | .tmp t => pure (tmps.getD t undef)
  | .cell a t => do loadVar t (← asAddr (tmps.getD a undef))
theorem resOk_run {ds : List Deferred} : ∀ {rs : List ResultVar} {vs : List Value}, resOk P N f w rs vs → (rs.mapM (rdRes (fr N f ds).tmps)).run P w = Result.ok vs w
  | [], [], _ => by simp
  | .tmp t :: rs, v :: vs, h => by
    have h1 : (fr N f ds).tmps.getD t undef = v := tmps_get (ds := ds) h.1.1 h.1.2
    simp only [List.mapM_cons, Sem.run_bind, Sem.run_pure, Result.andThen_ok, rdRes, h1, resOk_run h.2]
  | .cell c t :: rs, v :: vs, h => by
    obtain ⟨ad, h2, h3⟩ := h.1.2
    have h1 : (fr N f ds).tmps.getD c undef = .pointer (some ad) := tmps_get (ds := ds) h.1.1 h2
    simp only [List.mapM_cons, Sem.run_bind, Sem.run_pure, Result.andThen_ok, rdRes, h1, asAddr, h3, resOk_run h.2]
  | [], _ :: _, h => h.elim
  | .tmp _ :: _, [], h => h.elim
  | .cell _ _ :: _, [], h => h.elim
theorem results_run {fn : Func} {rs : List ResultVar} {vs : List Value} (h : fn.results = rs.toArray) (hr : resOk P N f w rs vs) : (results fn (fr N f ds).tmps).run P w = Result.ok (tupv vs) w := by
  have h1 := resOk_run (ds := ds) hr
  have h2 : results fn (fr N f ds).tmps = (do let vs ← fn.results.mapM (rdRes (fr N f ds).tmps); pure (if h : vs.size = 1 then vs[0] else .tuple vs)) := by
    unfold results
    congr 2
  rw [h2, h]
  simp only [Array.mapM_eq_mapM_toList, Sem.run_bind, Sem.run_map, h1, Result.andThen_ok, Sem.run_pure]
  match vs with
  | [] => rfl
  | [v] => rfl
  | v :: u :: vs => simp [tupv]

/-- The post of a call: nothing old is turned; what comes back reads as Φ says, in a memory that holds more. -/
def Ret (M : Mem) (w : World) (Φ : Mem → Value → Prop) : Ending → World → Prop := fun e w' => ∃ v M', e = .returned v ∧ Ext M M' w w' ∧ Φ M' v
/-- .. where what comes back lies in no memory. -/
def RetS (w : World) (v : Value) : Ending → World → Prop := fun e w' => e = .returned v ∧ Below w.heap.size w w'

theorem ret_S {fn : Func} {rs : List ResultVar} {vs : List Value} {v : Value} (hS : St w0 M os w) (h : fn.results = rs.toArray) (hr : resOk P N f w rs vs) (hv : tupv vs = v) : bodyPost P fn (RetS w0 v) .ret (fr N f []) w :=
  ⟨rfl, v, by rw [← hv]; exact results_run h hr, rfl, hS.below⟩
theorem end_S {fn : Func} {rs : List ResultVar} {vs : List Value} {v : Value} (hS : St w0 M os w) (h : fn.results = rs.toArray) (hr : resOk P N f w rs vs) (hv : tupv vs = v) : bodyPost P fn (RetS w0 v) .normal (fr N f []) w :=
  ⟨rfl, v, by rw [← hv]; exact results_run h hr, rfl, hS.below⟩
/-- M0: the memory at the call; M: what is held at the return. -/
structure Grew (M0 M : Mem) (w0 : World) : Prop where
  le : M0.le M
  new : ∀ b c, M b = some c → b < w0.heap.size → M0 b = some c
theorem Grew.refl (M : Mem) (w : World) : Grew M M w := ⟨M.le_refl, fun _ _ h _ => h⟩
theorem Grew.ext {M0 M M' : Mem} {w0 w w' : World} (h : Grew M0 M w0) (hS : St w0 M os w) (k : Ext M M' w w') : Grew M0 M' w0 :=
  ⟨Mem.le_trans h.le k.le, fun b c hb hlt => h.new b c (k.new b c hb (Nat.lt_of_lt_of_le hlt hS.below.size)) hlt⟩
theorem ret_R {M0 : Mem} {fn : Func} {rs : List ResultVar} {vs : List Value} {v : Value} {Φ : Mem → Value → Prop} (hS : St w0 M os w) (hG : Grew M0 M w0) (h : fn.results = rs.toArray) (hr : resOk P N f w rs vs) (hv : tupv vs = v) (hp : Φ M v) : bodyPost P fn (Ret M0 w0 Φ) .ret (fr N f []) w :=
  ⟨rfl, v, by rw [← hv]; exact results_run h hr, v, M, rfl, ⟨hS.below, hG.le, hS.sits, hG.new⟩, hp⟩

/-! ### Steps of the code's form -/
theorem W_seqcut {x y : Code} (mid : Act → World → Prop) (h : W r P x (Exit.then mid Q) a w) (k : ∀ a w, mid a w → W r P y Q a w) : W r P (.seq x y) Q a w :=
  W_seq (W_mono h fun e a w hq => by cases e <;> first | exact k _ _ hq | exact hq)
theorem W_cut {x : Code} (mid : Act → World → Prop) (h : W r P x (fun e a w => e = .normal ∧ mid a w) a w) (k : ∀ a w, mid a w → Q .normal a w) : W r P x Q a w :=
  W_mono h fun e a w hq => by obtain ⟨rfl, hm⟩ := hq; exact k _ _ hm
theorem L_then {x : Code} {ops : Array Oper} (h : W r P x Q a w) : L r P ops (Exit.then (fun a w => W r P x Q a w) Q') [] a w := L_nil h
theorem bnd {α β : Type} {o : Option α} {k : α → Option β} {y : β} (h : Option.bind o k = some y) : ∃ x, o = some x ∧ k x = some y := by
  cases o with
  | none => cases h
  | some x => exact ⟨x, rfl, h⟩
theorem ift {α : Type} {b : Bool} {x y : α} {z : α} (hb : b = true) (h : (bif b then x else y) = z) : x = z := by subst hb; exact h
theorem iff' {α : Type} {b : Bool} {x y : α} {z : α} (hb : b = false) (h : (bif b then x else y) = z) : y = z := by subst hb; exact h
/-- An element by an integer index. -/
def geti {α : Type} (l : List α) (i : Int) : Option α := bif decide (0 ≤ i) then l[i.toNat]? else none
theorem geti_some {α : Type} {l : List α} {i : Int} {y : α} (h : geti l i = some y) : ∃ k : Nat, i = k ∧ l[k]? = some y := by
  unfold geti at h
  cases hi : decide (0 ≤ i) with
  | true => exact ⟨i.toNat, by have := of_decide_eq_true hi; omega, ift hi h⟩
  | false => cases iff' hi h
/-- len of a slice that is only read. -/
theorem run_len_ro {α : Type} {R : Rep α} {x : Operand} {t e : TypeId} {v : Value} {d : List α} (hx : a.eval x = v) (h : (rSl R).v M v d) (ht : P.underlying t = some (.slice e)) : Run P a (.call { callee := .builtin .len, args := #[x], argTypes := #[t] }) w (.int .i64 d.length) w := by
  obtain ⟨p, c, rfl, _⟩ := rSl_v h
  exact run_len_slice hx ht
/-- An element's address, and its cells. -/
theorem ro_at {α : Type} {R : Rep α} {v : Value} {d : List α} (h : (rSl R).v M v d) {i : Int} {y : α} (hy : geti d i = some y) :
    ∃ b o vs, (∀ {P : Program} {a : Act} {w : World} {x z : Operand} {t e : TypeId} {k : IntKind}, a.eval x = v → a.eval z = .int k i → P.underlying t = some (.slice e) → sizeT P e = some R.n → Run P a (.indexAddr t x z) w (.pointer (some ⟨b, o, none⟩)) w) ∧ Cells M b o vs ∧ R.r M vs y := by
  obtain ⟨k, rfl, hk⟩ := geti_some hy
  obtain ⟨p, c, rfl, h1, h3⟩ := rSl_v h
  have hlt : k < d.length := (List.getElem?_eq_some_iff.1 hk).1
  obtain ⟨b, o, rfl, h4⟩ := h3 (fun e => by subst e; simp at hlt)
  obtain ⟨u, hu, hc⟩ := h4 k y hk
  exact ⟨b, o + k * R.n, u, fun hx hz ht hs => run_indexAddr hx hz ht hs hlt, hc, hu⟩

theorem thn {K : Act → World → Prop} (h : K a w) : Exit.then K Q .normal a w := h
theorem thx {id : Nat} {K : Act → World → Prop} (h : Q (.exit id) a w) : Exit.then K Q (.exit id) a w := h
theorem thr {K : Act → World → Prop} (h : Q .ret a w) : Exit.then K Q .ret a w := h
theorem ibn {id : Nat} (h : Q .normal a w) : Exit.inBlock id Q .normal a w := h
theorem ibe {id : Nat} (h : Q .normal a w) : Exit.inBlock id Q (.exit id) a w := by simp [Exit.inBlock, h]
theorem ibx {id id' : Nat} (hne : Nat.beq id' id = false) (h : Q (.exit id') a w) : Exit.inBlock id Q (.exit id') a w := by
  have : ¬ id' = id := fun e => by subst e; simp at hne
  simp [Exit.inBlock, this, h]
theorem ibr {id : Nat} (h : Q .ret a w) : Exit.inBlock id Q .ret a w := h
/-- Sums of lists, if they stay of a size that memory bears. -/
def app {α : Type} (xs ys : List α) : Option (List α) := bif decide (xs.length + ys.length ≤ 2147483648) then some (xs ++ ys) else none
/-- If b, then x. -/
def ass {α : Type} (b : Bool) (x : Option α) : Option α := bif b then x else none
theorem assd {α : Type} {b : Bool} {x : Option α} {y : α} (h : ass b x = some y) : b = true ∧ x = some y := by
  cases b with
  | true => exact ⟨rfl, h⟩
  | false => cases h
theorem eff_S {g : FuncId} {args : Array Operand} {tys : Array TypeId} {xs : List Operand} {vs : List Value} {v : Value} (hS : St w0 M os w) (he : entersT P g) (hxs : args = xs.toArray) (hc : Calls P g vs.toArray w (RetS w v)) (hx : evs a xs vs) :
    Eff r P a (.call { callee := .value (.func g), args := args, argTypes := tys }) w (fun u w' => u = v ∧ St w0 M os w') :=
  eff_call he hxs hx hc fun _ _ ⟨h1, h2⟩ => ⟨_, h1, rfl, hS.ext (Ext.same hS.sits h2)⟩
theorem eff_R {M0 : Mem} {g : FuncId} {args : Array Operand} {tys : Array TypeId} {xs : List Operand} {vs : List Value} {Φ : Mem → Value → Prop} (hS : St w0 M os w) (hG : Grew M0 M w0) (he : entersT P g) (hxs : args = xs.toArray) (hc : Calls P g vs.toArray w (Ret M w Φ)) (hx : evs a xs vs) :
    Eff r P a (.call { callee := .value (.func g), args := args, argTypes := tys }) w (fun u w' => ∃ M', M.le M' ∧ Grew M0 M' w0 ∧ St w0 M' os w' ∧ Φ M' u) :=
  eff_call he hxs hx hc fun _ _ ⟨_, M', h1, h2, h3⟩ => ⟨_, h1, M', h2.le, hG.ext hS h2, hS.ext h2, h3⟩
theorem evsmap {xs : List Operand} {vs : List Value} (h : evs a xs vs) : xs.toArray.map a.eval = vs.toArray := by
  rw [← evs_map h]; simp
theorem run_index_strF {x y : Operand} {t : TypeId} {k : IntKind} {i : Int} {s : List UInt8} {c : UInt8} (hx : a.eval x = strv s) (hy : a.eval y = .int k i) (ht : P.underlying t = some .string) (hi : geti s i = some c) : Run P a (.index t x y) w (.int .u8 c.toNat) w := by
  obtain ⟨j, rfl, hj⟩ := geti_some hi
  exact run_index_str hx hy ht hj
/-- A result variable in memory of our own. -/
theorem rd_box {t : TypeId} {i b : Nat} {cs : List Value} {agg : Bool} (hS : St w0 M os w) (hi : os[i]? = some (box b cs)) (ht : aggT P t = some agg) (hs : sizeT P t = some cs.length) (h1 : agg = false → cs.length = 1) : (loadVar t ⟨b, 0, none⟩).run P w = Result.ok (mkv agg cs) w := by
  have hc : ∀ j v, cs[j]? = some v → w.cell? ⟨b, j, none⟩ = some v := fun j v hv => hS.box_cell hi hv
  cases agg with
  | true =>
    have := run_loadCells_list (P := P) w ⟨b, 0, none⟩ cs (fun j v hv => by rw [add_zero_off, Nat.zero_add]; exact hc j v hv)
    simp [loadVar, run_aggT ht, run_sizeT hs, this, mkv]
  | false =>
    match cs, h1 rfl with
    | [v], _ =>
      have := hc 0 v rfl
      simp [loadVar, run_aggT ht, this, mkv]
end
end Go.Proofs.YtilfjfpemjfalaaGreatDoor.Kx
