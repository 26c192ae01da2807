/- The frame rules of our own walk: a frame as a function of its slots, one lemma for each form of code. -/
import Derived.OrdersIn
import Derived.TacticsIn
import Derived.OrdersHeld
import Derived.Below
import Derived.RangeFuncOwn
namespace Go.Proofs.YtilfjfpemjfalaaGreatDoor.Kx
open Go Go.RowKit

/-- A fence that lets everything in; r: in which round's frame. -/
def WF (r : Option Nat) : Fence := { fn := fun _ => True, depth := none, alive := false, round := r }

/-- Slot d holds v, the others are as before. -/
def upd (f : Nat → Value) (d : Nat) (v : Value) : Nat → Value := fun s => match Nat.beq s d with | true => v | false => f s

theorem upd_same (f : Nat → Value) (d : Nat) (v : Value) : upd f d v d = v := by simp [upd]
theorem upd_ne (f : Nat → Value) {d s : Nat} (v : Value) (h : s ≠ d) : upd f d v s = f s := by
  have : Nat.beq s d = false := by
    cases hb : Nat.beq s d with
    | false => rfl
    | true => exact absurd (Nat.eq_of_beq_eq_true hb) h
  simp [upd, this]

/-- A frame of N slots. -/
def fr (N : Nat) (f : Nat → Value) (ds : List Deferred) : Act := { tmps := Array.ofFn (n := N) fun i => f i.val, defers := ds }
def argf (vs : List Value) : Nat → Value := fun i => (vs[i]?).getD undef

theorem ev {N t : Nat} {f : Nat → Value} {ds : List Deferred} {v : Value} (h : Nat.blt t N = true) (hv : f t = v) : (fr N f ds).eval (.tmp t) = v := by
  have ht : t < N := by simpa [Nat.blt_eq] using h
  subst hv
  simp [fr, Act.eval, ht]

theorem fr_put {N d : Nat} {f : Nat → Value} {ds : List Deferred} {v : Value} : (fr N f ds).put (some d) v = fr N (upd f d v) ds := by
  unfold fr Act.put
  simp only [Act.mk.injEq, and_true]
  apply Array.ext
  · simp
  · intro i h1 h2
    simp only [Array.size_ofFn] at h2
    rw [Array.getElem_setIfInBounds (by simpa using h1)]
    by_cases hd : d = i
    · subst hd; simp [upd_same]
    · simp [hd, upd_ne f v (Ne.symm hd)]

theorem fr_put_none {N : Nat} {f : Nat → Value} {ds : List Deferred} {v : Value} : (fr N f ds).put none v = fr N f ds := rfl

theorem fr_entry (N : Nat) (vs : List Value) (h : vs.length ≤ N) :
    ({ tmps := vs.toArray ++ Array.replicate (N - vs.toArray.size) undef, defers := [] } : Act) = fr N (argf vs) [] := by
  unfold fr
  simp only [Act.mk.injEq, and_true]
  apply Array.ext
  · simp; omega
  · intro i h1 h2
    simp only [Array.size_ofFn] at h2
    simp only [Array.getElem_ofFn, argf]
    rw [Array.getElem_append]
    split
    · rename_i hi
      simp at hi
      simp [hi]
    · rename_i hi
      simp at hi
      simp [hi]

section
variable {r : Option Nat} {P : Program} {Q : Exit → Act → World → Prop} {a : Act} {w : World} {N : Nat} {f : Nat → Value} {ds : List Deferred}

/-- The code's walk, in whatever frame of a function that the program has. -/
@[irreducible] def W (r : Option Nat) (P : Program) (c : Code) (Q : Exit → Act → World → Prop) (a : Act) (w : World) : Prop :=
  ∀ (b : Frame) (k : List Item) (cs : List Frame), b.roundOf = r → (∃ fn, P.funcs[b.fn]? = some fn) →
    ∃ e a' w', Q e a' w' ∧ ArrivesIn (Machine.fenced P (WF r)) P (lone (b.atR a (.code c :: k)) cs w) b k cs e a' w'
theorem WF_room (r : Option Nat) (n : Nat) : (WF r).room n := fun d h => by cases h
theorem WF_calm {r : Option Nat} {P : Program} {fr : Frame} {cs : List Frame} {w : World} (ha : fr.about P w = none) : (lone fr cs w).fenced P (WF r) := fenced_calm (n := 0) trivial (WF_room r _) ha
theorem W_of {c : Code} (h : c.wpIn (WF r) 0 P Q a w) : W r P c Q a w := by
  unfold W
  exact fun b k cs hro _ => h b k cs hro trivial (WF_room r _)
theorem W_at {c : Code} (h : W r P c Q a w) : ∀ (b : Frame) (k : List Item) (cs : List Frame), b.roundOf = r → (∃ fn, P.funcs[b.fn]? = some fn) →
    ∃ e a' w', Q e a' w' ∧ ArrivesIn (Machine.fenced P (WF r)) P (lone (b.atR a (.code c :: k)) cs w) b k cs e a' w' := by unfold W at h; exact h
@[irreducible] def L (r : Option Nat) (P : Program) (ops : Array Oper) (Q : Exit → Act → World → Prop) (l : List Oper) (a : Act) (w : World) : Prop := wpListIn (WF r) 0 P ops Q l a w
theorem L_eq (r : Option Nat) (P : Program) (ops : Array Oper) (Q : Exit → Act → World → Prop) (l : List Oper) (a : Act) (w : World) : L r P ops Q l a w = wpListIn (WF r) 0 P ops Q l a w := by unfold L; rfl

theorem calls_in {g : FuncId} {args : Array Value} {R : Ending → World → Prop} (h : Calls P g args w R) : CallsIn (WF r) 0 P g args w R :=
  (callsIn_wide (n := 0)).2 h

/-- A function's contract out of its body's walk. -/
theorem entry {g : FuncId} {fn : Func} {c : Code} {vs : List Value} {R : Ending → World → Prop} (hf : P.funcs[g]? = some fn) (hb : fn.body = some c) (hN : fn.ntmps = N) (hv : vs.length ≤ N)
    (h : W none P c (bodyPost P fn R) (fr N (argf vs) []) w) : Calls P g vs.toArray w R := by
  refine CallsIn.calls (F := WF none) (n := 0) ⟨trivial, fun cs hr => ?_⟩ (WF_room none)
  let b : Frame := { (default : Frame) with fn := g, kind := .normal, roundOf := none }
  have henter : Frame.enter P g vs.toArray .normal = b.atR (fr N (argf vs) []) [.code c] := by
    rw [← fr_entry N vs hv, ← hN]
    simp [Frame.enter, Frame.atR, hf, hb, b]
  obtain ⟨e, a', w', hq, harr⟩ := W_at h b [] cs rfl ⟨fn, hf⟩
  rw [← henter] at harr
  cases e with
  | normal =>
    obtain ⟨hd, v, hr', hR⟩ := hq
    exact ⟨.returned v, w', _, hR, StepsIn.trans harr (.one (WF_calm (fr := b.atR a' []) rfl) (stepR_end rfl)), rfl, rfl, hd, rfl, fn, hf, hr'⟩
  | ret =>
    obtain ⟨hd, v, hr', hR⟩ := hq
    obtain ⟨todo, hs⟩ := harr.1 rfl
    exact ⟨.returned v, w', _, hR, hs, rfl, rfl, hd, rfl, fn, hf, hr'⟩
  | panic chain =>
    obtain ⟨hd, hR⟩ := hq
    obtain ⟨todo, hs⟩ := harr
    exact ⟨.panicked chain, w', _, hR, hs, rfl, rfl, hd, fn, hf⟩
  | exit id => exact hq.elim
  | goto l => exact hq.elim
  | outgrown => exact ⟨.outgrown, w', b, hq, harr.resolve_left (by simp [b]), rfl, trivial⟩

theorem W_seq {x y : Code} (h : W r P x (Exit.then (fun a w => W r P y Q a w) Q) a w) : W r P (.seq x y) Q a w := by
  unfold W
  intro b k cs hro hb
  have h0 : (lone (b.atR a (.code (.seq x y) :: k)) cs w).fenced P (WF r) := WF_calm rfl
  obtain ⟨e, a₁, w₁, hq, harr⟩ := W_at h b (.code y :: k) cs hro hb
  cases e with
  | normal =>
    obtain ⟨e₂, a₂, w₂, hq₂, harr₂⟩ := W_at hq b k cs hro hb
    exact ⟨e₂, a₂, w₂, hq₂, .of_steps (.head h0 stepR_seq harr) harr₂⟩
  | exit id => exact ⟨_, a₁, w₁, hq, .of_steps (.one h0 stepR_seq) (.pass (x := .code y) rfl (fun _ _ => .inl (by simp)) harr)⟩
  | goto l => exact ⟨_, a₁, w₁, hq, .of_steps (.one h0 stepR_seq) (.pass (x := .code y) rfl (fun _ _ => .inl (by simp)) harr)⟩
  | ret => exact ⟨_, a₁, w₁, hq, .of_steps (.one h0 stepR_seq) (.pass (x := .code y) rfl (fun _ _ => .inl (by simp)) harr)⟩
  | panic ch => exact ⟨_, a₁, w₁, hq, .of_steps (.one h0 stepR_seq) (.pass (x := .code y) rfl (fun _ _ => .inl (by simp)) harr)⟩
  | outgrown => exact ⟨_, a₁, w₁, hq, .of_steps (.one h0 stepR_seq) (.pass (x := .code y) rfl (fun _ _ => .inl (by simp)) harr)⟩
theorem W_skip (h : Q .normal a w) : W r P .skip Q a w := W_of (wpIn_skip h)
theorem W_block {id : Nat} {c : Code} (h : W r P c (Exit.inBlock id Q) a w) : W r P (.block id c) Q a w := by
  unfold W
  intro b k cs hro hb
  have h0 : (lone (b.atR a (.code (.block id c) :: k)) cs w).fenced P (WF r) := WF_calm rfl
  obtain ⟨e, a₁, w₁, hq, harr⟩ := W_at h b (.inBlock id :: k) cs hro hb
  cases e with
  | normal => exact ⟨.normal, a₁, w₁, hq, .head h0 stepR_block (StepsIn.trans harr (.one (WF_calm rfl) stepR_inBlock))⟩
  | exit id' =>
    by_cases hid : id' = id
    · simp only [Exit.inBlock, hid, if_true] at hq
      exact ⟨.normal, a₁, w₁, hq, .head h0 stepR_block (harr.1 k (by simp [exitTo, hid]))⟩
    · simp only [Exit.inBlock, hid, if_false] at hq
      have this : (id == id') = false := by simp; exact fun h => hid h.symm
      have hx : exitTo id' (.inBlock id :: k) = exitTo id' k := by simp [exitTo, this]
      exact ⟨.exit id', a₁, w₁, hq, fun k' hk => .head h0 stepR_block (harr.1 k' (by rw [hx]; exact hk)),
        fun hr' hk => let ⟨k₁, h1, h2⟩ := harr.2 hr' (by rw [hx]; exact hk); ⟨k₁, h1, .head h0 stepR_block h2⟩⟩
  | goto l =>
    have hx : gotoIn l (.inBlock id :: k) = gotoIn l k := by simp [gotoIn]
    exact ⟨_, a₁, w₁, hq, fun k' hk => .head h0 stepR_block (harr.1 k' (by rw [hx]; exact hk)),
      fun hr' hk => let ⟨k₁, h1, h2⟩ := harr.2 hr' (by rw [hx]; exact hk); ⟨k₁, h1, .head h0 stepR_block h2⟩⟩
  | ret => exact ⟨_, a₁, w₁, hq, .of_steps (.one h0 stepR_block) harr⟩
  | panic ch => exact ⟨_, a₁, w₁, hq, .of_steps (.one h0 stepR_block) harr⟩
  | outgrown => exact ⟨_, a₁, w₁, hq, .of_steps (.one h0 stepR_block) harr⟩
theorem W_ret (h : Q .ret a w) : W r P .ret Q a w := W_of (wpIn_ret h)
theorem W_exit {id : Nat} (h : Q (.exit id) a w) : W r P (.exit id) Q a w := W_of (wpIn_exit h)
theorem W_if {c : Operand} {x y : Code} {b : Bool} (hc : a.eval c = .bool b) (ht : b = true → W r P x Q a w) (hf : b = false → W r P y Q a w) : W r P (.cond c x y) Q a w := by
  have h : W r P (if b then x else y) Q a w := by cases b <;> first | exact ht rfl | exact hf rfl
  unfold W
  intro b k cs hro hb
  obtain ⟨e, a', w', q, r⟩ := W_at h b k cs hro hb
  exact ⟨e, a', w', q, .of_steps (.one (WF_calm rfl) (stepR_cond hc)) r⟩
theorem W_region {id : Nat} {l : List Oper} (h : L r P l.toArray Q l a w) : W r P (.region id l.toArray false) Q a w := by rw [L_eq] at h; exact W_of (wpIn_region_lit h)
theorem W_mono {c : Code} {Q' : Exit → Act → World → Prop} (h : W r P c Q' a w) (hq : ∀ e a w, Q' e a w → Q e a w) : W r P c Q a w := by
  unfold W
  intro b k cs hro hb
  obtain ⟨e, a', w', q, r⟩ := W_at h b k cs hro hb
  exact ⟨e, a', w', hq _ _ _ q, r⟩

/-! ### One operation -/
def isDefer : Op → Bool
  | .defer _ => true
  | _ => false
/-- The operation yields v and leaves the world w'. -/
def Run (P : Program) (a : Act) (op : Op) (w : World) (v : Value) (w' : World) : Prop :=
  ∀ d ty pos aft g, (execOp a.eval ⟨d, op, ty, pos, aft, g⟩).run P w = .ok (.value v) w'
/-- The operation yields nothing and leaves the world w'. -/
def RunU (P : Program) (a : Act) (op : Op) (w : World) (w' : World) : Prop :=
  ∀ d ty pos aft g, (execOp a.eval ⟨d, op, ty, pos, aft, g⟩).run P w = .ok .skip w'

variable {ops : Array Oper} {rest : List Oper}

theorem sem_plain {o : Oper} (h : isDefer o.op = false) : o.semAt r a.eval = execOp a.eval o :=
  Oper.semAt_eq r a.eval o (fun c hc => by rw [hc] at h; cases h)

theorem L_nil (h : Q .normal a w) : L r P ops Q [] a w := by rw [L_eq]; exact h

theorem wanted_none {d : Option Tmp} {op : Op} {ty : TypeId} {pos : String} {aft : Array Edge} (y : Nat → Option Bool) : Region.wanted ⟨d, op, ty, pos, aft, none⟩ y = true := rfl

theorem L_wp {o : Oper} (hg : Region.wanted o (yielded ops a.tmps) = true) (h : o.wpIn (WF r) 0 P a w (fun a w => L r P ops Q rest a w) Q) : L r P ops Q (o :: rest) a w := by
  rw [L_eq]
  unfold wpListIn
  rw [if_pos hg]
  simp only [L_eq] at h
  exact h

theorem wp_of_run {o : Oper} {v : Value} {w' : World} {K : Act → World → Prop} (hd : isDefer o.op = false) (h : (execOp a.eval o).run P w = .ok (.value v) w') (k : K (a.put o.dst v) w') : o.wpIn (WF r) 0 P a w K Q := by
  refine ⟨fun _ _ => trivial, ?_⟩
  rw [show (WF r).round = r from rfl, sem_plain hd, h]
  exact k
theorem wp_of_runU {o : Oper} {w' : World} {K : Act → World → Prop} (hd : isDefer o.op = false) (h : (execOp a.eval o).run P w = .ok .skip w') (k : K (a.put o.dst undef) w') : o.wpIn (WF r) 0 P a w K Q := by
  refine ⟨fun _ _ => trivial, ?_⟩
  rw [show (WF r).round = r from rfl, sem_plain hd, h]
  exact k
theorem wp_of_call {o : Oper} {g : FuncId} {args : Array Value} {w₁ : World} {R : Ending → World → Prop} {K : Act → World → Prop} (hd : isDefer o.op = false) (h : (execOp a.eval o).run P w = .ok (.enter g args) w₁)
    (hc : Calls P g args w₁ R) (k : ∀ e w', R e w' → ∃ v, e = .returned v ∧ K (a.put o.dst v) w') : o.wpIn (WF r) 0 P a w K Q := by
  refine ⟨fun _ _ => trivial, ?_⟩
  rw [show (WF r).round = r from rfl, sem_plain hd, h]
  refine ⟨fun h => (by cases h), CallsIn.mono (calls_in (r := r) hc) ?_⟩
  intro e w' he
  obtain ⟨v, rfl, hk⟩ := k e w' he
  exact hk

theorem L_op {d : Tmp} {op : Op} {ty : TypeId} {pos : String} {aft : Array Edge} {v : Value} {w' : World} (h : Run P (fr N f ds) op w v w') (hd : isDefer op = false)
    (k : L r P ops Q rest (fr N (upd f d v) ds) w') : L r P ops Q (⟨some d, op, ty, pos, aft, none⟩ :: rest) (fr N f ds) w :=
  L_wp rfl (wp_of_run (o := ⟨some d, op, ty, pos, aft, none⟩) hd (h _ _ _ _ _) (by rw [fr_put]; exact k))
theorem L_opn {op : Op} {ty : TypeId} {pos : String} {aft : Array Edge} {v : Value} {w' : World} (h : Run P (fr N f ds) op w v w') (hd : isDefer op = false)
    (k : L r P ops Q rest (fr N f ds) w') : L r P ops Q (⟨none, op, ty, pos, aft, none⟩ :: rest) (fr N f ds) w :=
  L_wp rfl (wp_of_run (o := ⟨none, op, ty, pos, aft, none⟩) hd (h _ _ _ _ _) k)
theorem L_u {op : Op} {ty : TypeId} {pos : String} {aft : Array Edge} {w' : World} (h : RunU P (fr N f ds) op w w') (hd : isDefer op = false)
    (k : L r P ops Q rest (fr N f ds) w') : L r P ops Q (⟨none, op, ty, pos, aft, none⟩ :: rest) (fr N f ds) w :=
  L_wp rfl (wp_of_runU (o := ⟨none, op, ty, pos, aft, none⟩) hd (h _ _ _ _ _) k)

/-- A guard's bool. -/
def dstAt : List Oper → Nat → Option Tmp
  | [], _ => none
  | o :: _, 0 => o.dst
  | _ :: l, j + 1 => dstAt l j
theorem dstAt_eq : ∀ (l : List Oper) (j : Nat), ((l.toArray[j]?).bind (·.dst)) = dstAt l j
  | [], _ => by simp [dstAt]
  | o :: _, 0 => by simp [dstAt]
  | _ :: l, j + 1 => by have := dstAt_eq l j; simpa [dstAt] using this
theorem yields {l : List Oper} {j d : Nat} {b : Bool} (ho : dstAt l j = some d) (hN : Nat.blt d N = true) (hv : f d = .bool b) : yielded l.toArray (fr N f ds).tmps j = some b := by
  have hd : d < N := by simpa [Nat.blt_eq] using hN
  unfold yielded
  rw [dstAt_eq, ho]
  simp [fr, hd, hv]
theorem wanted_g {d : Option Tmp} {op : Op} {ty : TypeId} {pos : String} {aft : Array Edge} {j : Nat} {b : Bool} {y : Nat → Option Bool} (h : y j = some b) (c : Bool) : Region.wanted ⟨d, op, ty, pos, aft, some (j, c)⟩ y = (b == c) := by
  simp [Region.wanted, h]

theorem L_opg {l : List Oper} {d : Tmp} {op : Op} {ty : TypeId} {pos : String} {aft : Array Edge} {v : Value} {w' : World} {j e : Nat} {b c : Bool} (ho : dstAt l j = some e) (hN : Nat.blt e N = true) (hv : f e = .bool b) (hb : b = c) (h : Run P (fr N f ds) op w v w') (hd : isDefer op = false)
    (k : L r P l.toArray Q rest (fr N (upd f d v) ds) w') : L r P l.toArray Q (⟨some d, op, ty, pos, aft, some (j, c)⟩ :: rest) (fr N f ds) w :=
  L_wp (by rw [wanted_g (yields ho hN hv), hb]; simp) (wp_of_run (o := ⟨some d, op, ty, pos, aft, some (j, c)⟩) hd (h _ _ _ _ _) (by rw [fr_put]; exact k))
theorem L_skip {l : List Oper} {d : Tmp} {op : Op} {ty : TypeId} {pos : String} {aft : Array Edge} {j e : Nat} {b c : Bool} (ho : dstAt l j = some e) (hN : Nat.blt e N = true) (hv : f e = .bool b) (hbc : b = !c)
    (k : L r P l.toArray Q rest (fr N (upd f d undef) ds) w) : L r P l.toArray Q (⟨some d, op, ty, pos, aft, some (j, c)⟩ :: rest) (fr N f ds) w := by
  rw [L_eq] at k ⊢
  unfold wpListIn
  rw [if_neg (by rw [wanted_g (yields ho hN hv), hbc]; cases c <;> simp)]
  refine ⟨fun _ _ => trivial, ?_⟩
  rw [fr_put]; exact k

theorem yields_u {l : List Oper} {j d : Nat} (ho : dstAt l j = some d) (hN : Nat.blt d N = true) (hv : f d = undef) : yielded l.toArray (fr N f ds).tmps j = none := by
  have hd : d < N := by simpa [Nat.blt_eq] using hN
  unfold yielded
  rw [dstAt_eq, ho]
  simp [fr, hd, hv, undef]
theorem wanted_u {d : Option Tmp} {op : Op} {ty : TypeId} {pos : String} {aft : Array Edge} {j : Nat} {y : Nat → Option Bool} (h : y j = none) (c : Bool) : Region.wanted ⟨d, op, ty, pos, aft, some (j, c)⟩ y = false := by
  simp [Region.wanted, h]
/-- The guard itself has been passed over. -/
theorem L_skipu {l : List Oper} {d : Tmp} {op : Op} {ty : TypeId} {pos : String} {aft : Array Edge} {j e : Nat} {c : Bool} (ho : dstAt l j = some e) (hN : Nat.blt e N = true) (hv : f e = undef)
    (k : L r P l.toArray Q rest (fr N (upd f d undef) ds) w) : L r P l.toArray Q (⟨some d, op, ty, pos, aft, some (j, c)⟩ :: rest) (fr N f ds) w := by
  rw [L_eq] at k ⊢
  unfold wpListIn
  rw [if_neg (by rw [wanted_u (yields_u ho hN hv)]; simp)]
  refine ⟨fun _ _ => trivial, ?_⟩
  rw [fr_put]; exact k

/-- Part of a region's list walked for itself: what it comes to is handed on. -/
theorem L_cut {l₁ : List Oper} (mid : Act → World → Prop) (h : L r P ops (fun e a w => e = .normal ∧ mid a w) l₁ a w) (k : ∀ a w, mid a w → L r P ops Q rest a w) : L r P ops Q (l₁ ++ rest) a w := by
  simp only [L_eq] at h k ⊢
  induction l₁ generalizing a w with
  | nil => exact k _ _ h.2
  | cons o l ih =>
    unfold wpListIn at h
    show wpListIn (WF r) 0 P ops Q (o :: (l ++ rest)) a w
    unfold wpListIn
    split at h
    · rename_i hw
      rw [if_pos hw]
      refine ⟨fun _ _ => trivial, ?_⟩
      have h2 := h.2
      generalize (o.semAt (WF r).round a.eval).run P w = x at *
      cases x with
      | ok y w' =>
        cases y <;> simp only [Oper.uponIn] at h2 ⊢ <;>
          first
            | exact ih h2
            | exact ⟨h2.1, CallsIn.mono h2.2 (fun e w'' he => by cases e with | returned v => exact ih he | panicked c => exact absurd he.1 (by simp) | outgrown => obtain ⟨_, _, hq⟩ := he; exact absurd hq.1 (by simp))⟩
            | exact ⟨h2.1, RowsIn.mono h2.2 (fun v w'' he => ih he)⟩
            | exact ⟨h2.1, RoundIn.mono h2.2 (fun e w'' he => by cases e with | returned v => exact ih he | panicked c => exact absurd he.1 (by simp) | outgrown => obtain ⟨_, _, hq⟩ := he; exact absurd hq.1 (by simp))⟩
      | halt y w' => cases y <;> simp only [Oper.uponIn] at h2 ⊢; exact absurd h2.1 (by simp)
    · rename_i hw
      rw [if_neg hw]
      exact ⟨fun _ _ => trivial, ih h.2⟩
end
end Go.Proofs.YtilfjfpemjfalaaGreatDoor.Kx
