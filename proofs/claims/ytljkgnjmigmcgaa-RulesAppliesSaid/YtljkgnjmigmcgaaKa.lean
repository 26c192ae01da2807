/- The frame rules of our own walk: a frame as a function of its slots, one lemma for each form of code. -/
import Derived.OrdersIn
import Derived.TacticsIn
import Derived.OrdersHeld
import Derived.Below
import Derived.RangeFuncOwn
namespace Go.Proofs.Ytljkgnjmigmcgaa.Kx
open Go Go.RowKit

/-- A fence that lets everything in; r: in which round's frame. -/
def WF (r : Option Nat) : Fence := { fn := fun _ => True, depth := none, alive := false, round := r }

/-- Slot d holds v, the others are as before. -/
def upd (f : Nat → Value) (d : Nat) (v : Value) : Nat → Value := fun s => match Nat.beq s d with | true => v | false => f s

theorem upd_same (f : Nat → Value) (d : Nat) (v : Value) : upd f d v d = v := by simp [upd]
theorem upd_ne (f : Nat → Value) {d s : Nat} (v : Value) (h : s ≠ d) : upd f d v s = f s := by
  have : Nat.beq s d = false := by
    cases hb : Nat.beq s d with
    | false => rfl
    | true => exact absurd (Nat.eq_of_beq_eq_true hb) h
  simp [upd, this]

/-- A frame of N slots. -/
def fr (N : Nat) (f : Nat → Value) (ds : List Deferred) : Act := { tmps := Array.ofFn (n := N) fun i => f i.val, defers := ds }
def argf (vs : List Value) : Nat → Value := fun i => (vs[i]?).getD undef

theorem ev {N t : Nat} {f : Nat → Value} {ds : List Deferred} {v : Value} (h : Nat.blt t N = true) (hv : f t = v) : (fr N f ds).eval (.tmp t) = v := by
  have ht : t < N := by simpa [Nat.blt_eq] using h
  subst hv
  simp [fr, Act.eval, ht]

theorem fr_put {N d : Nat} {f : Nat → Value} {ds : List Deferred} {v : Value} : (fr N f ds).put (some d) v = fr N (upd f d v) ds := by
  unfold fr Act.put
  simp only [Act.mk.injEq, and_true]
  apply Array.ext
  · simp
  · intro i h1 h2
    simp only [Array.size_ofFn] at h2
    rw [Array.getElem_setIfInBounds (by simpa using h1)]
    by_cases hd : d = i
    · subst hd; simp [upd_same]
    · simp [hd, upd_ne f v (Ne.symm hd)]

theorem fr_put_none {N : Nat} {f : Nat → Value} {ds : List Deferred} {v : Value} : (fr N f ds).put none v = fr N f ds := rfl

theorem fr_entry (N : Nat) (vs : List Value) (h : vs.length ≤ N) :
    ({ tmps := vs.toArray ++ Array.replicate (N - vs.toArray.size) undef, defers := [] } : Act) = fr N (argf vs) [] := by
  unfold fr
  simp only [Act.mk.injEq, and_true]
  apply Array.ext
  · simp; omega
  · intro i h1 h2
    simp only [Array.size_ofFn] at h2
    simp only [Array.getElem_ofFn, argf]
    rw [Array.getElem_append]
    split
    · rename_i hi
      simp at hi
      simp [hi]
    · rename_i hi
      simp at hi
      simp [hi]

section
variable {r : Option Nat} {P : Program} {Q : Exit → Act → World → Prop} {a : Act} {w : World} {N : Nat} {f : Nat → Value} {ds : List Deferred}

@[irreducible] def W (r : Option Nat) (P : Program) (c : Code) (Q : Exit → Act → World → Prop) (a : Act) (w : World) : Prop := c.wpIn (WF r) 0 P Q a w
theorem W_eq (r : Option Nat) (P : Program) (c : Code) (Q : Exit → Act → World → Prop) (a : Act) (w : World) : W r P c Q a w = c.wpIn (WF r) 0 P Q a w := by unfold W; rfl
@[irreducible] def L (r : Option Nat) (P : Program) (ops : Array Oper) (Q : Exit → Act → World → Prop) (l : List Oper) (a : Act) (w : World) : Prop := wpListIn (WF r) 0 P ops Q l a w
theorem L_eq (r : Option Nat) (P : Program) (ops : Array Oper) (Q : Exit → Act → World → Prop) (l : List Oper) (a : Act) (w : World) : L r P ops Q l a w = wpListIn (WF r) 0 P ops Q l a w := by unfold L; rfl

theorem calls_in {g : FuncId} {args : Array Value} {R : Ending → World → Prop} (h : Calls P g args w R) : CallsIn (WF r) 0 P g args w R :=
  (callsIn_wide (n := 0)).2 h

/-- A function's contract out of its body's walk. -/
theorem entry {g : FuncId} {fn : Func} {c : Code} {vs : List Value} {R : Ending → World → Prop} (hf : P.funcs[g]? = some fn) (hb : fn.body = some c) (hN : fn.ntmps = N) (hv : vs.length ≤ N)
    (h : W none P c (bodyPost P fn R) (fr N (argf vs) []) w) : Calls P g vs.toArray w R := by
  refine (callsIn_wide (n := 0)).1 (callsIn_of_wp hf hb trivial ?_ rfl)
  rw [hN, fr_entry N vs hv]
  rw [W_eq] at h
  exact h

theorem W_seq {x y : Code} (h : W r P x (Exit.then (fun a w => W r P y Q a w) Q) a w) : W r P (.seq x y) Q a w := by
  simp only [W_eq] at h ⊢; exact wpIn_seq h
theorem W_skip (h : Q .normal a w) : W r P .skip Q a w := by rw [W_eq]; exact wpIn_skip h
theorem W_block {id : Nat} {c : Code} (h : W r P c (Exit.inBlock id Q) a w) : W r P (.block id c) Q a w := by rw [W_eq] at h ⊢; exact wpIn_block h
theorem W_ret (h : Q .ret a w) : W r P .ret Q a w := by rw [W_eq]; exact wpIn_ret h
theorem W_exit {id : Nat} (h : Q (.exit id) a w) : W r P (.exit id) Q a w := by rw [W_eq]; exact wpIn_exit h
theorem W_if {c : Operand} {x y : Code} {b : Bool} (hc : a.eval c = .bool b) (ht : b = true → W r P x Q a w) (hf : b = false → W r P y Q a w) : W r P (.cond c x y) Q a w := by
  simp only [W_eq] at ht hf ⊢; exact wpIn_cond_split hc ht hf
theorem W_region {id : Nat} {l : List Oper} (h : L r P l.toArray Q l a w) : W r P (.region id l.toArray false) Q a w := by rw [W_eq]; rw [L_eq] at h; exact wpIn_region_lit h
theorem W_mono {c : Code} {Q' : Exit → Act → World → Prop} (h : W r P c Q' a w) (hq : ∀ e a w, Q' e a w → Q e a w) : W r P c Q a w := by rw [W_eq] at h ⊢; exact wpIn_mono h hq

/-- A loop whose rounds use up fuel. -/
theorem W_loop {c : Code} (I : Nat → Act → World → Prop) (n : Nat) (h0 : I n a w)
    (round : ∀ n a w, I n a w → W r P c (Exit.then (fun a' w' => ∃ m, m < n ∧ I m a' w') Q) a w) : W r P (.loop c) Q a w := by
  simp only [W_eq] at round ⊢
  intro b k cs hro hb hr
  have key : ∀ j a w, I j a w → ∃ e a' w', Q e a' w' ∧ ArrivesIn (Machine.fenced P (WF r)) P (lone (b.atR a (.code c :: .inLoop c :: k)) cs w) b k cs e a' w' := by
    intro j
    induction j using Nat.strongRecOn with
    | _ j ih =>
      intro a w hI
      obtain ⟨e, a₁, w₁, hq, harr⟩ := round j a w hI b (.inLoop c :: k) cs hro hb hr
      cases e with
      | normal =>
        obtain ⟨m, hlt, hI₁⟩ := hq
        obtain ⟨e₂, a₂, w₂, hq₂, harr₂⟩ := ih m hlt a₁ w₁ hI₁
        exact ⟨e₂, a₂, w₂, hq₂, .of_steps (StepsIn.trans harr (.one (fenced_calm hb hr rfl) stepR_inLoop)) harr₂⟩
      | exit id => exact ⟨_, a₁, w₁, hq, .pass (x := .inLoop c) rfl (fun _ _ => .inl (by simp)) harr⟩
      | goto l => exact ⟨_, a₁, w₁, hq, .pass (x := .inLoop c) rfl (fun _ _ => .inl (by simp)) harr⟩
      | ret => exact ⟨_, a₁, w₁, hq, .pass (x := .inLoop c) rfl (fun _ _ => .inl (by simp)) harr⟩
      | panic ch => exact ⟨_, a₁, w₁, hq, .pass (x := .inLoop c) rfl (fun _ _ => .inl (by simp)) harr⟩
      | outgrown => exact ⟨_, a₁, w₁, hq, .pass (x := .inLoop c) rfl (fun _ _ => .inl (by simp)) harr⟩
  obtain ⟨e, a', w', hq, harr⟩ := key n a w h0
  exact ⟨e, a', w', hq, .of_steps (.one (fenced_calm hb hr rfl) stepR_loop) harr⟩

/-! ### One operation -/
def isDefer : Op → Bool
  | .defer _ => true
  | _ => false
/-- The operation yields v and leaves the world w'. -/
def Run (P : Program) (a : Act) (op : Op) (w : World) (v : Value) (w' : World) : Prop :=
  ∀ d ty pos aft g, (execOp a.eval ⟨d, op, ty, pos, aft, g⟩).run P w = .ok (.value v) w'
/-- The operation yields nothing and leaves the world w'. -/
def RunU (P : Program) (a : Act) (op : Op) (w : World) (w' : World) : Prop :=
  ∀ d ty pos aft g, (execOp a.eval ⟨d, op, ty, pos, aft, g⟩).run P w = .ok .skip w'

variable {ops : Array Oper} {rest : List Oper}

theorem sem_plain {o : Oper} (h : isDefer o.op = false) : o.semAt r a.eval = execOp a.eval o :=
  Oper.semAt_eq r a.eval o (fun c hc => by rw [hc] at h; cases h)

theorem L_nil (h : Q .normal a w) : L r P ops Q [] a w := by rw [L_eq]; exact h

theorem wanted_none {d : Option Tmp} {op : Op} {ty : TypeId} {pos : String} {aft : Array Edge} (y : Nat → Option Bool) : Region.wanted ⟨d, op, ty, pos, aft, none⟩ y = true := rfl

theorem L_wp {o : Oper} (hg : Region.wanted o (yielded ops a.tmps) = true) (h : o.wpIn (WF r) 0 P a w (fun a w => L r P ops Q rest a w) Q) : L r P ops Q (o :: rest) a w := by
  rw [L_eq]
  unfold wpListIn
  rw [if_pos hg]
  simp only [L_eq] at h
  exact h

theorem wp_of_run {o : Oper} {v : Value} {w' : World} {K : Act → World → Prop} (hd : isDefer o.op = false) (h : (execOp a.eval o).run P w = .ok (.value v) w') (k : K (a.put o.dst v) w') : o.wpIn (WF r) 0 P a w K Q := by
  refine ⟨fun _ _ => trivial, ?_⟩
  rw [show (WF r).round = r from rfl, sem_plain hd, h]
  exact k
theorem wp_of_runU {o : Oper} {w' : World} {K : Act → World → Prop} (hd : isDefer o.op = false) (h : (execOp a.eval o).run P w = .ok .skip w') (k : K (a.put o.dst undef) w') : o.wpIn (WF r) 0 P a w K Q := by
  refine ⟨fun _ _ => trivial, ?_⟩
  rw [show (WF r).round = r from rfl, sem_plain hd, h]
  exact k
theorem wp_of_call {o : Oper} {g : FuncId} {args : Array Value} {w₁ : World} {R : Ending → World → Prop} {K : Act → World → Prop} (hd : isDefer o.op = false) (h : (execOp a.eval o).run P w = .ok (.enter g args) w₁)
    (hc : Calls P g args w₁ R) (k : ∀ e w', R e w' → ∃ v, e = .returned v ∧ K (a.put o.dst v) w') : o.wpIn (WF r) 0 P a w K Q := by
  refine ⟨fun _ _ => trivial, ?_⟩
  rw [show (WF r).round = r from rfl, sem_plain hd, h]
  refine ⟨fun h => (by cases h), CallsIn.mono (calls_in (r := r) hc) ?_⟩
  intro e w' he
  obtain ⟨v, rfl, hk⟩ := k e w' he
  exact hk

theorem L_op {d : Tmp} {op : Op} {ty : TypeId} {pos : String} {aft : Array Edge} {v : Value} {w' : World} (h : Run P (fr N f ds) op w v w') (hd : isDefer op = false)
    (k : L r P ops Q rest (fr N (upd f d v) ds) w') : L r P ops Q (⟨some d, op, ty, pos, aft, none⟩ :: rest) (fr N f ds) w :=
  L_wp rfl (wp_of_run (o := ⟨some d, op, ty, pos, aft, none⟩) hd (h _ _ _ _ _) (by rw [fr_put]; exact k))
theorem L_opn {op : Op} {ty : TypeId} {pos : String} {aft : Array Edge} {v : Value} {w' : World} (h : Run P (fr N f ds) op w v w') (hd : isDefer op = false)
    (k : L r P ops Q rest (fr N f ds) w') : L r P ops Q (⟨none, op, ty, pos, aft, none⟩ :: rest) (fr N f ds) w :=
  L_wp rfl (wp_of_run (o := ⟨none, op, ty, pos, aft, none⟩) hd (h _ _ _ _ _) k)
theorem L_u {op : Op} {ty : TypeId} {pos : String} {aft : Array Edge} {w' : World} (h : RunU P (fr N f ds) op w w') (hd : isDefer op = false)
    (k : L r P ops Q rest (fr N f ds) w') : L r P ops Q (⟨none, op, ty, pos, aft, none⟩ :: rest) (fr N f ds) w :=
  L_wp rfl (wp_of_runU (o := ⟨none, op, ty, pos, aft, none⟩) hd (h _ _ _ _ _) k)

/-- A guard's bool. -/
def dstAt : List Oper → Nat → Option Tmp
  | [], _ => none
  | o :: _, 0 => o.dst
  | _ :: l, j + 1 => dstAt l j
theorem dstAt_eq : ∀ (l : List Oper) (j : Nat), ((l.toArray[j]?).bind (·.dst)) = dstAt l j
  | [], _ => by simp [dstAt]
  | o :: _, 0 => by simp [dstAt]
  | _ :: l, j + 1 => by have := dstAt_eq l j; simpa [dstAt] using this
theorem yields {l : List Oper} {j d : Nat} {b : Bool} (ho : dstAt l j = some d) (hN : Nat.blt d N = true) (hv : f d = .bool b) : yielded l.toArray (fr N f ds).tmps j = some b := by
  have hd : d < N := by simpa [Nat.blt_eq] using hN
  unfold yielded
  rw [dstAt_eq, ho]
  simp [fr, hd, hv]
theorem wanted_g {d : Option Tmp} {op : Op} {ty : TypeId} {pos : String} {aft : Array Edge} {j : Nat} {b : Bool} {y : Nat → Option Bool} (h : y j = some b) (c : Bool) : Region.wanted ⟨d, op, ty, pos, aft, some (j, c)⟩ y = (b == c) := by
  simp [Region.wanted, h]

theorem L_opg {l : List Oper} {d : Tmp} {op : Op} {ty : TypeId} {pos : String} {aft : Array Edge} {v : Value} {w' : World} {j e : Nat} {b c : Bool} (ho : dstAt l j = some e) (hN : Nat.blt e N = true) (hv : f e = .bool b) (hb : b = c) (h : Run P (fr N f ds) op w v w') (hd : isDefer op = false)
    (k : L r P l.toArray Q rest (fr N (upd f d v) ds) w') : L r P l.toArray Q (⟨some d, op, ty, pos, aft, some (j, c)⟩ :: rest) (fr N f ds) w :=
  L_wp (by rw [wanted_g (yields ho hN hv), hb]; simp) (wp_of_run (o := ⟨some d, op, ty, pos, aft, some (j, c)⟩) hd (h _ _ _ _ _) (by rw [fr_put]; exact k))
theorem L_skip {l : List Oper} {d : Tmp} {op : Op} {ty : TypeId} {pos : String} {aft : Array Edge} {j e : Nat} {b c : Bool} (ho : dstAt l j = some e) (hN : Nat.blt e N = true) (hv : f e = .bool b) (hbc : b = !c)
    (k : L r P l.toArray Q rest (fr N (upd f d undef) ds) w) : L r P l.toArray Q (⟨some d, op, ty, pos, aft, some (j, c)⟩ :: rest) (fr N f ds) w := by
  rw [L_eq] at k ⊢
  unfold wpListIn
  rw [if_neg (by rw [wanted_g (yields ho hN hv), hbc]; cases c <;> simp)]
  refine ⟨fun _ _ => trivial, ?_⟩
  rw [fr_put]; exact k

theorem yields_u {l : List Oper} {j d : Nat} (ho : dstAt l j = some d) (hN : Nat.blt d N = true) (hv : f d = undef) : yielded l.toArray (fr N f ds).tmps j = none := by
  have hd : d < N := by simpa [Nat.blt_eq] using hN
  unfold yielded
  rw [dstAt_eq, ho]
  simp [fr, hd, hv, undef]
theorem wanted_u {d : Option Tmp} {op : Op} {ty : TypeId} {pos : String} {aft : Array Edge} {j : Nat} {y : Nat → Option Bool} (h : y j = none) (c : Bool) : Region.wanted ⟨d, op, ty, pos, aft, some (j, c)⟩ y = false := by
  simp [Region.wanted, h]
/-- The guard itself has been passed over. -/
theorem L_skipu {l : List Oper} {d : Tmp} {op : Op} {ty : TypeId} {pos : String} {aft : Array Edge} {j e : Nat} {c : Bool} (ho : dstAt l j = some e) (hN : Nat.blt e N = true) (hv : f e = undef)
    (k : L r P l.toArray Q rest (fr N (upd f d undef) ds) w) : L r P l.toArray Q (⟨some d, op, ty, pos, aft, some (j, c)⟩ :: rest) (fr N f ds) w := by
  rw [L_eq] at k ⊢
  unfold wpListIn
  rw [if_neg (by rw [wanted_u (yields_u ho hN hv)]; simp)]
  refine ⟨fun _ _ => trivial, ?_⟩
  rw [fr_put]; exact k

/-- Part of a region's list walked for itself: what it comes to is handed on. -/
theorem L_cut {l₁ : List Oper} (mid : Act → World → Prop) (h : L r P ops (fun e a w => e = .normal ∧ mid a w) l₁ a w) (k : ∀ a w, mid a w → L r P ops Q rest a w) : L r P ops Q (l₁ ++ rest) a w := by
  simp only [L_eq] at h k ⊢
  induction l₁ generalizing a w with
  | nil => exact k _ _ h.2
  | cons o l ih =>
    unfold wpListIn at h
    show wpListIn (WF r) 0 P ops Q (o :: (l ++ rest)) a w
    unfold wpListIn
    split at h
    · rename_i hw
      rw [if_pos hw]
      refine ⟨fun _ _ => trivial, ?_⟩
      have h2 := h.2
      generalize (o.semAt (WF r).round a.eval).run P w = x at *
      cases x with
      | ok y w' =>
        cases y <;> simp only [Oper.uponIn] at h2 ⊢ <;>
          first
            | exact ih h2
            | exact ⟨h2.1, CallsIn.mono h2.2 (fun e w'' he => by cases e with | returned v => exact ih he | panicked c => exact absurd he.1 (by simp) | outgrown => obtain ⟨_, _, hq⟩ := he; exact absurd hq.1 (by simp))⟩
            | exact ⟨h2.1, RowsIn.mono h2.2 (fun v w'' he => ih he)⟩
            | exact ⟨h2.1, RoundIn.mono h2.2 (fun e w'' he => by cases e with | returned v => exact ih he | panicked c => exact absurd he.1 (by simp) | outgrown => obtain ⟨_, _, hq⟩ := he; exact absurd hq.1 (by simp))⟩
      | halt y w' => cases y <;> simp only [Oper.uponIn] at h2 ⊢; exact absurd h2.1 (by simp)
    · rename_i hw
      rw [if_neg hw]
      exact ⟨fun _ _ => trivial, ih h.2⟩
end
end Go.Proofs.Ytljkgnjmigmcgaa.Kx
