/- A region that draws its order, in whatever frame: operations whose value no other operation of the region can turn are taken first. -/
import Derived.Test.YtilfjfpemjfalaaGreatDoorKa
namespace Go.Proofs.YtilfjfpemjfalaaGreatDoor.Kx
open Go Go.RowKit
section
variable {r : Option Nat} {P : Program} {ops : Array Oper} {S : World → Prop} {K : Act → World → Prop}

/-- Only the end behind all operations is borne. -/
def Qn (K : Act → World → Prop) : Exit → Act → World → Prop := fun e a w => e = .normal ∧ K a w

theorem put_step {j : Nat} {oi oj : Oper} {v : Value} (hj : ops[j]? = some oj) (hap : oi.apart ops oj = true)
    (hsi : ∀ cs b, oi.op ≠ .select cs b) (hsj : ∀ cs b, oj.op ≠ .select cs b) (hdj : isDefer oj.op = false) {M : Act → World → Prop} {a : Act} {w : World}
    (hy : YieldsIf P ops S oi v a) (h : wpOpIn (WF r) 0 P ops (Qn K) j M (a.put oi.dst v) w) :
    wpOpIn (WF r) 0 P ops (Qn K) j (fun a' w' => YieldsIf P ops S oi v a' ∧ M (a'.put oi.dst v) w') a w := by
  obtain ⟨h1, h2, h3⟩ := Oper.apart_spec hap
  have keep : ∀ (a : Act), YieldsIf P ops S oi v a → ∀ u, YieldsIf P ops S oi v (a.put oj.dst u) := fun a hy u =>
    hy.of_same (execOp_put oi hsi a oj.dst u h3) (wanted_put oi a oj.dst u h3)
  have keepD : ∀ d, YieldsIf P ops S oi v { a with defers := d :: a.defers } := fun d => hy.of_same rfl rfl
  unfold wpOpIn at *
  simp only [hj] at *
  rw [wanted_put oj a oi.dst v h1] at h
  split
  · rename_i hw
    simp only [hw, if_true] at h
    unfold Oper.wpIn at *
    refine ⟨fun _ _ => trivial, ?_⟩
    have h := h.2
    rw [show (WF r).round = r from rfl, sem_plain hdj] at h ⊢
    rw [execOp_put oj hsj a oi.dst v h1] at h
    generalize (execOp a.eval oj).run P w = x at *
    cases x with
    | ok x w' =>
      cases x <;> simp only [Oper.uponIn] at h ⊢
      case value u => exact ⟨keep a hy u, by rw [← Act.put_comm a v u h2]; exact h⟩
      case skip => exact ⟨keep a hy _, by rw [← Act.put_comm a v undef h2]; exact h⟩
      case defer d =>
        refine ⟨keep _ (keepD d) _, ?_⟩
        rw [← Act.put_comm _ v undef h2, ← Act.put_defers]
        exact h
      case enter f args =>
        refine ⟨h.1, CallsIn.mono h.2 fun e w'' he => ?_⟩
        cases e with
        | returned u => exact ⟨keep a hy u, by rw [← Act.put_comm a v u h2]; exact he⟩
        | panicked c => exact absurd he.1 (by simp)
        | outgrown => obtain ⟨_, _, hq⟩ := he; exact absurd hq.1 (by simp)
      case row row args => exact ⟨h.1, RowsIn.mono h.2 fun u w'' he => ⟨keep a hy u, by rw [← Act.put_comm a v u h2]; exact he⟩⟩
      case round l f tmps assign body =>
        refine ⟨h.1, RoundIn.mono h.2 fun e w'' he => ?_⟩
        cases e with
        | returned u => exact ⟨keep a hy u, by rw [← Act.put_comm a v u h2]; exact he⟩
        | panicked c => exact absurd he.1 (by simp)
        | outgrown => obtain ⟨_, _, hq⟩ := he; exact absurd hq.1 (by simp)
    | halt x w' =>
      cases x <;> simp only [Oper.uponIn] at h ⊢
      case panic u => exact absurd h.1 (by simp)
  · rename_i hw
    simp only [hw] at h
    exact ⟨fun _ _ => trivial, keep a hy _, by rw [← Act.put_comm a v undef h2]; exact h.2⟩

theorem yields_step {i : Nat} {o : Oper} {v : Value} {a : Act} (hi : ops[i]? = some o) (hd : isDefer o.op = false) (hy : YieldsIf P ops S o v a)
    {M : Act → World → Prop} {w : World} (hS : S w) (h : M (a.put o.dst v) w) : wpOpIn (WF r) 0 P ops (Qn K) i M a w := by
  unfold wpOpIn
  simp only [hi]
  rcases hy with ⟨hw, hv⟩ | ⟨hw, rfl⟩
  · simp only [hw, if_true]
    exact wp_of_run hd (hv w hS) h
  · simp only [hw, Bool.false_eq_true, if_false]
    exact ⟨fun _ _ => trivial, h⟩

/-- Whatever order is picked from here on; S holds behind every operation. -/
def HA (r : Option Nat) (P : Program) (ops : Array Oper) (K : Act → World → Prop) (S : World → Prop) : Nat → Array Bool → Act → World → Prop
  | 0, listed, a, w => Region.ready .any ops listed = [] ∧ K a w
  | fuel + 1, listed, a, w =>
    (Region.ready .any ops listed = [] → K a w) ∧
    ∀ i ∈ Region.ready .any ops listed, wpOpIn (WF r) 0 P ops (Qn K) i (fun a' w' => S w' ∧ HA r P ops K S fuel (listed.setIfInBounds i true) a' w') a w

theorem any_of_HA : ∀ (fuel : Nat) (listed : Array Bool) (a : Act) (w : World), HA r P ops K S fuel listed a w → wpAnyIn (WF r) 0 P .any ops (Qn K) fuel listed a w
  | 0, _, _, _, h => ⟨h.1, rfl, h.2⟩
  | fuel + 1, _, _, _, h => ⟨fun h0 => ⟨rfl, h.1 h0⟩, fun i hi => wpOpIn_mono (fun a' w' h' => any_of_HA fuel _ a' w' h'.2) (h.2 i hi)⟩

def noDefer (ops : Array Oper) : Bool := ops.all fun o => !isDefer o.op
theorem noDefer_spec (h : noDefer ops = true) {j : Nat} {o : Oper} (ho : ops[j]? = some o) : isDefer o.op = false := by
  have := Array.all_eq_true_iff_forall_mem.1 h o (Array.mem_of_getElem? ho)
  simpa using this

theorem H_first {i : Nat} {oi : Oper} {v : Value} (hi : ops[i]? = some oi) (hsel : ∀ (j : Nat) (o : Oper) cs b, ops[j]? = some o → o.op ≠ .select cs b) (hnd : noDefer ops = true) :
    ∀ (fuel : Nat) (listed : Array Bool) (a : Act) (w : World),
      (∀ j oj, ops[j]? = some oj → j ≠ i → listed.getD j true = false → (∀ e ∈ oj.after, Region.binds .any e = true → e.on ≠ i) → oi.apart ops oj = true) →
      i ∈ Region.ready .any ops listed → YieldsIf P ops S oi v a → S w →
      HA r P ops K S fuel (listed.setIfInBounds i true) (a.put oi.dst v) w → HA r P ops K S (fuel + 1) listed a w := by
  intro fuel
  induction fuel with
  | zero =>
    intro listed a w _ hr hy hS H
    refine ⟨fun h => (by rw [h] at hr; cases hr), fun j hj => ?_⟩
    by_cases hji : j = i
    · subst hji; exact yields_step hi (noDefer_spec hnd hi) hy hS ⟨hS, H⟩
    · have := ready_mono hj hji
      rw [H.1] at this
      cases this
  | succ fuel ih =>
    intro listed a w hfree hr hy hS H
    refine ⟨fun h => (by rw [h] at hr; cases hr), fun j hj => ?_⟩
    by_cases hji : j = i
    · subst hji; exact yields_step hi (noDefer_spec hnd hi) hy hS ⟨hS, H⟩
    · have h1 := H.2 j (ready_mono hj hji)
      obtain ⟨hjun, oj, hoj, hall⟩ := mem_ready.1 hj
      have hnot : ∀ e ∈ oj.after, Region.binds .any e = true → e.on ≠ i := fun e he hb heq => by
        have h1 := hall e he hb
        have h0 := (mem_ready.1 hr).1
        rw [heq] at h1
        rcases Nat.lt_or_ge i listed.size with h' | h'
        · simp [h'] at h0 h1; rw [h0] at h1; cases h1
        · simp [Array.getElem?_eq_none h'] at h1
      have h2 := put_step (r := r) hoj (hfree j oj hoj hji hjun hnot) (fun cs b => hsel i oi cs b hi) (fun cs b => hsel j oj cs b hoj) (noDefer_spec hnd hoj) hy h1
      have hfree' : ∀ k ok, ops[k]? = some ok → k ≠ i → (listed.setIfInBounds j true).getD k true = false →
          (∀ e ∈ ok.after, Region.binds .any e = true → e.on ≠ i) → oi.apart ops ok = true := fun k ok hk hki hun hno => by
        refine hfree k ok hk hki ?_ hno
        by_cases hjk : j = k
        · subst hjk; exact hjun
        · rw [getD_set_ne true hjk] at hun; exact hun
      refine wpOpIn_mono (fun a' w' h3 => ⟨h3.2.1, ih (listed.setIfInBounds j true) a' w' hfree' (ready_mono hr (Ne.symm hji)) h3.1 h3.2.1 ?_⟩) h2
      rw [Array.setIfInBounds_comm _ _ hji]
      exact h3.2.2

def opAt : List Oper → Nat → Option Oper
  | [], _ => none
  | o :: _, 0 => some o
  | _ :: l, j + 1 => opAt l j
theorem opAt_eq : ∀ (l : List Oper) (j : Nat), l.toArray[j]? = opAt l j
  | [], _ => by simp [opAt]
  | o :: _, 0 => by simp [opAt]
  | _ :: l, j + 1 => by have := opAt_eq l j; simpa [opAt] using this
/-- May number i be taken first? (all that is closed about it, in one Bool) -/
def mayFirst (ops : Array Oper) (listed : Array Bool) (i : Nat) : Bool :=
  Region.noSelect ops && noDefer ops && Region.free .any ops listed i && (Region.ready .any ops listed).contains i

variable {N : Nat} {f : Nat → Value} {ds : List Deferred} {fuel : Nat} {listed : Array Bool} {w : World}

theorem H_op {l : List Oper} {i : Nat} {d : Tmp} {op : Op} {ty : TypeId} {pos : String} {aft : Array Edge} {v : Value} (hi : opAt l i = some ⟨some d, op, ty, pos, aft, none⟩) (hm : mayFirst l.toArray listed i = true)
    (hS : S w) (hy : ∀ w, S w → Run P (fr N f ds) op w v w) (k : HA r P l.toArray K S fuel (listed.setIfInBounds i true) (fr N (upd f d v) ds) w) : HA r P l.toArray K S (fuel + 1) listed (fr N f ds) w := by
  simp only [mayFirst, Bool.and_eq_true] at hm
  obtain ⟨⟨⟨h1, h2⟩, h3⟩, h4⟩ := hm
  refine H_first ((opAt_eq l i).trans hi) (Region.noSelect_spec h1) h2 fuel listed _ w (Region.free_spec ((opAt_eq l i).trans hi) h3) (by simpa using h4) (v := v) (.inl ⟨rfl, fun w hw => hy w hw _ _ _ _ _⟩) hS ?_
  rw [fr_put]; exact k
theorem H_opg {l : List Oper} {i : Nat} {d : Tmp} {op : Op} {ty : TypeId} {pos : String} {aft : Array Edge} {v : Value} {j e : Nat} {b c : Bool} (hi : opAt l i = some ⟨some d, op, ty, pos, aft, some (j, c)⟩) (hm : mayFirst l.toArray listed i = true)
    (ho : dstAt l j = some e) (hN : Nat.blt e N = true) (hv : f e = .bool b) (hb : b = c)
    (hS : S w) (hy : ∀ w, S w → Run P (fr N f ds) op w v w) (k : HA r P l.toArray K S fuel (listed.setIfInBounds i true) (fr N (upd f d v) ds) w) : HA r P l.toArray K S (fuel + 1) listed (fr N f ds) w := by
  simp only [mayFirst, Bool.and_eq_true] at hm
  obtain ⟨⟨⟨h1, h2⟩, h3⟩, h4⟩ := hm
  refine H_first ((opAt_eq l i).trans hi) (Region.noSelect_spec h1) h2 fuel listed _ w (Region.free_spec ((opAt_eq l i).trans hi) h3) (by simpa using h4) (v := v) (.inl ⟨by rw [wanted_g (yields ho hN hv), hb]; simp, fun w hw => hy w hw _ _ _ _ _⟩) hS ?_
  rw [fr_put]; exact k
theorem H_skip {l : List Oper} {i : Nat} {d : Tmp} {op : Op} {ty : TypeId} {pos : String} {aft : Array Edge} {j e : Nat} {b c : Bool} (hi : opAt l i = some ⟨some d, op, ty, pos, aft, some (j, c)⟩) (hm : mayFirst l.toArray listed i = true)
    (ho : dstAt l j = some e) (hN : Nat.blt e N = true) (hv : f e = .bool b) (hbc : b = !c)
    (hS : S w) (k : HA r P l.toArray K S fuel (listed.setIfInBounds i true) (fr N (upd f d undef) ds) w) : HA r P l.toArray K S (fuel + 1) listed (fr N f ds) w := by
  simp only [mayFirst, Bool.and_eq_true] at hm
  obtain ⟨⟨⟨h1, h2⟩, h3⟩, h4⟩ := hm
  refine H_first ((opAt_eq l i).trans hi) (Region.noSelect_spec h1) h2 fuel listed _ w (Region.free_spec ((opAt_eq l i).trans hi) h3) (by simpa using h4) (v := undef) (.inr ⟨by rw [wanted_g (yields ho hN hv), hbc]; cases c <;> rfl, rfl⟩) hS ?_
  rw [fr_put]; exact k
theorem H_skipu {l : List Oper} {i : Nat} {d : Tmp} {op : Op} {ty : TypeId} {pos : String} {aft : Array Edge} {j e : Nat} {c : Bool} (hi : opAt l i = some ⟨some d, op, ty, pos, aft, some (j, c)⟩) (hm : mayFirst l.toArray listed i = true)
    (ho : dstAt l j = some e) (hN : Nat.blt e N = true) (hv : f e = undef)
    (hS : S w) (k : HA r P l.toArray K S fuel (listed.setIfInBounds i true) (fr N (upd f d undef) ds) w) : HA r P l.toArray K S (fuel + 1) listed (fr N f ds) w := by
  simp only [mayFirst, Bool.and_eq_true] at hm
  obtain ⟨⟨⟨h1, h2⟩, h3⟩, h4⟩ := hm
  refine H_first ((opAt_eq l i).trans hi) (Region.noSelect_spec h1) h2 fuel listed _ w (Region.free_spec ((opAt_eq l i).trans hi) h3) (by simpa using h4) (v := undef) (.inr ⟨by rw [wanted_u (yields_u ho hN hv)], rfl⟩) hS ?_
  rw [fr_put]; exact k
/-- The one operation that may come up now. -/
theorem H_one {l : List Oper} {i : Nat} {o : Oper} {a : Act} (hi : opAt l i = some o) (hr : Region.ready .any l.toArray listed = [i]) (hg : Region.wanted o (yielded l.toArray a.tmps) = true)
    (h : o.wpIn (WF r) 0 P a w (fun a' w' => S w' ∧ HA r P l.toArray K S fuel (listed.setIfInBounds i true) a' w') (Qn K)) : HA r P l.toArray K S (fuel + 1) listed a w := by
  refine ⟨fun h0 => (by rw [hr] at h0; cases h0), fun j hj => ?_⟩
  rw [hr] at hj
  obtain rfl : j = i := by simpa using hj
  unfold wpOpIn
  simp only [opAt_eq, hi, hg, if_true]
  exact h
theorem H_done {a : Act} (hr : Region.ready .any ops listed = []) (h : K a w) : ∀ fuel, HA r P ops K S fuel listed a w
  | 0 => ⟨hr, h⟩
  | _ + 1 => ⟨fun _ => h, by rw [hr]; simp⟩
theorem W_draw {id : Nat} {l : List Oper} {Q : Exit → Act → World → Prop} {a : Act} (S : World → Prop) (n : Nat) (hn : l.length = n) (hm : P.follows .mixedOrders = true)
    (h : HA r P l.toArray (fun a w => Q .normal a w) S n (Array.replicate n false) a w.drew) : W r P (.region id l.toArray true) Q a w := by
  refine W_of ?_
  refine wpIn_mono (wpIn_region_any (Q := Qn fun a w => Q .normal a w) hm ?_) (fun e a w hq => by obtain ⟨rfl, hk⟩ := hq; exact hk)
  subst hn
  have := any_of_HA _ _ _ _ h
  simpa using this
end
attribute [irreducible] HA
end Go.Proofs.YtilfjfpemjfalaaGreatDoor.Kx
