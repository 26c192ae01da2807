/- Memory: what is never written again (M), what is ours alone (Own), and the world that holds both (St). -/
import Derived.Test.YtilfjfpemjfalaaGreatDoorKb
namespace Go.Proofs.YtilfjfpemjfalaaGreatDoor.Kx
open Go Go.RowKit

/-- What some blocks hold for good. -/
abbrev Mem := Nat → Option (Array Value)
/-- The first cells of c' are those of c. -/
def Pre (c c' : Array Value) : Prop := ∀ (j : Nat) (v : Value), c[j]? = some v → c'[j]? = some v
theorem Pre.refl (c : Array Value) : Pre c c := fun _ _ h => h
theorem Pre.trans {a b c : Array Value} (h : Pre a b) (k : Pre b c) : Pre a c := fun j v x => k j v (h j v x)
def Mem.le (M M' : Mem) : Prop := ∀ b c, M b = some c → ∃ c', M' b = some c' ∧ Pre c c'
theorem Mem.le_refl (M : Mem) : M.le M := fun _ c h => ⟨c, h, Pre.refl c⟩
theorem Mem.le_trans {A B C : Mem} (h : A.le B) (k : B.le C) : A.le C := fun b c x => by
  obtain ⟨c', h1, h2⟩ := h b c x
  obtain ⟨c'', h3, h4⟩ := k b c' h1
  exact ⟨c'', h3, h2.trans h4⟩

/-- What M says lies in memory: at the front of its blocks. -/
def Sits (M : Mem) (w : World) : Prop := ∀ b c, M b = some c → ∃ c' e z, w.heap[b]? = some (.cells c' e z) ∧ Pre c c'
theorem Sits.lt {M : Mem} {w : World} (h : Sits M w) {b : Nat} {c : Array Value} (hb : M b = some c) : b < w.heap.size := by
  obtain ⟨c', e, z, hx, _⟩ := h b c hb
  exact (Array.getElem?_eq_some_iff.1 hx).1
theorem Sits.cell {M : Mem} {w : World} (h : Sits M w) {b o : Nat} {c : Array Value} (hb : M b = some c) {v : Value} (hv : c[o]? = some v) : w.cell? ⟨b, o, none⟩ = some v := by
  obtain ⟨c', e, z, hx, hp⟩ := h b c hb
  simp [World.cell?, hx, hp o v hv]
theorem Sits.below {M : Mem} {w w' : World} (h : Sits M w) (k : Below w.heap.size w w') : Sits M w' := fun b c hb => by
  rw [k.block b (h.lt hb)]; exact h b c hb

/-- The memory that a world holds. -/
def memOf (w : World) : Mem := fun b => match w.heap[b]? with
  | some (.cells c _ _) => some c
  | _ => none
theorem sits_memOf (w : World) : Sits (memOf w) w := fun b c h => by
  unfold memOf at h
  split at h
  · rename_i c' e z hx
    cases h
    exact ⟨_, e, z, hx, Pre.refl _⟩
  · cases h

/-- A block of our own: the block's number (none: there is none yet), and what its content is. -/
structure Own where
  blk : Option Nat
  ok : Obj → Prop
  nil : Prop

def Own.holds (B : Nat) (M : Mem) (w : World) (h : Own) : Prop :=
  match h.blk with
  | none => h.nil
  | some b => B ≤ b ∧ M b = none ∧ ∃ o, w.heap[b]? = some o ∧ h.ok o

/-- A variable of our own. -/
def box (b : Nat) (cs : List Value) : Own := { blk := some b, ok := fun o => ∃ e, o = .cells cs.toArray e (0, 0), nil := False }

def blockOf : Value → Option Nat
  | .slice (some a) _ _ => some a.block
  | _ => none
/-- A slice of our own: nil, or at the head of a block; e: its elements' type; s: cells of an element. -/
def buf (e : TypeId) (s : Nat) (v : Value) (xs : List Value) : Own :=
  { blk := blockOf v
    ok := fun o => ∃ b n cap sp, v = .slice (some ⟨b, 0, none⟩) n cap ∧ xs.length = n * s ∧ (xs ++ sp).length = cap * s ∧ n ≤ cap ∧ cap ≤ maxLen ∧ o = .cells (xs ++ sp).toArray e (0, 0)
    nil := v = .slice none 0 0 ∧ xs = [] }

/-- w0: the world in which the call began; M: what is held for good; os: what is the call's own. -/
structure St (w0 : World) (M : Mem) (os : List Own) (w : World) : Prop where
  below : Below w0.heap.size w0 w
  sits : Sits M w
  own : ∀ h ∈ os, h.holds w0.heap.size M w
  nodup : (os.filterMap Own.blk).Nodup

theorem St.start {w : World} {M : Mem} (h : Sits M w) : St w M [] w := ⟨Below.refl _ _, h, (fun _ h => by cases h), List.nodup_nil⟩

theorem Own.holds.lt {B : Nat} {M : Mem} {w : World} {h : Own} (x : h.holds B M w) {b : Nat} (hb : h.blk = some b) : b < w.heap.size := by
  unfold Own.holds at x
  rw [hb] at x
  obtain ⟨_, _, o, ho, _⟩ := x
  exact (Array.getElem?_eq_some_iff.1 ho).1

theorem St.drew {w0 : World} {M : Mem} {os : List Own} {w : World} (h : St w0 M os w) : St w0 M os w.drew :=
  ⟨h.below.drew, h.sits, h.own, h.nodup⟩

/-- Fewer things of our own are looked at. -/
theorem St.less {w0 : World} {M : Mem} {os os' : List Own} {w : World} (h : St w0 M os w) (hs : os'.Sublist os) : St w0 M os' w :=
  ⟨h.below, h.sits, fun x hx => h.own x (hs.subset hx), h.nodup.sublist (hs.filterMap _)⟩

/-- What a callee hands back: nothing old is turned, more is held for good. -/
structure Ext (M M' : Mem) (w w' : World) : Prop where
  below : Below w.heap.size w w'
  le : M.le M'
  sits : Sits M' w'
  new : ∀ b c, M' b = some c → b < w.heap.size → M b = some c

theorem Ext.same {M : Mem} {w w' : World} (h : Sits M w) (k : Below w.heap.size w w') : Ext M M w w' := ⟨k, M.le_refl, h.below k, fun _ _ h _ => h⟩
theorem Ext.refl {M : Mem} {w : World} (h : Sits M w) : Ext M M w w := Ext.same h (Below.refl _ _)

theorem Own.holds.ext {B : Nat} {M M' : Mem} {w w' : World} (k : Ext M M' w w') {h : Own} (x : h.holds B M w) : h.holds B M' w' := by
  cases hb : h.blk with
  | none => simpa [Own.holds, hb] using x
  | some b =>
    have hlt := x.lt hb
    simp only [Own.holds, hb] at x ⊢
    obtain ⟨h1, h2, o, ho, hk⟩ := x
    refine ⟨h1, ?_, o, by rw [k.below.block b hlt]; exact ho, hk⟩
    cases hm : M' b with
    | none => rfl
    | some c => rw [k.new b c hm hlt] at h2; cases h2

theorem St.ext {w0 : World} {M M' : Mem} {os : List Own} {w w' : World} (h : St w0 M os w) (k : Ext M M' w w') : St w0 M' os w' :=
  ⟨h.below.trans (k.below.mono h.below.size), k.sits, fun x hx => (h.own x hx).ext k, h.nodup⟩

theorem St.toExt {w0 : World} {M M' : Mem} {os : List Own} {w : World} (h : St w0 M' os w) (hle : M.le M') (hnew : ∀ b c, M' b = some c → b < w0.heap.size → M b = some c) : Ext M M' w0 w :=
  ⟨h.below, hle, h.sits, hnew⟩

/-- A new block of our own. -/
theorem St.alloc {w0 : World} {M : Mem} {os : List Own} {w : World} (h : St w0 M os w) (x : Own) (o : Obj) (hb : x.blk = some w.heap.size) (hok : x.ok o) : St w0 M (x :: os) (w.alloc o) := by
  have hs : (w.alloc o).heap = w.heap.push o := rfl
  have old : ∀ b, b < w.heap.size → (w.alloc o).heap[b]? = w.heap[b]? := fun b hb => Below.heap_alloc _ _ _ hb
  refine ⟨h.below.alloc h.below.size _, fun b c hc => by rw [old b (h.sits.lt hc)]; exact h.sits b c hc, ?_, ?_⟩
  · intro y hy
    rcases List.mem_cons.1 hy with rfl | hy
    · simp only [Own.holds, hb]
      refine ⟨h.below.size, ?_, o, by simp [hs], hok⟩
      cases hm : M w.heap.size with
      | none => rfl
      | some c => exact absurd (h.sits.lt hm) (by omega)
    · have := h.own y hy
      cases hyb : y.blk with
      | none => simpa [Own.holds, hyb] using this
      | some b =>
        have hlt := this.lt hyb
        simp only [Own.holds, hyb] at this ⊢
        rw [old b hlt]; exact this
  · rw [List.filterMap_cons_some hb, List.nodup_cons]
    refine ⟨fun hm => ?_, h.nodup⟩
    obtain ⟨y, hy, hyb⟩ := List.mem_filterMap.1 hm
    exact absurd ((h.own y hy).lt hyb) (by omega)

theorem nodup_set {os : List Own} {i : Nat} {x y : Own} (hn : (os.filterMap Own.blk).Nodup) (hi : os[i]? = some x) (hb : y.blk = x.blk) : ((os.set i y).filterMap Own.blk).Nodup := by
  have : (os.set i y).filterMap Own.blk = os.filterMap Own.blk := by
    induction os generalizing i with
    | nil => rfl
    | cons z os ih =>
      cases i with
      | zero => simp at hi; subst hi; simp [List.filterMap_cons, hb]
      | succ i =>
        simp only [List.getElem?_cons_succ] at hi
        have hn' : (os.filterMap Own.blk).Nodup := by
          rw [List.filterMap_cons] at hn
          split at hn
          · exact hn
          · exact (List.nodup_cons.1 hn).2
        simp [List.filterMap_cons, ih hn' hi]
  rw [this]; exact hn

/-- Two different places of the list are two different blocks. -/
theorem nodup_ne {os : List Own} (hn : (os.filterMap Own.blk).Nodup) {i : Nat} {x y : Own} (hi : os[i]? = some x) {z : Own} (hy : y ∈ os.set i z) {b : Nat} (hx : x.blk = some b) (hyb : y.blk = some b) : y = z := by
  induction os generalizing i with
  | nil => cases hi
  | cons u os ih =>
    cases i with
    | zero =>
      simp at hi; subst hi
      rcases List.mem_cons.1 hy with rfl | hy
      · rfl
      · rw [List.filterMap_cons_some hx] at hn
        exact absurd (List.mem_filterMap.2 ⟨y, hy, hyb⟩) (List.nodup_cons.1 hn).1
    | succ i =>
      simp only [List.getElem?_cons_succ] at hi
      rcases List.mem_cons.1 hy with rfl | hy
      · have hxm : x ∈ os := List.mem_of_getElem? hi
        rw [List.filterMap_cons_some hyb] at hn
        exact absurd (List.mem_filterMap.2 ⟨x, hxm, hx⟩) (List.nodup_cons.1 hn).1
      · refine ih ?_ hi hy
        rw [List.filterMap_cons] at hn
        split at hn
        · exact hn
        · exact (List.nodup_cons.1 hn).2

/-- One block of our own gets another content; all else is as it was. -/
theorem St.turn {w0 : World} {M : Mem} {os : List Own} {w w' : World} (h : St w0 M os w) {i : Nat} {x : Own} {b : Nat} (hi : os[i]? = some x) (hb : x.blk = some b) (y : Own) (hyb : y.blk = some b) {o : Obj} (hok : y.ok o)
    (hsz : w'.heap.size = w.heap.size) (hnew : w'.heap[b]? = some o) (hold : ∀ k, k ≠ b → w'.heap[k]? = w.heap[k]?) (hos : w'.os = w.os) (htape : w'.tape = w.tape) (hout : w'.output = w.output) : St w0 M (os.set i y) w' := by
  have hx := h.own x (List.mem_of_getElem? hi)
  have hlt := hx.lt hb
  simp only [Own.holds, hb] at hx
  obtain ⟨hB, hM, _⟩ := hx
  refine ⟨⟨hos.trans h.below.os, htape.trans h.below.tape, hout.trans h.below.output, by rw [hsz]; exact h.below.size, fun k hk => by rw [hold k (by omega)]; exact h.below.block k hk⟩, ?_, ?_, ?_⟩
  · intro k c hc
    have : k ≠ b := fun e => by subst e; rw [hc] at hM; cases hM
    rw [hold k this]; exact h.sits k c hc
  · intro z hz
    cases hzb : z.blk with
    | none =>
      have hzo : z ∈ os := by
        rcases List.mem_or_eq_of_mem_set hz with h1 | h1
        · exact h1
        · subst h1; rw [hzb] at hyb; cases hyb
      simpa [Own.holds, hzb] using h.own z hzo
    | some k =>
      by_cases hk : k = b
      · subst hk
        obtain rfl := nodup_ne h.nodup hi hz hb hzb
        simp only [Own.holds, hzb]
        exact ⟨hB, hM, o, hnew, hok⟩
      · have hzo : z ∈ os := by
          rcases List.mem_or_eq_of_mem_set hz with h1 | h1
          · exact h1
          · subst h1; rw [hyb] at hzb; cases hzb; exact absurd rfl hk
        have := h.own z hzo
        simp only [Own.holds, hzb] at this ⊢
        rw [hold k hk]; exact this
  · exact nodup_set h.nodup hi (hyb.trans hb.symm)
theorem plall {us : List Value} (h : us.all Value.oneCell' = true) : ∀ v ∈ us, v.oneCell' = true := fun v hv => List.all_eq_true.1 h v hv
end Go.Proofs.YtilfjfpemjfalaaGreatDoor.Kx
