/- Objects, the state of a frame, and what a step of an operation comes to. -/
import Derived.Test.YtilfjfpemjfalaaGreatDoorRa
namespace Go.Proofs.YtilfjfpemjfalaaGreatDoor.Kx
open Go Go.RowKit

/-! ### The slots of a frame: a tree -/
inductive Tri where
  | e
  | lf (v : V)
  | nd (l r : Tri)
  deriving Inhabited
def Tri.get : Nat → Tri → Nat → V
  | _, .e, _ => .undef
  | _, .lf v, _ => v
  | 0, .nd _ _, _ => .undef
  | d + 1, .nd l r, n => match Nat.beq (n % 2) 0 with
    | true => Tri.get d l (n / 2)
    | false => Tri.get d r (n / 2)
def Tri.set : Nat → Tri → Nat → V → Tri
  | 0, _, _, v => .lf v
  | d + 1, .nd l r, n, v => match Nat.beq (n % 2) 0 with
    | true => .nd (Tri.set d l (n / 2) v) r
    | false => .nd l (Tri.set d r (n / 2) v)
  | d + 1, _, n, v => match Nat.beq (n % 2) 0 with
    | true => .nd (Tri.set d .e (n / 2) v) .e
    | false => .nd .e (Tri.set d .e (n / 2) v)
/-- A tree whose leaves lie at depth d alone. -/
def Tri.ok : Nat → Tri → Prop
  | _, .e => True
  | d, .lf _ => d = 0
  | 0, .nd _ _ => False
  | d + 1, .nd l r => l.ok d ∧ r.ok d
theorem beq_false {a b : Nat} (h : a ≠ b) : Nat.beq a b = false := by
  cases hb : Nat.beq a b with
  | false => rfl
  | true => exact absurd (Nat.eq_of_beq_eq_true hb) h
theorem Tri.set_ok : ∀ (d : Nat) (t : Tri) (n : Nat) (v : V), t.ok d → (t.set d n v).ok d
  | 0, _, _, _, _ => rfl
  | d + 1, .nd l r, n, v, h => by
    unfold Tri.set
    split
    · exact ⟨Tri.set_ok d l _ v h.1, h.2⟩
    · exact ⟨h.1, Tri.set_ok d r _ v h.2⟩
  | d + 1, .e, n, v, h => by
    unfold Tri.set
    split
    · exact ⟨Tri.set_ok d .e _ v (by cases d <;> trivial), by cases d <;> trivial⟩
    · exact ⟨by cases d <;> trivial, Tri.set_ok d .e _ v (by cases d <;> trivial)⟩
  | d + 1, .lf _, n, v, h => by cases h
theorem Tri.get_set_same : ∀ (d : Nat) (t : Tri) (n : Nat) (v : V), (t.set d n v).get d n = v
  | 0, _, _, _ => rfl
  | d + 1, .nd l r, n, v => by
    unfold Tri.set
    cases h : Nat.beq (n % 2) 0 <;> simp only [Tri.get, h] <;> exact Tri.get_set_same d _ _ v
  | d + 1, .e, n, v => by
    unfold Tri.set
    cases h : Nat.beq (n % 2) 0 <;> simp only [Tri.get, h] <;> exact Tri.get_set_same d _ _ v
  | d + 1, .lf _, n, v => by
    unfold Tri.set
    cases h : Nat.beq (n % 2) 0 <;> simp only [Tri.get, h] <;> exact Tri.get_set_same d _ _ v
theorem Tri.get_e (d n : Nat) : Tri.get d .e n = .undef := by cases d <;> rfl
theorem Tri.get_set_ne : ∀ (d : Nat) (t : Tri) (n m : Nat) (v : V), t.ok d → n < 2 ^ d → m < 2 ^ d → n ≠ m → (t.set d n v).get d m = t.get d m
  | 0, _, n, m, _, _, h1, h2, h => absurd (show n = m by simp at h1 h2; omega) h
  | d + 1, .nd l r, n, m, v, ok, h1, h2, h => by
    have p1 : n / 2 < 2 ^ d := by rw [Nat.pow_succ] at h1; omega
    have p2 : m / 2 < 2 ^ d := by rw [Nat.pow_succ] at h2; omega
    unfold Tri.set
    cases hn : Nat.beq (n % 2) 0 <;> cases hm : Nat.beq (m % 2) 0 <;> simp only [Tri.get, hm]
    · refine Tri.get_set_ne d r _ _ v ok.2 p1 p2 ?_
      have a := Nat.ne_of_beq_eq_false hn; have b := Nat.ne_of_beq_eq_false hm
      omega
    · refine Tri.get_set_ne d l _ _ v ok.1 p1 p2 ?_
      have a := Nat.eq_of_beq_eq_true hn; have b := Nat.eq_of_beq_eq_true hm
      omega
  | d + 1, .e, n, m, v, ok, h1, h2, h => by
    have p1 : n / 2 < 2 ^ d := by rw [Nat.pow_succ] at h1; omega
    have p2 : m / 2 < 2 ^ d := by rw [Nat.pow_succ] at h2; omega
    have eok : Tri.e.ok d := by cases d <;> trivial
    unfold Tri.set
    cases hn : Nat.beq (n % 2) 0 <;> cases hm : Nat.beq (m % 2) 0 <;> simp only [Tri.get, hm, Tri.get_e]
    · rw [Tri.get_set_ne d .e _ _ v eok p1 p2 (by have a := Nat.ne_of_beq_eq_false hn; have b := Nat.ne_of_beq_eq_false hm; omega), Tri.get_e]
    · rw [Tri.get_set_ne d .e _ _ v eok p1 p2 (by have a := Nat.eq_of_beq_eq_true hn; have b := Nat.eq_of_beq_eq_true hm; omega), Tri.get_e]
  | d + 1, .lf _, n, m, v, ok, _, _, _ => by cases ok

/-! ### Objects -/
/-- The kinds of keys. -/
inductive KK where
  | int (k : IntKind)
  | str
  | bool
  deriving Inhabited
def KK.ok : KK → Dat → Prop
  | .int k, .int j _ => j = k
  | .str, .str _ => True
  | .bool, .bool _ => True
  | _, _ => False
inductive IObj where
  | box (te : TypeId) (cs : List V)
  | buf (g : Nat) (e : TypeId) (sz : Nat) (es : List (List Dat))
  | fzs (g : Nat) (sz : Nat) (es : List (List Dat))
  | fzb (cs : List V)
  | mapo (kk : KK) (ag : Bool) (sz : Nat) (es : List (Dat × List Dat))
  | raw (b : Nat) (o : Obj)
  | frn (r : Nat)
  deriving Inhabited

/-- The entries of a map: the keys' and the values' cells. -/
def REnts (M : Mem) (kk : KK) (ag : Bool) (sz : Nat) : List (Dat × List Dat) → List MapEntry → Prop
  | [], l => l = []
  | x :: es, l => ∃ e l', l = e :: l' ∧ kk.ok x.1 ∧ RelD M x.1 e.key ∧ x.2.length = sz ∧ (∃ us, RelDs M x.2 us ∧ e.val = mkv ag us) ∧ REnts M kk ag sz es l'
def RelMap (M : Mem) (kk : KK) (ag : Bool) (sz : Nat) (es : List (Dat × List Dat)) (ents : Array MapEntry) : Prop :=
  (ag = false → sz = 1) ∧ ∃ l : List MapEntry, ents = l.toArray ∧ REnts M kk ag sz es l

section
variable (S : Hand) (wl : World) (M : Mem) (ρ : Rho)
/-- The block is the frame's own. -/
def Mine (i : Inf) : Prop := (S i.b ∨ wl.heap.size ≤ i.b) ∧ M i.b = none
/-- The same for a buffer: where it is pinned (g is great), its front may be held for good. -/
def MineB (i : Inf) (g : Nat) : Prop := (S i.b ∨ wl.heap.size ≤ i.b) ∧ (Nat.blt g 1000000 = true → M i.b = none) ∧ ∀ c, M i.b = some c → c.size ≤ (i.base + i.n) * i.sz
def ObjOk (w : World) (i : Inf) : IObj → Prop
  | .box te cs => i.fix = true ∧ Mine S wl M i ∧ ∃ us e, w.heap[i.b]? = some (.cells us.toArray e (0, 0)) ∧ RelVs M ρ cs us ∧ (∀ u ∈ us, u.oneCell' = true) ∧ e = te
  | .buf g e sz es => i.fix = false ∧ i.g = g ∧ i.sz = sz ∧ i.n = es.length ∧ i.n ≤ i.tot ∧ i.tot ≤ maxLen ∧
      (0 < i.tot → MineB S wl M i g ∧ ∃ pre us sp, w.heap[i.b]? = some (.cells (pre ++ (us ++ sp)).toArray e (0, 0)) ∧ pre.length = i.base * sz ∧ (us ++ sp).length = i.tot * sz ∧ rL (rDs sz) M us es)
  | .fzs g sz es => i.fix = false ∧ i.g = g ∧ i.sz = sz ∧ i.n = es.length ∧ i.n ≤ i.tot ∧ (0 < i.tot → ∃ c pre us sp, M i.b = some c ∧ Pre (pre ++ (us ++ sp)).toArray c ∧ pre.length = i.base * sz ∧ rL (rDs sz) M us es)
  | .fzb cs => i.fix = true ∧ ∃ c us, M i.b = some c ∧ Pre us.toArray c ∧ RelVs M ρ cs us ∧ ∀ u ∈ us, u.oneCell' = true
  | .mapo kk ag sz es => i.fix = true ∧ Mine S wl M i ∧ ∃ ents clock, w.heap[i.b]? = some (.map ents clock) ∧ RelMap M kk ag sz es ents
  | .raw b o => i.fix = true ∧ i.b = b ∧ Mine S wl M i ∧ w.heap[b]? = some o
  | .frn r => S.r0 r = some i
/-- It has a block that may be turned. -/
def live (i : Inf) : IObj → Prop
  | .box _ _ => True
  | .buf .. => 0 < i.tot
  | .mapo .. => True
  | .raw .. => True
  | _ => False
end

theorem live_mine {S : Hand} {wl : World} {M : Mem} {ρ : Rho} {w : World} {i : Inf} {o : IObj} (h : ObjOk S wl M ρ w i o) (hl : live i o) : (S i.b ∨ wl.heap.size ≤ i.b) ∧ i.b < w.heap.size := by
  cases o with
  | box te cs => obtain ⟨_, h1, us, e, h2, _⟩ := h; exact ⟨h1.1, (Array.getElem?_eq_some_iff.1 h2).1⟩
  | buf g e sz es => obtain ⟨_, _, _, _, _, _, h1⟩ := h; obtain ⟨h1, pre, us, sp, h2, _⟩ := h1 hl; exact ⟨h1.1, (Array.getElem?_eq_some_iff.1 h2).1⟩
  | mapo kk ag sz es => obtain ⟨_, h1, us, e, h2, _⟩ := h; exact ⟨h1.1, (Array.getElem?_eq_some_iff.1 h2).1⟩
  | raw b x => obtain ⟨_, e, h1, h2⟩ := h; exact ⟨h1.1, by rw [e]; exact (Array.getElem?_eq_some_iff.1 h2).1⟩
  | frn => exact hl.elim
  | fzs => exact hl.elim
  | fzb => exact hl.elim

theorem REnts.mono {M M' : Mem} (h : M.le M') {kk : KK} {ag : Bool} {sz : Nat} : ∀ {es : List (Dat × List Dat)} {l : List MapEntry}, REnts M kk ag sz es l → REnts M' kk ag sz es l
  | [], _, r => r
  | _ :: _, _, ⟨e, l', h1, h2, h3, h4, ⟨us, h5, h6⟩, h7⟩ => ⟨e, l', h1, h2, h3.mono h, h4, ⟨us, h5.mono h, h6⟩, REnts.mono h h7⟩
theorem REnts.len {M : Mem} {kk : KK} {ag : Bool} {sz : Nat} : ∀ {es : List (Dat × List Dat)} {l : List MapEntry}, REnts M kk ag sz es l → l.length = es.length
  | [], _, r => by rw [show _ = [] from r]; rfl
  | _ :: _, _, ⟨e, l', h1, _, _, _, _, h7⟩ => by rw [h1, List.length_cons, List.length_cons, h7.len]
theorem RelMap.mono {M M' : Mem} (h : M.le M') {kk : KK} {ag : Bool} {sz : Nat} {es : List (Dat × List Dat)} {ents : Array MapEntry} (r : RelMap M kk ag sz es ents) : RelMap M' kk ag sz es ents := by
  obtain ⟨h0, l, e, k⟩ := r
  exact ⟨h0, l, e, k.mono h⟩

/-- What is said of an object abides a change elsewhere. -/
theorem ObjOk.mono {S : Hand} {wl : World} {M M' : Mem} {ρ ρ' : Rho} {w w' : World} {i : Inf} {o : IObj} (h : ObjOk S wl M ρ w i o) (hr : Rle M M' ρ ρ') (hm : live i o → M' i.b = M i.b) (hw : live i o → w'.heap[i.b]? = w.heap[i.b]?) : ObjOk S wl M' ρ' w' i o := by
  cases o with
  | box te cs =>
    obtain ⟨h0, h1, us, e, h2, h3, h4⟩ := h
    exact ⟨h0, ⟨h1.1, (hm trivial).trans h1.2⟩, us, e, (hw trivial).trans h2, RelVs.mono hr _ h3, h4⟩
  | buf g e sz es =>
    obtain ⟨h0, hg, hs, hn, ht, hx, h1⟩ := h
    refine ⟨h0, hg, hs, hn, ht, hx, fun hp => ?_⟩
    obtain ⟨h1, pre, us, sp, h2, h3, h4, h5⟩ := h1 hp
    exact ⟨⟨h1.1, fun hg => (hm hp).trans (h1.2.1 hg), fun c hc => h1.2.2 c (by rw [← hm hp]; exact hc)⟩, pre, us, sp, (hw hp).trans h2, h3, h4, rL_mono hr.le h5⟩
  | fzs g sz es =>
    obtain ⟨h0, hg, hs, hn, ht, h1⟩ := h
    refine ⟨h0, hg, hs, hn, ht, fun hp => ?_⟩
    obtain ⟨c, pre, us, sp, h1, h0', h2, h3⟩ := h1 hp
    obtain ⟨c', h4, h5⟩ := hr.le _ _ h1
    exact ⟨c', pre, us, sp, h4, h0'.trans h5, h2, rL_mono hr.le h3⟩
  | fzb cs =>
    obtain ⟨h0, c, us, h1, h0', h2, h3⟩ := h
    obtain ⟨c', h4, h5⟩ := hr.le _ _ h1
    exact ⟨h0, c', us, h4, h0'.trans h5, RelVs.mono hr _ h2, h3⟩
  | mapo kk ag sz es =>
    obtain ⟨h0, h1, ents, clock, h2, h3⟩ := h
    exact ⟨h0, ⟨h1.1, (hm trivial).trans h1.2⟩, ents, clock, (hw trivial).trans h2, h3.mono hr.le⟩
  | raw b x =>
    obtain ⟨h0, e, h1, h2⟩ := h
    exact ⟨h0, e, ⟨h1.1, (hm trivial).trans h1.2⟩, by rw [← e]; rw [← e] at h2; exact (hw trivial).trans h2⟩
  | frn r => exact h

/-- What is the frame's own: wl: the world at the call; S: the blocks that were handed in. -/
structure Ow (S : Hand) (wl : World) (M0 M : Mem) (ρ : Rho) (ob : Nat → Option IObj) (w : World) : Prop where
  size : wl.heap.size ≤ w.heap.size
  os : w.os = wl.os
  tape : w.tape = wl.tape
  output : w.output = wl.output
  old : ∀ k, k < wl.heap.size → ¬ S k → w.heap[k]? = wl.heap[k]?
  sits : Sits M w
  le : M0.le M
  gl : GlO M wl S.s
  new : ∀ b c, M b = some c → b < wl.heap.size → M0 b = some c ∨ S b
  own : ∀ r o, ob r = some o → ∃ i, ρ r = some i ∧ ObjOk S wl M ρ w i o
  dom : ∀ r i, ρ r = some i → ∃ o, ob r = some o
  inj : ∀ r r' o o' i i', ob r = some o → ob r' = some o' → ρ r = some i → ρ r' = some i' → live i o → live i' o' → i.b = i'.b → r = r'
  held : ∀ r i, Nat.ble 2000 r = true → S.r0 r = some i → ∃ i', ρ r = some i' ∧ Ile i i'

theorem Ow.szw {S : Hand} {wl w : World} {M0 M : Mem} {ρ : Rho} {ob : Nat → Option IObj} (h : Ow S wl M0 M ρ ob w) : Sz w :=
  h.gl.sz.frame fun k hk ⟨cs, e⟩ => h.old k hk (h.gl.off k cs e)
theorem Ow.gla {S : Hand} {wl w : World} {M0 M : Mem} {ρ : Rho} {ob : Nat → Option IObj} (h : Ow S wl M0 M ρ ob w) : GlA M w := ⟨h.gl.ok, h.szw⟩
theorem Ow.offm {S : Hand} {wl w : World} {M0 M : Mem} {ρ : Rho} {ob : Nat → Option IObj} (h : Ow S wl M0 M ρ ob w) {n : Nat} {cs : List Dat} (e : Kx.gl n = some cs) : ¬ (S.s n ∨ wl.heap.size ≤ n) := fun hb => by
  obtain ⟨c, t, z, h1, _⟩ := h.gl.sz n cs e
  have := (Array.getElem?_eq_some_iff.1 h1).1
  rcases hb with hb | hb
  · exact h.gl.off n cs e hb
  · omega
theorem Ow.glE {S : Hand} {wl w : World} {M0 M : Mem} {ρ : Rho} {ob : Nat → Option IObj} (h : Ow S wl M0 M ρ ob w) {S' : Nat → Prop} (hS : ∀ b, S' b → S.s b ∨ wl.heap.size ≤ b) : GlO M w S' :=
  h.gla.entry fun _ _ e hb => h.offm e (hS _ hb)

def updO {α : Type} (f : Nat → Option α) (d : Nat) (v : α) : Nat → Option α := fun s => match Nat.beq s d with | true => some v | false => f s
theorem updO_same {α : Type} (f : Nat → Option α) (d : Nat) (v : α) : updO f d v d = some v := by simp [updO]
theorem updO_ne {α : Type} (f : Nat → Option α) {d s : Nat} (v : α) (h : s ≠ d) : updO f d v s = f s := by simp [updO, beq_false h]

section
variable {S : Hand} {wl : World} {M0 M : Mem} {ρ : Rho} {ob : Nat → Option IObj} {w : World}

theorem Ow.drew (h : Ow S wl M0 M ρ ob w) : Ow S wl M0 M ρ ob w.drew :=
  ⟨h.size, h.os, h.tape, h.output, h.old, h.sits, h.le, h.gl, h.new, fun r o hr => by obtain ⟨i, h1, h2⟩ := h.own r o hr; exact ⟨i, h1, h2.mono (Rle.refl _ _) (fun _ => rfl) (fun _ => rfl)⟩, h.dom, h.inj, h.held⟩

theorem Ow.ob_none (h : Ow S wl M0 M ρ ob w) {d : Nat} (hd : ob d = none) : ρ d = none := by
  cases hr : ρ d with
  | none => rfl
  | some i => obtain ⟨o, ho⟩ := h.dom d i hr; rw [ho] at hd; cases hd

/-- A new object. -/
theorem Ow.alloc (h : Ow S wl M0 M ρ ob w) {d : Nat} (hd : ob d = none) (o : Obj) (i : Inf) (x : IObj) (hb : i.b = w.heap.size)
    (hx : ∀ ρ', Rle M M ρ ρ' → M w.heap.size = none → ObjOk S wl M ρ' (w.alloc o) i x) :
    Rle M M ρ (updO ρ d i) ∧ Ow S wl M0 M (updO ρ d i) (updO ob d x) (w.alloc o) := by
  have hρ := h.ob_none hd
  have hM : M w.heap.size = none := by
    cases hm : M w.heap.size with
    | none => rfl
    | some c => exact absurd (h.sits.lt hm) (by omega)
  have hr : Rle M M ρ (updO ρ d i) := ⟨M.le_refl, fun r j hj => by
    have : r ≠ d := fun e => by rw [e, hρ] at hj; cases hj
    exact ⟨j, by rw [updO_ne _ _ this]; exact hj, Nat.le_refl _, fun _ => rfl, fun _ => rfl⟩⟩
  have old : ∀ b, b < w.heap.size → (w.alloc o).heap[b]? = w.heap[b]? := fun b hb => Below.heap_alloc _ _ _ hb
  have hsz : (w.alloc o).heap.size = w.heap.size + 1 := by simp
  refine ⟨hr, ⟨by rw [hsz]; have := h.size; omega, h.os, h.tape, h.output, fun k hk hS => by rw [old k (by have := h.size; omega)]; exact h.old k hk hS, fun b c hc => by rw [old b (h.sits.lt hc)]; exact h.sits b c hc, h.le, h.gl, h.new, ?_, ?_, ?_, fun r i hb hi => by obtain ⟨j, h1, h2⟩ := h.held r i hb hi; obtain ⟨k, h3, h4⟩ := hr.ext r j h1; exact ⟨k, h3, h2.trans h4⟩⟩⟩
  · intro r y hy
    by_cases e : r = d
    · subst e
      rw [updO_same] at hy; cases hy
      exact ⟨i, updO_same _ _ _, hx _ hr hM⟩
    · rw [updO_ne _ _ e] at hy
      obtain ⟨j, h1, h2⟩ := h.own r y hy
      exact ⟨j, by rw [updO_ne _ _ e]; exact h1, h2.mono hr (fun _ => rfl) (fun hl => old _ (live_mine h2 hl).2)⟩
  · intro r j hj
    by_cases e : r = d
    · subst e; exact ⟨x, updO_same _ _ _⟩
    · rw [updO_ne _ _ e] at hj ⊢; exact h.dom r j hj
  · intro r r' y y' j j' h1 h2 h3 h4 l1 l2 hbb
    by_cases e : r = d <;> by_cases e' : r' = d
    · rw [e, e']
    · subst e
      rw [updO_same] at h1 h3; cases h1; cases h3
      rw [updO_ne _ _ e'] at h2 h4
      obtain ⟨k, h5, h6⟩ := h.own r' y' h2
      rw [h4] at h5; cases h5
      have := (live_mine h6 l2).2
      omega
    · subst e'
      rw [updO_same] at h2 h4; cases h2; cases h4
      rw [updO_ne _ _ e] at h1 h3
      obtain ⟨k, h5, h6⟩ := h.own r y h1
      rw [h3] at h5; cases h5
      have := (live_mine h6 l1).2
      omega
    · rw [updO_ne _ _ e] at h1 h3; rw [updO_ne _ _ e'] at h2 h4
      exact h.inj r r' y y' j j' h1 h2 h3 h4 l1 l2 hbb

/-- One object is turned: its block alone, or it moves to a new one. -/
theorem Ow.turn (h : Ow S wl M0 M ρ ob w) {d : Nat} {o : IObj} {i : Inf} (hd : ob d = some o) (hi : ρ d = some i) {w' : World} (i' : Inf) (x : IObj)
    (hw : ∀ k, k < w.heap.size → (live i o → k ≠ i.b) → w'.heap[k]? = w.heap[k]?) (hsz : w.heap.size ≤ w'.heap.size) (hos : w'.os = w.os) (htape : w'.tape = w.tape) (hout : w'.output = w.output) (hpin : live i o → ∀ c, M i.b = some c → ∃ c' e z, w'.heap[i.b]? = some (.cells c' e z) ∧ Pre c c')
    (hg : Ile i i') (hb : live i' x → (live i o ∧ i'.b = i.b) ∨ w.heap.size ≤ i'.b)
    (hx : ∀ ρ', Rle M M ρ ρ' → (∀ b, w.heap.size ≤ b → M b = none) → ObjOk S wl M ρ' w' i' x) :
    Rle M M ρ (updO ρ d i') ∧ Ow S wl M0 M (updO ρ d i') (updO ob d x) w' := by
  have hr : Rle M M ρ (updO ρ d i') := ⟨M.le_refl, fun r j hj => by
    by_cases e : r = d
    · subst e; rw [hi] at hj; cases hj; exact ⟨i', updO_same _ _ _, hg⟩
    · exact ⟨j, by rw [updO_ne _ _ e]; exact hj, Nat.le_refl _, fun _ => rfl, fun _ => rfl⟩⟩
  obtain ⟨i0, hi0, hok⟩ := h.own d o hd
  rw [hi] at hi0; cases hi0
  have hMb : ∀ b, w.heap.size ≤ b → M b = none := fun b hb => by
    cases hm : M b with
    | none => rfl
    | some c => exact absurd (h.sits.lt hm) (by omega)
  refine ⟨hr, ⟨Nat.le_trans h.size hsz, hos.trans h.os, htape.trans h.tape, hout.trans h.output, ?_, ?_, h.le, h.gl, h.new, ?_, ?_, ?_, fun r i hb hi => by obtain ⟨j, h1, h2⟩ := h.held r i hb hi; obtain ⟨k, h3, h4⟩ := hr.ext r j h1; exact ⟨k, h3, h2.trans h4⟩⟩⟩
  · intro k hk hS
    rw [hw k (by have := h.size; omega) (fun hl e => ?_)]
    · exact h.old k hk hS
    · rcases (live_mine hok hl).1 with hs | hs
      · rw [e] at hS; exact hS hs
      · omega
  · intro b c hc
    by_cases e : live i o ∧ b = i.b
    · obtain ⟨hl, rfl⟩ := e; exact hpin hl c hc
    · rw [hw b (h.sits.lt hc) (fun hl e' => e ⟨hl, e'⟩)]; exact h.sits b c hc
  · intro r y hy
    by_cases e : r = d
    · subst e
      rw [updO_same] at hy; cases hy
      exact ⟨i', updO_same _ _ _, hx _ hr hMb⟩
    · rw [updO_ne _ _ e] at hy
      obtain ⟨j, h1, h2⟩ := h.own r y hy
      refine ⟨j, by rw [updO_ne _ _ e]; exact h1, h2.mono hr (fun _ => rfl) (fun hl => hw _ (live_mine h2 hl).2 (fun hl' e' => e (h.inj r d y o j i hy hd h1 hi hl hl' e')))⟩
  · intro r j hj
    by_cases e : r = d
    · subst e; exact ⟨x, updO_same _ _ _⟩
    · rw [updO_ne _ _ e] at hj ⊢; exact h.dom r j hj
  · intro r r' y y' j j' h1 h2 h3 h4 l1 l2 hbb
    by_cases e : r = d <;> by_cases e' : r' = d
    · rw [e, e']
    · subst e
      rw [updO_same] at h1 h3; cases h1; cases h3
      rw [updO_ne _ _ e'] at h2 h4
      rcases hb l1 with ⟨hl, hbi⟩ | hbi
      · exact h.inj r r' o y' i j' hd h2 hi h4 hl l2 (hbi.symm.trans hbb)
      · obtain ⟨k, h5, h6⟩ := h.own r' y' h2
        rw [h4] at h5; cases h5
        have := (live_mine h6 l2).2
        omega
    · subst e'
      rw [updO_same] at h2 h4; cases h2; cases h4
      rw [updO_ne _ _ e] at h1 h3
      rcases hb l2 with ⟨hl, hbi⟩ | hbi
      · exact h.inj r r' y o j i h1 hd h3 hi l1 hl (hbb.trans hbi)
      · obtain ⟨k, h5, h6⟩ := h.own r y h1
        rw [h3] at h5; cases h5
        have := (live_mine h6 l1).2
        omega
    · rw [updO_ne _ _ e] at h1 h3; rw [updO_ne _ _ e'] at h2 h4
      exact h.inj r r' y y' j j' h1 h2 h3 h4 l1 l2 hbb
end
end Go.Proofs.YtilfjfpemjfalaaGreatDoor.Kx
