/- A region that draws its order: what each operation reads and turns; operations that are apart may change places. -/
import Derived.Test.YtilfjfpemjfalaaGreatDoorRp
import Derived.Test.YtilfjfpemjfalaaGreatDoorKb
namespace Go.Proofs.YtilfjfpemjfalaaGreatDoor.Kx
open Go Go.RowKit

/-- What one operation reads (slots rs, objects K, as they are), and what it gives. -/
structure Dlt where
  rs : List Nat
  K : List Nat
  R : List Nat
  g0 : Nat → V
  ob0 : Nat → Option IObj
  dst : Option Nat
  v : V
  wr : Wr
structure Keys where
  rs : List Nat
  K : List Nat
  R : List Nat
  ws : List Nat
  nw : List Nat
  dst : Option Nat
def wkeys : Wr → List Nat
  | [] => []
  | (d, _) :: l => d :: wkeys l
/-- The new ones among them. -/
def newK (ob : Nat → Option IObj) : Wr → List Nat
  | [] => []
  | (d, _) :: l => match ob d with | some _ => newK ob l | none => d :: newK ob l
def keysOf (δ : Dlt) : Keys := ⟨δ.rs, δ.K, δ.R, wkeys δ.wr, newK δ.ob0 δ.wr, δ.dst⟩
def WOk (δ : Dlt) : Prop := ∀ x ∈ wkeys δ.wr, memN x δ.R = true
theorem newK_some {ob : Nat → Option IObj} : ∀ {wr : Wr} {x : Nat}, x ∈ wkeys wr → x ∉ newK ob wr → ∃ o, ob x = some o
  | [], _, h, _ => by cases h
  | (d, o) :: wr, x, h, hn => by
    unfold newK at hn
    split at hn
    · rename_i y hy
      rcases List.mem_cons.1 h with rfl | h
      · exact ⟨y, hy⟩
      · exact newK_some h hn
    · rcases List.mem_cons.1 h with rfl | h
      · exact absurd List.mem_cons_self hn
      · exact newK_some h (fun hm => hn (List.mem_cons_of_mem _ hm))
def updG (g : Nat → V) (d : Option Nat) (v : V) : Nat → V := match d with
  | none => g
  | some d => fun t => match Nat.beq t d with | true => v | false => g t
def App (δ : Dlt) (g : Nat → V) (ob : Nat → Option IObj) : Prop := (∀ t, memN t δ.rs = true → g t = δ.g0 t) ∧ (∀ r, memN r δ.R = true → ob r = δ.ob0 r) ∧ ∀ r, memN r δ.K = true → (ob r).isSome = (δ.ob0 r).isSome
def disj : List Nat → List Nat → Bool
  | [], _ => true
  | x :: l, m => match memN x m with | true => false | false => disj l m
def dstOut : Option Nat → List Nat → Bool
  | none, _ => true
  | some d, m => match memN d m with | true => false | false => true
def dstNe : Option Nat → Option Nat → Bool
  | some a, some b => match Nat.beq a b with | true => false | false => true
  | _, _ => true
/-- Neither turns what the other looks at. -/
def indepK (a b : Keys) : Bool := match dstOut a.dst b.rs, dstOut b.dst a.rs, dstNe a.dst b.dst, disj a.ws b.R, disj b.ws a.R, disj a.ws b.ws with
  | true, true, true, true, true, true => match disj a.nw b.K, disj b.nw a.K with | true, true => true | _, _ => false
  | _, _, _, _, _, _ => false
theorem indepK_spec {a b : Keys} (h : indepK a b = true) : dstOut a.dst b.rs = true ∧ dstOut b.dst a.rs = true ∧ dstNe a.dst b.dst = true ∧ disj a.ws b.R = true ∧ disj b.ws a.R = true ∧ disj a.ws b.ws = true ∧ disj a.nw b.K = true ∧ disj b.nw a.K = true := by
  unfold indepK at h
  split at h
  · rename_i h1 h2 h3 h4 h5 h6
    split at h
    · rename_i h7 h8; exact ⟨h1, h2, h3, h4, h5, h6, h7, h8⟩
    · cases h
  · cases h
theorem disj_spec : ∀ {l m : List Nat}, disj l m = true → ∀ x ∈ l, memN x m = false
  | [], _, _, x, hx => by cases hx
  | y :: l, m, h, x, hx => by
    unfold disj at h
    split at h
    · cases h
    · rename_i hb
      rcases List.mem_cons.1 hx with rfl | hx
      · exact hb
      · exact disj_spec h x hx
theorem memN_of : ∀ {l : List Nat} {n : Nat}, n ∈ l → memN n l = true
  | [], _, h => by cases h
  | m :: l, n, h => by
    unfold memN
    rcases List.mem_cons.1 h with rfl | h
    · rw [Nat.beq_refl]
    · split
      · rfl
      · exact memN_of h
theorem wrO_not : ∀ {wr : Wr} {ob : Nat → Option IObj} {r : Nat}, r ∉ wkeys wr → wrO ob wr r = ob r
  | [], _, _, _ => rfl
  | (d, o) :: wr, ob, r, h => by
    simp only [wrO]
    rw [wrO_not (fun hm => h (List.mem_cons_of_mem _ hm)), updO_ne]
    exact fun e => h (by rw [e]; exact List.mem_cons_self)
theorem wrO_yes : ∀ {wr : Wr} {ob ob' : Nat → Option IObj} {r : Nat}, r ∈ wkeys wr → wrO ob wr r = wrO ob' wr r
  | [], _, _, _, h => by cases h
  | (d, o) :: wr, ob, ob', r, h => by
    simp only [wrO]
    by_cases hm : r ∈ wkeys wr
    · exact wrO_yes hm
    · rcases List.mem_cons.1 h with rfl | h
      · rw [wrO_not hm, wrO_not hm, updO_same, updO_same]
      · exact absurd h hm
theorem wrO_isSome : ∀ {wr : Wr} {ob : Nat → Option IObj} {r : Nat}, r ∈ wkeys wr → (wrO ob wr r).isSome = true
  | [], _, _, h => by cases h
  | (d, o) :: wr, ob, r, h => by
    simp only [wrO]
    by_cases hm : r ∈ wkeys wr
    · exact wrO_isSome hm
    · rcases List.mem_cons.1 h with rfl | h
      · rw [wrO_not hm, updO_same]; rfl
      · exact absurd h hm
theorem wrO_comm {a b : Wr} (h : disj (wkeys a) (wkeys b) = true) (ob : Nat → Option IObj) : wrO (wrO ob a) b = wrO (wrO ob b) a := by
  funext r
  by_cases ha : r ∈ wkeys a
  · have hb : r ∉ wkeys b := fun hb => by have := disj_spec h r ha; rw [memN_of hb] at this; cases this
    rw [wrO_not hb]
    exact wrO_yes ha
  · rw [wrO_not (wr := a) ha]
    by_cases hb : r ∈ wkeys b
    · exact wrO_yes hb
    · rw [wrO_not hb, wrO_not hb, wrO_not ha]
theorem updG_comm {a b : Option Nat} (h : dstNe a b = true) (g : Nat → V) (u v : V) : updG (updG g a u) b v = updG (updG g b v) a u := by
  cases a with
  | none => rfl
  | some a =>
    cases b with
    | none => rfl
    | some b =>
      funext t
      simp only [updG]
      cases h1 : Nat.beq t a <;> cases h2 : Nat.beq t b <;> simp only
      obtain rfl := Nat.eq_of_beq_eq_true h1
      obtain rfl := Nat.eq_of_beq_eq_true h2
      simp [dstNe] at h
theorem updG_out {d : Option Nat} {rs : List Nat} (h : dstOut d rs = true) (g : Nat → V) (v : V) {t : Nat} (ht : memN t rs = true) : updG g d v t = g t := by
  cases d with
  | none => rfl
  | some d =>
    simp only [updG]
    cases hb : Nat.beq t d with
    | true =>
      obtain rfl := Nat.eq_of_beq_eq_true hb
      simp [dstOut, ht] at h
    | false => rfl
theorem wrO_disj {wr : Wr} {K : List Nat} (h : disj (wkeys wr) K = true) {ob : Nat → Option IObj} {r : Nat} (hr : memN r K = true) : wrO ob wr r = ob r :=
  wrO_not fun hm => by have := disj_spec h r hm; rw [hr] at this; cases this
theorem App.post {a b : Dlt} (h : indepK (keysOf a) (keysOf b) = true) (hw : WOk a) {g : Nat → V} {ob : Nat → Option IObj} (ha : App a g ob) : App b (updG g a.dst a.v) (wrO ob a.wr) ↔ App b g ob := by
  obtain ⟨h1, _, _, h4, _, _, h7, _⟩ := indepK_spec h
  have h1 : dstOut a.dst b.rs = true := h1
  have h4 : disj (wkeys a.wr) b.R = true := h4
  have h7 : disj (newK a.ob0 a.wr) b.K = true := h7
  have key : ∀ r, memN r b.K = true → (wrO ob a.wr r).isSome = (ob r).isSome := fun r hr => by
    by_cases hm : r ∈ wkeys a.wr
    · have hn : r ∉ newK a.ob0 a.wr := fun hn => by have := disj_spec h7 r hn; rw [hr] at this; cases this
      obtain ⟨o, ho⟩ := newK_some hm hn
      rw [wrO_isSome hm, ha.2.1 r (hw r hm), ho]; rfl
    · rw [wrO_not hm]
  constructor
  · exact fun ⟨p, q, s⟩ => ⟨fun t ht => by rw [← p t ht, updG_out h1 g a.v ht], fun r hr => by rw [← q r hr, wrO_disj h4 hr], fun r hr => by rw [← s r hr, key r hr]⟩
  · exact fun ⟨p, q, s⟩ => ⟨fun t ht => by rw [updG_out h1 g a.v ht, p t ht], fun r hr => by rw [wrO_disj h4 hr, q r hr], fun r hr => by rw [key r hr, s r hr]⟩
theorem dstNe_symm : ∀ {a b : Option Nat}, dstNe a b = true → dstNe b a = true
  | none, none, _ => rfl
  | none, some _, _ => rfl
  | some _, none, _ => rfl
  | some x, some y, h => by
    simp only [dstNe] at h ⊢
    cases h1 : Nat.beq y x with
    | false => rfl
    | true => obtain rfl := Nat.eq_of_beq_eq_true h1; rw [Nat.beq_refl] at h; cases h
theorem disj_symm {a b : List Nat} (h : disj a b = true) : disj b a = true := by
  have : ∀ l : List Nat, (∀ x ∈ l, memN x a = false) → disj l a = true := fun l => by
    induction l with
    | nil => exact fun _ => rfl
    | cons x l ih => exact fun hx => by unfold disj; rw [hx x List.mem_cons_self]; exact ih fun y hy => hx y (List.mem_cons_of_mem _ hy)
  refine this _ fun x hx => ?_
  cases hm : memN x a with
  | false => rfl
  | true => have := disj_spec h x (memN_spec hm); rw [memN_of hx] at this; cases this
theorem indepK_symm {a b : Keys} (h : indepK a b = true) : indepK b a = true := by
  obtain ⟨h1, h2, h3, h4, h5, h6, h7, h8⟩ := indepK_spec h
  simp only [indepK, h2, h1, dstNe_symm h3, h5, h4, disj_symm h6, h8, h7]

def RunR : List (Nat × Dlt) → (Nat → V) → (Nat → Option IObj) → (Nat → V) → (Nat → Option IObj) → Prop
  | [], g, ob, gE, obE => g = gE ∧ ob = obE
  | (_, δ) :: R, g, ob, gE, obE => App δ g ob ∧ RunR R (updG g δ.dst δ.v) (wrO ob δ.wr) gE obE
theorem RunR.front {i : Nat} {δ : Dlt} {B : List (Nat × Dlt)} {gE : Nat → V} {obE : Nat → Option IObj} : ∀ (A : List (Nat × Dlt)) {g : Nat → V} {ob : Nat → Option IObj}, (∀ a ∈ A, indepK (keysOf a.2) (keysOf δ) = true) → (∀ a ∈ A, WOk a.2) → WOk δ →
    RunR (A ++ (i, δ) :: B) g ob gE obE → App δ g ob ∧ RunR (A ++ B) (updG g δ.dst δ.v) (wrO ob δ.wr) gE obE
  | [], _, _, _, _, _, h => h
  | (j, a) :: A, g, ob, hi, hwa, hwd, h => by
    have h0 := hi (j, a) List.mem_cons_self
    obtain ⟨ha, h1⟩ := h
    obtain ⟨h2, h3⟩ := RunR.front A (fun x hx => hi x (List.mem_cons_of_mem _ hx)) (fun x hx => hwa x (List.mem_cons_of_mem _ hx)) hwd h1
    have hd := (App.post h0 (hwa _ List.mem_cons_self) ha).1 h2
    refine ⟨hd, (App.post (indepK_symm h0) hwd hd).2 ha, ?_⟩
    obtain ⟨_, _, e1, _, _, e2, _, _⟩ := indepK_spec h0
    rw [← updG_comm (a := a.dst) (b := δ.dst) e1, ← wrO_comm (a := a.wr) (b := δ.wr) e2]
    exact h3

/-! ### What stands ahead of what -/
def edgesL : List Edge → List Nat
  | [] => []
  | e :: l => match Region.binds .any e with | true => e.on :: edgesL l | false => edgesL l
def prd (l : List Oper) (b : Nat) : List Nat := match opAt l b with | some o => edgesL o.after.toList | none => []
def anyB (p : Nat → Bool) : List Nat → Bool
  | [] => false
  | x :: l => match p x with | true => true | false => anyB p l
def ordB (l : List Oper) : Nat → Nat → Nat → Bool
  | 0, _, _ => false
  | n + 1, a, b => match memN a (prd l b) with | true => true | false => anyB (fun k => ordB l n a k) (prd l b)
theorem edgesL_mem : ∀ {es : List Edge} {p : Nat}, p ∈ edgesL es ↔ ∃ e ∈ es, Region.binds .any e = true ∧ e.on = p
  | [], p => by simp [edgesL]
  | e :: l, p => by
    unfold edgesL
    have ih := edgesL_mem (es := l) (p := p)
    split
    · rename_i hb
      constructor
      · intro h
        rcases List.mem_cons.1 h with rfl | h
        · exact ⟨e, List.mem_cons_self, hb, rfl⟩
        · obtain ⟨x, h1, h2⟩ := ih.1 h; exact ⟨x, List.mem_cons_of_mem _ h1, h2⟩
      · rintro ⟨x, h1, h2, h3⟩
        rcases List.mem_cons.1 h1 with rfl | h1
        · rw [← h3]; exact List.mem_cons_self
        · exact List.mem_cons_of_mem _ (ih.2 ⟨x, h1, h2, h3⟩)
    · rename_i hb
      constructor
      · intro h; obtain ⟨x, h1, h2⟩ := ih.1 h; exact ⟨x, List.mem_cons_of_mem _ h1, h2⟩
      · rintro ⟨x, h1, h2, h3⟩
        rcases List.mem_cons.1 h1 with rfl | h1
        · rw [hb] at h2; cases h2
        · exact ih.2 ⟨x, h1, h2, h3⟩
theorem prd_mem {l : List Oper} {b p : Nat} {o : Oper} (ho : opAt l b = some o) : p ∈ prd l b ↔ ∃ e ∈ o.after, Region.binds .any e = true ∧ e.on = p := by
  unfold prd
  rw [ho]
  simp only [edgesL_mem, Array.mem_toList_iff]
def Closed (l : List Oper) (listed : Array Bool) : Prop := ∀ k o, opAt l k = some o → listed.getD k false = true → ∀ p ∈ prd l k, listed.getD p false = true
theorem anyB_spec {p : Nat → Bool} : ∀ {l : List Nat}, anyB p l = true → ∃ x ∈ l, p x = true
  | [], h => by cases h
  | x :: l, h => by
    unfold anyB at h
    split at h
    · rename_i hb; exact ⟨x, List.mem_cons_self, hb⟩
    · obtain ⟨y, h1, h2⟩ := anyB_spec h; exact ⟨y, List.mem_cons_of_mem _ h1, h2⟩
theorem ordB_spec {l : List Oper} {listed : Array Bool} (hc : Closed l listed) : ∀ {n a b : Nat}, ordB l n a b = true → (∀ p ∈ prd l b, listed.getD p false = true) → listed.getD a false = true
  | 0, _, _, h, _ => by cases h
  | n + 1, a, b, h, hp => by
    unfold ordB at h
    split at h
    · rename_i hm; exact hp a (memN_spec hm)
    · obtain ⟨k, h1, h2⟩ := anyB_spec h
      refine ordB_spec hc h2 fun p hpk => ?_
      cases ho : opAt l k with
      | none => unfold prd at hpk; rw [ho] at hpk; cases hpk
      | some o => exact hc k o ho (hp k h1) p hpk

/-! ### Every order -/
theorem opAt_lt {l : List Oper} {j : Nat} {o : Oper} (h : opAt l j = some o) : j < l.length := by
  rcases Nat.lt_or_ge j l.length with h' | h'
  · exact h'
  · have := opAt_eq l j; rw [h] at this; simp [List.getElem?_eq_none h'] at this
theorem getD_tf {listed : Array Bool} {a : Nat} (h : listed.getD a false = true) : listed.getD a true = true := by
  rcases Nat.lt_or_ge a listed.size with h' | h'
  · simp [h'] at h ⊢; exact h
  · simp [Array.getElem?_eq_none h'] at h
theorem getD_ft {listed : Array Bool} {a : Nat} (hl : a < listed.size) (h : listed.getD a true = true) : listed.getD a false = true := by
  simp [hl] at h ⊢; exact h
structure AbsF (S : Hand) (wl : World) (M0 M : Mem) (ρ : Rho) (N : Nat) (g : Nat → V) (ob : Nat → Option IObj) (f : Nat → Value) (w : World) : Prop where
  ow : Ow S wl M0 M ρ ob w
  sl : ∀ t, t < N → RelV M ρ (g t) (f t)
/-- The operation does as its Dlt says, wherever it may be looked at. -/
def DOk (r : Option Nat) (P : Program) (N : Nat) (ds : List Deferred) (all : List Oper) (o : Oper) (δ : Dlt) : Prop :=
  ∀ S wl M0 M ρ g ob f w, AbsF S wl M0 M ρ N g ob f w → App δ g ob → ∀ (K : Act → World → Prop) (Q : Exit → Act → World → Prop),
    (∀ M' ρ' f' w', AbsF S wl M0 M' ρ' N (updG g δ.dst δ.v) (wrO ob δ.wr) f' w' → K (fr N f' ds) w') →
    if Region.wanted o (yielded all.toArray (fr N f ds).tmps) = true then o.wpIn (WF r) 0 P (fr N f ds) w K Q else K ((fr N f ds).put o.dst undef) w

section
variable {r : Option Nat} {P : Program} {N : Nat} {ds : List Deferred} {l : List Oper} {S : Hand} {wl : World} {M0 : Mem} {gE : Nat → V} {obE : Nat → Option IObj} {Q : Exit → Act → World → Prop} {F : Nat}
def Rel2 (l : List Oper) (F : Nat) (a b : Nat × Dlt) : Prop := ordB l F a.1 b.1 = true ∨ indepK (keysOf a.2) (keysOf b.2) = true

theorem any_run (hback : ∀ j o, opAt l j = some o → ∀ p ∈ prd l j, p < j) (hE : ∀ M ρ f w, AbsF S wl M0 M ρ N gE obE f w → Q .normal (fr N f ds) w) :
    ∀ (n : Nat) (R : List (Nat × Dlt)) (listed : Array Bool) (M : Mem) (ρ : Rho) (g : Nat → V) (ob : Nat → Option IObj) (f : Nat → Value) (w : World), R.length = n → R.Pairwise (fun a b => a.1 < b.1) →
      listed.size = l.length → (∀ j, listed.getD j true = false ↔ ∃ x ∈ R, x.1 = j) → (∀ x ∈ R, ∃ o, opAt l x.1 = some o ∧ DOk r P N ds l o x.2 ∧ WOk x.2) → R.Pairwise (Rel2 l F) → Closed l listed →
      AbsF S wl M0 M ρ N g ob f w → RunR R g ob gE obE → wpAnyIn (WF r) 0 P .any l.toArray Q n listed (fr N f ds) w := by
  have nored : ∀ {listed : Array Bool} {R : List (Nat × Dlt)} {x : Nat × Dlt}, listed.size = l.length → R.Pairwise (fun a b => a.1 < b.1) → (∀ j, listed.getD j true = false ↔ ∃ x ∈ R, x.1 = j) → (∀ x ∈ R, ∃ o, opAt l x.1 = some o ∧ DOk r P N ds l o x.2 ∧ WOk x.2) → x ∈ R.head? → x.1 ∈ Region.ready .any l.toArray listed := fun {listed R x} hsz hs hl ho hx => by
    cases R with
    | nil => cases hx
    | cons y R =>
      simp only [List.head?_cons, Option.mem_def, Option.some.injEq] at hx
      subst hx
      obtain ⟨o, ho, _⟩ := ho y List.mem_cons_self
      refine mem_ready.2 ⟨(hl y.1).2 ⟨y, List.mem_cons_self, rfl⟩, o, (opAt_eq l y.1).trans ho, fun e he hb => ?_⟩
      have hlt := hback y.1 o ho e.on ((prd_mem ho).2 ⟨e, he, hb, rfl⟩)
      have hyl := opAt_lt ho
      cases hc : listed.getD e.on true with
      | true => exact getD_ft (by omega) hc
      | false =>
        obtain ⟨z, hz, hze⟩ := (hl e.on).1 hc
        rcases List.mem_cons.1 hz with rfl | hz
        · omega
        · have := (List.pairwise_cons.1 hs).1 z hz; omega
  intro n
  induction n with
  | zero =>
    intro R listed M ρ g ob f w hn hs hsz hl ho hp hc ha hr
    obtain rfl := List.eq_nil_of_length_eq_zero hn
    obtain ⟨rfl, rfl⟩ := hr
    refine ⟨?_, hE _ _ _ _ ha⟩
    rw [List.eq_nil_iff_forall_not_mem]
    intro j hj
    obtain ⟨x, hx, _⟩ := (hl j).1 (mem_ready.1 hj).1
    cases hx
  | succ n ih =>
    intro R listed M ρ g ob f w hn hs hsz hl ho hp hc ha hr
    refine ⟨fun h0 => ?_, fun i hi => ?_⟩
    · cases R with
      | nil => cases hn
      | cons x R =>
        have := nored hsz hs hl ho (x := x) (by simp)
        rw [h0] at this; cases this
    · obtain ⟨hun, oi, hoi, hall⟩ := mem_ready.1 hi
      rw [opAt_eq] at hoi
      obtain ⟨x, hx, rfl⟩ := (hl i).1 hun
      obtain ⟨o, hox, hdo, hwx⟩ := ho x hx
      rw [hoi] at hox; cases hox
      obtain ⟨A, B, rfl⟩ := List.append_of_mem hx
      have hpre : ∀ p ∈ prd l x.1, listed.getD p false = true := fun p hpp => by
        obtain ⟨e, he, hb, rfl⟩ := (prd_mem hoi).1 hpp
        exact hall e he hb
      have hind : ∀ a ∈ A, indepK (keysOf a.2) (keysOf x.2) = true := fun a haA => by
        have := (List.pairwise_append.1 hp).2.2 a haA x List.mem_cons_self
        rcases this with h1 | h1
        · have h2 := ordB_spec hc h1 hpre
          have h3 := (hl a.1).2 ⟨a, List.mem_append_left _ haA, rfl⟩
          rw [getD_tf h2] at h3; cases h3
        · exact h1
      obtain ⟨h1, h2⟩ := RunR.front (i := x.1) (δ := x.2) A hind (fun a ha => by obtain ⟨_, _, _, hw⟩ := ho a (List.mem_append_left _ ha); exact hw) hwx hr
      have key := hdo S wl M0 M ρ g ob f w ha h1 (wpAnyIn (WF r) 0 P .any l.toArray Q n (listed.setIfInBounds x.1 true)) Q (fun M' ρ' f' w' ha' => by
        refine ih (A ++ B) _ M' ρ' _ _ f' w' (by simp at hn ⊢; omega) ?_ (by simpa using hsz) ?_ ?_ ?_ ?_ ha' h2
        · exact hs.sublist ((List.sublist_cons_self x B).append_left A)
        · intro j
          have hlt : x.1 < listed.size := by
            rw [hsz]; exact opAt_lt hoi
          by_cases e : x.1 = j
          · subst e
            constructor
            · intro hh; simp [hlt] at hh
            · rintro ⟨y, hy, hyx⟩
              exfalso
              have h3 := List.pairwise_append.1 hs
              rcases List.mem_append.1 hy with hy | hy
              · have := h3.2.2 y hy x List.mem_cons_self; omega
              · have := (List.pairwise_cons.1 h3.2.1).1 y hy; omega
          · rw [getD_set_ne true e, hl j]
            constructor
            · rintro ⟨y, hy, rfl⟩
              rcases List.mem_append.1 hy with hy | hy
              · exact ⟨y, List.mem_append_left _ hy, rfl⟩
              · rcases List.mem_cons.1 hy with rfl | hy
                · exact absurd rfl e
                · exact ⟨y, List.mem_append_right _ hy, rfl⟩
            · rintro ⟨y, hy, rfl⟩
              rcases List.mem_append.1 hy with hy | hy
              · exact ⟨y, List.mem_append_left _ hy, rfl⟩
              · exact ⟨y, List.mem_append_right _ (List.mem_cons_of_mem _ hy), rfl⟩
        · intro y hy
          refine ho y ?_
          rcases List.mem_append.1 hy with hy | hy
          · exact List.mem_append_left _ hy
          · exact List.mem_append_right _ (List.mem_cons_of_mem _ hy)
        · exact hp.sublist ((List.sublist_cons_self x B).append_left A)
        · intro k o hk hlk p hpp
          by_cases e : x.1 = k
          · subst e
            exact getD_set_true (hpre p hpp)
          · rw [getD_set_ne false e] at hlk
            exact getD_set_true (hc k o hk hlk p hpp))
      unfold wpOpIn
      rw [opAt_eq, hoi]
      simp only
      split
      · rename_i hw; rw [if_pos hw] at key; exact key
      · rename_i hw; rw [if_neg hw] at key; exact ⟨fun _ _ => trivial, key⟩
end
end Go.Proofs.YtilfjfpemjfalaaGreatDoor.Kx
