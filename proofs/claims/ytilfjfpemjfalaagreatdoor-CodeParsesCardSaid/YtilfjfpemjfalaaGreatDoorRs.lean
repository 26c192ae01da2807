/- Calls that are handed objects of our own. -/
import Derived.Test.YtilfjfpemjfalaaGreatDoorRr
namespace Go.Proofs.YtilfjfpemjfalaaGreatDoor.Kx
open Go Go.RowKit

/-! ### Other numbers for objects -/
def lk : List (Nat × Nat) → Nat → Option Nat
  | [], _ => none
  | (a, b) :: l, r => match Nat.beq r a with | true => some b | false => lk l r
def inv : List (Nat × Nat) → List (Nat × Nat)
  | [] => []
  | (a, b) :: l => (b, a) :: inv l
def firsts : List (Nat × Nat) → List Nat
  | [] => []
  | (a, _) :: l => a :: firsts l
theorem inv_inv : ∀ (l : List (Nat × Nat)), inv (inv l) = l
  | [] => rfl
  | (a, b) :: l => by simp only [inv, inv_inv l]
def bijL (p q : List (Nat × Nat)) : List (Nat × Nat) → Bool
  | [] => true
  | (a, b) :: l => match lk p a, lk q b with
    | some x, some y => match Nat.beq x b, Nat.beq y a with | true, true => bijL p q l | _, _ => false
    | _, _ => false
def bij (p : List (Nat × Nat)) : Bool := bijL p (inv p) p
theorem lk_mem : ∀ {l : List (Nat × Nat)} {r s : Nat}, lk l r = some s → (r, s) ∈ l
  | [], _, _, h => by cases h
  | (a, b) :: l, r, s, h => by
    simp only [lk] at h
    split at h
    · rename_i hb; cases h; rw [Nat.eq_of_beq_eq_true hb]; exact List.mem_cons_self
    · exact List.mem_cons_of_mem _ (lk_mem h)
theorem inv_mem : ∀ {l : List (Nat × Nat)} {r s : Nat}, (r, s) ∈ inv l → (s, r) ∈ l
  | [], _, _, h => by cases h
  | (a, b) :: l, r, s, h => by
    rcases List.mem_cons.1 h with e | h
    · cases e; exact List.mem_cons_self
    · exact List.mem_cons_of_mem _ (inv_mem h)
theorem bijL_spec {p q : List (Nat × Nat)} : ∀ {l : List (Nat × Nat)}, bijL p q l = true → ∀ a b, (a, b) ∈ l → lk p a = some b ∧ lk q b = some a
  | [], _, a, b, h => by cases h
  | (x, y) :: l, h, a, b, hm => by
    unfold bijL at h
    split at h
    · rename_i u v h1 h2
      split at h
      · rename_i h3 h4
        rcases List.mem_cons.1 hm with e | hm
        · cases e
          rw [Nat.eq_of_beq_eq_true h3] at h1; rw [Nat.eq_of_beq_eq_true h4] at h2
          exact ⟨h1, h2⟩
        · exact bijL_spec h a b hm
      · cases h
    · cases h
theorem bij_to {p : List (Nat × Nat)} (h : bij p = true) {a b : Nat} (hl : lk p a = some b) : lk (inv p) b = some a := (bijL_spec h a b (lk_mem hl)).2
theorem bij_of {p : List (Nat × Nat)} (h : bij p = true) {a b : Nat} (hl : lk (inv p) b = some a) : lk p a = some b := (bijL_spec h a b (inv_mem (lk_mem hl))).1

section
variable (p : List (Nat × Nat))
mutual
def renV : V → V
  | .ptr r k => match lk p r with | some s => .ptr s k | none => .undef
  | .suf r g off => match lk p r with | some s => .suf s g off | none => .undef
  | .osl r g off len => match lk p r with | some s => .osl s g off len | none => .undef
  | .ept r g j k => match lk p r with | some s => .ept s g j k | none => .undef
  | .mp r => match lk p r with | some s => .mp s | none => .undef
  | .yl r => match lk p r with | some s => .yl s | none => .undef
  | .fn f a b => .fn f (renVs a) (renVs b)
  | .agg cs => .agg (renVs cs)
  | .tup vs => .tup (renVs vs)
  | .d x => .d x
  | .rp cs k => .rp cs k
  | .esl n => .esl n
  | .undef => .undef
  | .un => .un
def renVs : List V → List V
  | [] => []
  | v :: l => renV v :: renVs l
end
def renO : IObj → IObj
  | .box te cs => .box te (renVs p cs)
  | .fzb cs => .fzb (renVs p cs)
  | o => o
def renR (ρ : Rho) : Rho := fun s => match lk (inv p) s with | some r => ρ r | none => none
def renOb (ob : Nat → Option IObj) : Nat → Option IObj := fun s => match lk (inv p) s with | some r => (match ob r with | some o => some (renO p o) | none => none) | none => none
end
theorem renR_at {p : List (Nat × Nat)} {ρ : Rho} {r s : Nat} (hb : bij p = true) (h : lk p r = some s) : renR p ρ s = ρ r := by simp only [renR, bij_to hb h]

section
variable {p : List (Nat × Nat)} {M : Mem} {ρ : Rho}
mutual
theorem ren_rel (hb : bij p = true) : ∀ (v : V) {u : Value}, RelV M ρ v u → RelV M (renR p ρ) (renV p v) u
  | .ptr r k, u, hv => by
    simp only [renV]
    split
    · rename_i s hs; simp only [RelV, renR_at hb hs] at hv ⊢; exact hv
    · exact relV_undef _
  | .suf r g off, u, hv => by
    simp only [renV]
    split
    · rename_i s hs; simp only [RelV, renR_at hb hs] at hv ⊢; exact hv
    · exact relV_undef _
  | .osl r g off len, u, hv => by
    simp only [renV]
    split
    · rename_i s hs; simp only [RelV, renR_at hb hs] at hv ⊢; exact hv
    · exact relV_undef _
  | .ept r g j k, u, hv => by
    simp only [renV]
    split
    · rename_i s hs; simp only [RelV, renR_at hb hs] at hv ⊢; exact hv
    · exact relV_undef _
  | .mp r, u, hv => by
    simp only [renV]
    split
    · rename_i s hs; simp only [RelV, renR_at hb hs] at hv ⊢; exact hv
    · exact relV_undef _
  | .yl r, u, hv => by
    simp only [renV]
    split
    · rename_i s hs; simp only [RelV, renR_at hb hs] at hv ⊢; exact hv
    · exact relV_undef _
  | .fn f a b, u, hv => by
    simp only [renV, RelV] at hv ⊢
    obtain ⟨fs, cs, e, h1, h2⟩ := hv
    exact ⟨fs, cs, e, ren_rels hb a h1, ren_rels hb b h2⟩
  | .agg cs, u, hv => by simp only [renV, RelV] at hv ⊢; obtain ⟨us, e, h1⟩ := hv; exact ⟨us, e, ren_rels hb cs h1⟩
  | .tup cs, u, hv => by simp only [renV, RelV] at hv ⊢; obtain ⟨us, e, h1⟩ := hv; exact ⟨us, e, ren_rels hb cs h1⟩
  | .d x, u, hv => by simp only [renV, RelV] at hv ⊢; exact hv
  | .rp cs k, u, hv => by simp only [renV, RelV] at hv ⊢; exact hv
  | .esl n, u, hv => by simp only [renV, RelV] at hv ⊢; exact hv
  | .undef, u, _ => by simp only [renV]; exact relV_undef _
  | .un, u, hv => by simp only [renV, RelV] at hv ⊢; exact hv
theorem ren_rels (hb : bij p = true) : ∀ (vs : List V) {us : List Value}, RelVs M ρ vs us → RelVs M (renR p ρ) (renVs p vs) us
  | [], us, hv => by simp only [renVs, RelVs] at hv ⊢; exact hv
  | v :: l, us, hv => by
    simp only [renVs, RelVs] at hv ⊢
    obtain ⟨u, us', e, h1, h2⟩ := hv
    exact ⟨u, us', e, ren_rel hb v h1, ren_rels hb l h2⟩
end
end

section
variable {s : Nat → Prop} {r0 r1 : Rho} {wl w : World} {M0 M : Mem} {ρ : Rho} {ob : Nat → Option IObj} {p : List (Nat × Nat)}
def isFrn : IObj → Bool
  | .frn _ => true
  | _ => false
theorem renO_frn {o : IObj} : isFrn (renO p o) = isFrn o := by cases o <;> rfl
theorem renO_live {i : Inf} {o : IObj} : live i (renO p o) = live i o := by cases o <;> rfl
theorem renOb_some {t : Nat} {o' : IObj} (h : renOb p ob t = some o') : ∃ r o, lk (inv p) t = some r ∧ ob r = some o ∧ o' = renO p o := by
  unfold renOb at h
  split at h
  · rename_i r hr
    split at h
    · rename_i o ho; cases h; exact ⟨r, o, hr, ho, rfl⟩
    · cases h
  · cases h
/-- The objects under other numbers. -/
theorem Ow.ren (h : Ow ⟨s, r0⟩ wl M0 M ρ ob w) (hb : bij p = true) (hnf : ∀ r o t, lk p r = some t → ob r = some o → isFrn o = false) (hh : ∀ t i, Nat.ble 2000 t = true → r1 t = some i → ∃ i', renR p ρ t = some i' ∧ Ile i i') : Ow ⟨s, r1⟩ wl M0 M (renR p ρ) (renOb p ob) w := by
  refine ⟨h.size, h.os, h.tape, h.output, h.old, h.sits, h.le, h.gl, h.new, fun t o' ho => ?_, fun t i hi => ?_, fun t t' o o' i i' h1 h2 h3 h4 l1 l2 hbb => ?_, hh⟩
  · obtain ⟨r, o, h1, h2', rfl⟩ := renOb_some ho
    obtain ⟨i, hi, hok⟩ := h.own r o h2'
    refine ⟨i, by simp only [renR, h1]; exact hi, ?_⟩
    cases o with
    | box te cs =>
      obtain ⟨h0, hm, us, e, h2, h3, h4⟩ := hok
      exact ⟨h0, hm, us, e, h2, ren_rels hb cs h3, h4⟩
    | buf g e sz es => exact hok
    | fzs g sz es => exact hok
    | fzb cs =>
      obtain ⟨h0, c0, us, h1, hP, h2, h3⟩ := hok
      exact ⟨h0, c0, us, h1, hP, ren_rels hb cs h2, h3⟩
    | mapo kk ag sz es => exact hok
    | raw b x => exact hok
    | frn q => have := hnf r _ t (bij_of hb h1) h2'; cases this
  · unfold renR at hi
    split at hi
    · rename_i r hr
      obtain ⟨o, ho⟩ := h.dom r i hi
      exact ⟨renO p o, by simp only [renOb, hr, ho]⟩
    · cases hi
  · obtain ⟨r, x, a1, a2, rfl⟩ := renOb_some h1
    obtain ⟨r', x', b1, b2, rfl⟩ := renOb_some h2
    simp only [renR, a1] at h3
    simp only [renR, b1] at h4
    rw [renO_live] at l1 l2
    obtain rfl := h.inj r r' x x' i i' a2 b2 h3 h4 l1 l2 hbb
    have e1 := bij_of hb a1
    have e2 := bij_of hb b1
    rw [e1] at e2; cases e2; rfl
end

/-! ### The contract -/
/-- A call that is handed objects: what becomes of them. -/
def CallR (P : Program) (g : FuncId) (os : List (Nat × IObj)) (args : List V) (H : List (Nat × IObj)) (v : V) : Prop :=
  ∀ s wl M0 M ρ w vals, Ow ⟨s, ρ⟩ wl M0 M ρ (obGet os) w → RelVs M ρ args vals → Calls P g vals.toArray w (fun e w' => ∃ u M' ρ', e = .returned u ∧ Ow ⟨s, ρ⟩ wl M0 M' ρ' (obGet H) w' ∧ RelV M' ρ' v u)

section
variable {r : Option Nat} {P : Program} {N : Nat} {S : Hand} {wl w : World} {M0 M : Mem} {ρ : Rho} {ob : Nat → Option IObj}
def argR (K : List Nat) (ob : Nat → Option IObj) (v : V) : Option (V × Wr) := match refsV v [] with
  | [] => argOf ob v
  | _ => match refsIn K v with | true => some (v, []) | false => argOf ob v
def argsR (K : List Nat) (ob : Nat → Option IObj) : List V → Option (List V × Wr)
  | [] => some ([], [])
  | v :: l => match argR K ob v with
    | some (x, wr) => match argsR K (wrO ob wr) l with
      | some (xs, wr') => some (x :: xs, wr ++ wr')
      | none => none
    | none => none
theorem argR_sound (h : Ow S wl M0 M ρ ob w) {K : List Nat} {v x : V} {u : Value} {wr : Wr} (hv : RelV M ρ v u) (hd : argR K ob v = some (x, wr)) : ∃ M', Rle M M' ρ ρ ∧ Ow S wl M0 M' ρ (wrO ob wr) w ∧ RelV M' ρ x u := by
  have arg : argOf ob v = some (x, wr) → ∃ M', Rle M M' ρ ρ ∧ Ow S wl M0 M' ρ (wrO ob wr) w ∧ RelV M' ρ x u := fun hd => by
    obtain ⟨M', h1, h2, h3⟩ := argsOf_sound (vs := [v]) (us := [u]) (xs := [x]) (wr := wr) h (by simp only [RelVs]; exact ⟨u, [], rfl, hv, rfl⟩) (by simp only [argsOf, hd, List.append_nil])
    have := h3 ρ
    simp only [RelVs] at this
    obtain ⟨u', us', e, h4, _⟩ := this
    cases e
    exact ⟨M', h1, h2, h4⟩
  unfold argR at hd
  split at hd
  · exact arg hd
  · split at hd
    · cases hd; exact ⟨M, Rle.refl _ _, h, hv⟩
    · exact arg hd
theorem argsR_sound {K : List Nat} : ∀ {vs : List V} {ob : Nat → Option IObj} {M : Mem} (_h : Ow S wl M0 M ρ ob w) {us : List Value} {xs : List V} {wr : Wr}, RelVs M ρ vs us → argsR K ob vs = some (xs, wr) → ∃ M', Rle M M' ρ ρ ∧ Ow S wl M0 M' ρ (wrO ob wr) w ∧ RelVs M' ρ xs us
  | [], ob, M, h, us, xs, wr, hv, hd => by
    simp only [argsR, Option.some.injEq, Prod.mk.injEq] at hd
    obtain ⟨rfl, rfl⟩ := hd
    exact ⟨M, Rle.refl _ _, h, hv⟩
  | v :: vs, ob, M, h, us, xs, wr, hv, hd => by
    simp only [RelVs] at hv
    obtain ⟨u, us', rfl, h1, h2⟩ := hv
    unfold argsR at hd
    split at hd
    · rename_i x wr1 hx
      split at hd
      · rename_i xs' wr2 hs
        cases hd
        obtain ⟨M1, a1, a2, a3⟩ := argR_sound h h1 hx
        obtain ⟨M2, b1, b2, b3⟩ := argsR_sound a2 (RelVs.mono a1 _ h2) hs
        exact ⟨M2, a1.trans b1, by rw [wrO_append]; exact b2, by simp only [RelVs]; exact ⟨u, us', rfl, RelV.mono b1 _ a3, b3⟩⟩
      · cases hd
    · cases hd
/-- The objects, as the callee has them. -/
def osOf (p : List (Nat × Nat)) (ob : Nat → Option IObj) : List (Nat × Nat) → List (Nat × IObj)
  | [] => []
  | (a, b) :: l => match ob a with | some o => (b, renO p o) :: osOf p ob l | none => osOf p ob l
theorem osOf_get {p : List (Nat × Nat)} {ob : Nat → Option IObj} : ∀ {l : List (Nat × Nat)} {t : Nat} {r : Nat}, (∀ a b, (a, b) ∈ l → lk p a = some b ∧ lk (inv p) b = some a) → lk (inv p) t = some r →
    (∀ o, obGet (osOf p ob l) t = some o → ∃ x, ob r = some x ∧ o = renO p x) ∧ ((r, t) ∈ l → ∀ x, ob r = some x → obGet (osOf p ob l) t = some (renO p x))
  | [], t, r, _, _ => ⟨fun o h => by simp [osOf, obGet] at h, fun h => by cases h⟩
  | (a, b) :: l, t, r, hl, ht => by
    obtain ⟨i1, i2⟩ := osOf_get (l := l) (ob := ob) (fun a b h => hl a b (List.mem_cons_of_mem _ h)) ht
    have hab := hl a b List.mem_cons_self
    have hne : Nat.beq t b = true → a = r := fun h => by
      obtain rfl := Nat.eq_of_beq_eq_true h
      rw [hab.2] at ht; cases ht; rfl
    constructor
    · intro o ho
      unfold osOf at ho
      split at ho
      · rename_i x hx
        simp only [obGet] at ho
        split at ho
        · rename_i hb
          cases ho
          obtain rfl := hne hb
          exact ⟨x, hx, rfl⟩
        · exact i1 o ho
      · exact i1 o ho
    · intro hm x hx
      unfold osOf
      rcases List.mem_cons.1 hm with e | hm
      · cases e
        simp only [hx, obGet, Nat.beq_refl]
      · split
        · rename_i y hy
          simp only [obGet]
          split
          · rename_i hb
            obtain rfl := hne hb
            rw [hx] at hy; cases hy; rfl
          · exact i2 hm x hx
        · exact i2 hm x hx
theorem osOf_none {p : List (Nat × Nat)} {ob : Nat → Option IObj} : ∀ {l : List (Nat × Nat)} {t : Nat}, (∀ a, (a, t) ∉ l) → obGet (osOf p ob l) t = none
  | [], _, _ => rfl
  | (a, b) :: l, t, h => by
    have ih := osOf_none (p := p) (ob := ob) (l := l) (t := t) (fun a hm => h a (List.mem_cons_of_mem _ hm))
    unfold osOf
    split
    · simp only [obGet]
      split
      · rename_i hb
        obtain rfl := Nat.eq_of_beq_eq_true hb
        exact absurd List.mem_cons_self (h a)
      · exact ih
    · exact ih
theorem lk_of_mem : ∀ {l : List (Nat × Nat)} {a b : Nat}, (a, b) ∈ l → ∃ c, lk l a = some c
  | (x, y) :: l, a, b, h => by
    simp only [lk]
    split
    · exact ⟨y, rfl⟩
    · rename_i hb
      rcases List.mem_cons.1 h with e | h
      · cases e; rw [Nat.beq_refl] at hb; cases hb
      · exact lk_of_mem h
theorem inv_mem' : ∀ {l : List (Nat × Nat)} {r s : Nat}, (r, s) ∈ l → (s, r) ∈ inv l
  | (a, b) :: l, r, s, h => by
    rcases List.mem_cons.1 h with e | h
    · cases e; exact List.mem_cons_self
    · exact List.mem_cons_of_mem _ (inv_mem' h)
theorem osOf_eq {p : List (Nat × Nat)} (hb : bij p = true) (ob : Nat → Option IObj) : obGet (osOf p ob p) = renOb p ob := by
  funext t
  unfold renOb
  split
  · rename_i r hr
    obtain ⟨i1, i2⟩ := osOf_get (ob := ob) (bijL_spec hb) hr
    split
    · rename_i o ho; exact i2 (inv_mem (lk_mem hr)) o ho
    · rename_i ho
      cases h : obGet (osOf p ob p) t with
      | none => rfl
      | some x => obtain ⟨y, hy, _⟩ := i1 x h; rw [ho] at hy; cases hy
  · rename_i hr
    refine osOf_none fun a hm => ?_
    obtain ⟨c, hc⟩ := lk_of_mem (inv_mem' hm)
    rw [hr] at hc; cases hc
theorem memN_firsts {r : Nat} : ∀ {l : List (Nat × Nat)}, memN r (firsts l) = true ↔ ∃ s, lk l r = some s
  | [] => by simp [firsts, memN, lk]
  | (a, b) :: l => by
    simp only [firsts, memN, lk]
    cases Nat.beq r a with
    | true => simp
    | false => exact memN_firsts
/-- What came back, put where it was. -/
def backOf (p : List (Nat × Nat)) (H : List (Nat × IObj)) : List (Nat × Nat) → Option Wr
  | [] => some []
  | (a, b) :: l => match obGet H b, backOf p H l with | some o, some wr => (match isFrn o with | true => none | false => some ((a, renO (inv p) o) :: wr)) | _, _ => none
theorem backOf_keys {p : List (Nat × Nat)} {H : List (Nat × IObj)} : ∀ {l : List (Nat × Nat)} {wr : Wr}, backOf p H l = some wr → wkeys wr = firsts l
  | [], wr, h => by simp only [backOf, Option.some.injEq] at h; subst h; rfl
  | (a, b) :: l, wr, h => by
    unfold backOf at h
    split at h
    · rename_i o wr' h1 h2
      split at h
      · cases h
      · cases h
        simp only [wkeys, firsts, backOf_keys h2]
    · cases h
theorem backOf_H {p : List (Nat × Nat)} {H : List (Nat × IObj)} : ∀ {l : List (Nat × Nat)} {wr : Wr}, backOf p H l = some wr → ∀ a b o, (a, b) ∈ l → obGet H b = some o → isFrn o = false
  | [], _, _, a, b, o, hm, _ => by cases hm
  | (x, y) :: l, wr, h, a, b, o, hm, ho => by
    unfold backOf at h
    split at h
    · rename_i o' wr' h1 h2
      split at h
      · cases h
      · rename_i hf
        rcases List.mem_cons.1 hm with e | hm
        · cases e; rw [ho] at h1; cases h1; exact hf
        · exact backOf_H h2 a b o hm ho
    · cases h
theorem backOf_get {p : List (Nat × Nat)} {H : List (Nat × IObj)} (ob : Nat → Option IObj) {r s : Nat} : ∀ {l : List (Nat × Nat)} {wr : Wr}, (∀ a b, (a, b) ∈ l → lk p a = some b) → backOf p H l = some wr → lk p r = some s → r ∈ firsts l → wrO ob wr r = (match obGet H s with | some o => some (renO (inv p) o) | none => none)
  | [], wr, _, _, _, hm => by cases hm
  | (a, b) :: l, wr, hl, h, hr, hm => by
    unfold backOf at h
    split at h
    · rename_i o wr' h1 h2
      split at h
      · cases h
      cases h
      simp only [wrO]
      by_cases hin : r ∈ firsts l
      · rw [← backOf_get (updO ob a (renO (inv p) o)) (fun a b h => hl a b (List.mem_cons_of_mem _ h)) h2 hr hin]
      · rw [wrO_not (by rw [backOf_keys h2]; exact hin)]
        rcases List.mem_cons.1 hm with rfl | hm
        · have := hl r b List.mem_cons_self
          rw [hr] at this; cases this
          rw [updO_same, h1]
        · exact absurd hm hin
    · cases h
def allBig : List (Nat × Nat) → Bool
  | [] => true
  | (_, b) :: l => match Nat.ble 2000 b with | true => allBig l | false => false
theorem allBig_spec : ∀ {l : List (Nat × Nat)} {r s : Nat}, allBig l = true → lk l r = some s → Nat.ble 2000 s = true
  | [], _, _, _, h => by cases h
  | (a, b) :: l, r, s, hb, h => by
    unfold allBig at hb
    simp only [lk] at h
    split at hb
    · rename_i h1
      split at h
      · cases h; exact h1
      · exact allBig_spec hb h
    · cases hb
def noFrn : Wr → Bool
  | [] => true
  | (_, o) :: l => match isFrn o with | true => false | false => noFrn l
theorem backOf_nf {p : List (Nat × Nat)} {H : List (Nat × IObj)} : ∀ {l : List (Nat × Nat)} {wr : Wr}, backOf p H l = some wr → noFrn wr = true
  | [], wr, h => by simp only [backOf, Option.some.injEq] at h; subst h; rfl
  | (a, b) :: l, wr, h => by
    unfold backOf at h
    split at h
    · rename_i o wr' h1 h2
      split at h
      · cases h
      · rename_i hf
        cases h
        unfold noFrn
        rw [renO_frn, hf]
        exact backOf_nf h2
    · cases h
theorem keysIn_of {K : List Nat} : ∀ {wr : Wr}, noFrn wr = true → (∀ x ∈ wkeys wr, memN x K = true) → keysIn K wr = true
  | [], _, _ => rfl
  | (d, o) :: wr, hn, h => by
    unfold noFrn at hn
    unfold keysIn
    rw [h d List.mem_cons_self]
    split at hn
    · cases hn
    · rename_i hf
      cases o <;> first | (cases hf; done) | exact keysIn_of hn fun x hx => h x (List.mem_cons_of_mem _ hx)
def closedAll (ob : Nat → Option IObj) (K : List Nat) : List Nat → Bool
  | [] => true
  | r :: l => match ob r with
    | some o => match closedO K o with | true => closedAll ob K l | false => false
    | none => closedAll ob K l
theorem closedAll_spec {ob : Nat → Option IObj} {K : List Nat} : ∀ {l : List Nat}, closedAll ob K l = true → ∀ r o, memN r l = true → ob r = some o → closedO K o = true
  | [], _, r, o, h, _ => by cases h
  | x :: l, hc, r, o, h, ho => by
    unfold memN at h
    unfold closedAll at hc
    split at h
    · rename_i hb
      obtain rfl := Nat.eq_of_beq_eq_true hb
      rw [ho] at hc
      simp only at hc
      split at hc
      · assumption
      · cases hc
    · split at hc
      · split at hc
        · exact closedAll_spec hc r o h ho
        · cases hc
      · exact closedAll_spec hc r o h ho
/-- What is handed over: objects and values. -/
def handOf (ob : Nat → Option IObj) (p : List (Nat × Nat)) (args : List V) : Option (List (Nat × IObj) × List V × Wr) := match argsR (firsts p) ob args, bij p, allBig p with
  | some (xs, wr), true, true => match closedAll (wrO ob wr) (firsts p) (firsts p) with
    | true => some (osOf p (wrO ob wr) p, renVs p xs, wr)
    | false => none
  | _, _, _ => none

theorem callR_eff {a : Act} {w : World} {op : Op} {d : Nat} {ty : TypeId} {ev : Operand → V} {g : FuncId} {args xs ys : List V} {p : List (Nat × Nat)} {os H : List (Nat × IObj)} {v : V} {wr bk : Wr} (ho : Ow S wl M0 M ρ ob w) (hev : ∀ x, RelV M ρ (ev x) (a.eval x)) (hc : evOp P ob d ty ev op = .call g args) (he : entersT P g)
    (hh : handOf ob p args = some (os, xs, wr)) (hre : Res' xs ys) (hcall : CallR P g os ys H v) (hbk : backOf p H p = some bk) : EffV r P a op S wl M0 M ρ ob w (renV (inv p) v) (wr ++ bk) := by
  obtain ⟨vals, h1, h2⟩ := call_eff (r := r) (w := w) hc hev he
  unfold handOf at hh
  split at hh
  · rename_i xs0 wr0 hargs hbij hbig
    split at hh
    · rename_i hcl
      cases hh
      obtain ⟨M1, r1, o1, d1⟩ := argsR_sound ho h1 hargs
      have hp := o1.part (firsts p) (firsts p) (fun x o hm hx => closedAll_spec hcl x o hm hx)
      have eR : renR p (keepR (firsts p) ρ) = renR p ρ := by
        funext t
        unfold renR
        split
        · rename_i q hq
          exact keepR_in (memN_firsts.2 ⟨t, bij_of hbij hq⟩)
        · rfl
      have eO : renOb p (keepO (firsts p) (firsts p) (wrO ob wr)) = renOb p (wrO ob wr) := by
        funext t
        unfold renOb
        split
        · rename_i q hq
          rw [keepO_in (memN_firsts.2 ⟨t, bij_of hbij hq⟩) (memN_firsts.2 ⟨t, bij_of hbij hq⟩)]
        · rfl
      have hq := hp.ren (r1 := renR p ρ) hbij (fun q o t hq ho => by
        have hm := memN_firsts.2 ⟨t, hq⟩
        rw [keepO_in hm hm] at ho
        have := closedAll_spec hcl q o hm ho
        cases o <;> first | rfl | cases this) (fun t i _ hi => ⟨i, by rw [eR]; exact hi, Ile.refl i⟩)
      rw [eR, eO, ← osOf_eq hbij] at hq
      refine h2 _ _ (hcall _ _ _ _ _ w vals hq (hre.rel (ren_rels hbij _ d1))) ?_
      rintro e w' ⟨u, M2, ρ2, rfl, hE, hv⟩
      have hbi : bij (inv p) = true := by
        have : ∀ {l : List (Nat × Nat)}, (∀ a b, (a, b) ∈ l → lk (inv p) a = some b ∧ lk p b = some a) → bijL (inv p) p l = true := fun {l} hl => by
          induction l with
          | nil => rfl
          | cons x l ih =>
            obtain ⟨a, b⟩ := x
            obtain ⟨q1, q2⟩ := hl a b List.mem_cons_self
            unfold bijL
            simp only [q1, q2, Nat.beq_refl]
            exact ih fun a b h => hl a b (List.mem_cons_of_mem _ h)
        unfold bij
        rw [inv_inv]
        exact this fun a b hm => by
          obtain ⟨q1, q2⟩ := bijL_spec hbij b a (inv_mem hm)
          exact ⟨q2, q1⟩
      have hB := hE.ren (r1 := noR) hbi (fun q o t hq ho => backOf_H hbk t q o (inv_mem (lk_mem hq)) ho) (fun t i _ hi => by cases hi)
      have hkeys : ∀ x, memN x (firsts p) = true ↔ x ∈ wkeys bk := fun x => by rw [backOf_keys hbk]; exact ⟨memN_spec, memN_of⟩
      have eB : renOb (inv p) (obGet H) = wrO (keepO (firsts p) (firsts p) (wrO ob wr)) bk := by
        funext x
        cases hm : memN x (firsts p) with
        | true =>
          obtain ⟨t, ht⟩ := memN_firsts.1 hm
          rw [backOf_get _ (fun a b h => (bijL_spec hbij a b h).1) hbk ht (memN_spec hm)]
          unfold renOb
          rw [inv_inv, ht]
        | false =>
          rw [wrO_not (fun hx => by rw [(hkeys x).2 hx] at hm; cases hm)]
          have : lk p x = none := by
            cases hl : lk p x with
            | none => rfl
            | some t => rw [memN_firsts.2 ⟨t, hl⟩] at hm; cases hm
          unfold renOb keepO
          rw [inv_inv, this, hm]
      rw [eB] at hB
      have hR : Rle M1 M2 (keepR (firsts p) ρ) (renR (inv p) ρ2) := ⟨hE.le, fun x i hi => by
        obtain ⟨hm, hi⟩ := keepR_some hi
        obtain ⟨t, ht⟩ := memN_firsts.1 hm
        obtain ⟨i', h3, h4⟩ := hE.held t i (allBig_spec hbig ht) (by show renR p ρ t = some i; rw [renR_at hbij ht]; exact hi)
        refine ⟨i', ?_, h4⟩
        unfold renR
        rw [inv_inv, ht]; exact h3⟩
      obtain ⟨b1, b2, b3⟩ := o1.back (fun x o hm hx => closedAll_spec hcl x o hm hx) (fun _ h => h) (fun _ _ h h' => by rw [h] at h'; cases h') (keysIn_of (backOf_nf hbk) fun x hx => (hkeys x).2 hx) hB hR
      exact ⟨u, rfl, M2, _, r1.trans b1, by rw [wrO_append]; exact b2, RelV.mono b3 _ (ren_rel hbi _ hv)⟩
    · cases hh
  · cases hh
end

/-! ### The rules -/
section
variable {r : Option Nat} {P : Program} {N : Nat} {ds : List Deferred} {fin : Fin} {c : Cfg} {q : CfgD}
def callROf (P : Program) (N : Nat) (c : Cfg) (p : List (Nat × Nat)) : Option (FuncId × List (Nat × IObj) × List V) := match evNow P N c with
  | .call g args => match handOf (obGet c.ob) p args with
    | some (os, xs, _) => some (g, os, xs)
    | none => none
  | _ => none
def okR (P : Program) (N : Nat) (c : Cfg) (p : List (Nat × Nat)) (H : List (Nat × IObj)) : Bool := match evNow P N c, backOf p H p with
  | .call _ _, some _ => true
  | _, _ => false
def resR (P : Program) (N : Nat) (c : Cfg) (p : List (Nat × Nat)) (H : List (Nat × IObj)) (v : V) : Cfg := match evNow P N c with
  | .call _ args => match handOf (obGet c.ob) p args, backOf p H p with
    | some (_, _, wr), some bk => after N c (renV (inv p) v) (wr ++ bk)
    | _, _ => c
  | _ => c
theorem J_callR {g : FuncId} {os : List (Nat × IObj)} {xs : List V} (p : List (Nat × Nat)) (ys : List V) (H : List (Nat × IObj)) (v : V) (hc : callROf P N c p = some (g, os, xs)) (hb : okR P N c p H = true) (he : entersT P g) (hre : Res' xs ys) (hcall : CallR P g os ys H v) (hk : J r P N ds fin (resR P N c p H v)) : J r P N ds fin c := by
  unfold callROf at hc
  split at hc
  · rename_i g' args hev
    split at hc
    · rename_i os' xs' wr hh
      cases hc
      unfold okR at hb
      rw [hev] at hb
      split at hb
      · rename_i bk _ hbk
        obtain ⟨op, all, rest, k', ht, hg⟩ := evNow_is (P := P) (N := N) (c := c) (by rw [hev]; intro e; cases e)
        unfold resR at hk
        rw [hev] at hk
        simp only [hh, hbk, after_eq ht] at hk
        refine J_eff ht hg (fun S wl M0 M ρ f w ha => ?_) hk
        rw [evNow_ops ht hg] at hev
        exact callR_eff ha.ow (evalV_rel (ds := ds) ha) hev he hh hre hcall hbk
      · cases hb
    · cases hc
  · cases hc

def dcallR (P : Program) (N : Nat) (q : CfgD) (p : List (Nat × Nat)) : Option (FuncId × List (Nat × IObj) × List V) := match dNow P N q with
  | .call g args => match handOf (dobNow N q) p args with
    | some (os, xs, _) => some (g, os, xs)
    | none => none
  | _ => none
def dokR (P : Program) (N : Nat) (q : CfgD) (p : List (Nat × Nat)) (H : List (Nat × IObj)) (v : V) : Bool := match dNow P N q with
  | .call _ args => match handOf (dobNow N q) p args, backOf p H p with
    | some (_, _, wr), some bk => dgoB N q (renV (inv p) v) (wr ++ bk)
    | _, _ => false
  | _ => false
def dresR (P : Program) (N : Nat) (q : CfgD) (p : List (Nat × Nat)) (H : List (Nat × IObj)) (v : V) : CfgD := match dNow P N q with
  | .call _ args => match handOf (dobNow N q) p args, backOf p H p with
    | some (_, _, wr), some bk => dgo N q (renV (inv p) v) (wr ++ bk)
    | _, _ => q
  | _ => q
theorem JD_callR {g : FuncId} {os : List (Nat × IObj)} {xs : List V} (p : List (Nat × Nat)) (ys : List V) (H : List (Nat × IObj)) (v : V) (hc : dcallR P N q p = some (g, os, xs)) (hb : dokR P N q p H v = true) (he : entersT P g) (hre : Res' xs ys) (hcall : CallR P g os ys H v) (hk : JD r P N ds fin (dresR P N q p H v)) : JD r P N ds fin q := by
  unfold dcallR at hc
  split at hc
  · rename_i g' args hev
    split at hc
    · rename_i os' xs' wr hh
      cases hc
      unfold dokR at hb
      unfold dresR at hk
      rw [hev] at hb hk
      simp only [hh] at hb hk
      split at hb
      · rename_i os2 xs2 wr2 bk hh2 hbk
        cases hh2
        simp only [hbk] at hk
        obtain ⟨o, rest, hr, h1, h2, h3, h4⟩ := dNow_is (P := P) (N := N) (q := q) (by rw [hev]; intro e; cases e)
        obtain ⟨h5, h6, h8, h7⟩ := dGo_is hr (dgo_is hb)
        rw [h7] at hk
        refine JD_cons hr h3 (dok h1 h2 h8 h3 h5 (fun S wl M0 M ρ f w ho hev' => ?_)) (keysIn_mem h5) h6 hk
        have hob : dobNow N q = dOb q.ob (kOf N q o) (rOf N q o (kOf N q o)) := by unfold dobNow; rw [hr]
        rw [hob] at hh
        rw [h4] at hev
        exact callR_eff ho hev' hev he hh hre hcall hbk
      · cases hb
    · cases hc
  · cases hc

/-! ### Returns -/
def keepH : List (Nat × IObj) → List (Nat × IObj)
  | [] => []
  | (r, o) :: l => match Nat.ble 2000 r with | true => (r, o) :: keepH l | false => keepH l
theorem keepH_get : ∀ (l : List (Nat × IObj)) (r : Nat), obGet (keepH l) r = match Nat.ble 2000 r with | true => obGet l r | false => none
  | [], r => by simp only [keepH, obGet]; split <;> rfl
  | (q, o) :: l, r => by
    have ih := keepH_get l r
    unfold keepH
    split
    · rename_i hq
      simp only [obGet]
      cases hb : Nat.beq r q with
      | true =>
        obtain rfl := Nat.eq_of_beq_eq_true hb
        simp only [hq]
      | false => exact ih
    · rename_i hq
      rw [ih]
      cases hr : Nat.ble 2000 r with
      | false => rfl
      | true =>
        simp only [obGet]
        cases hb : Nat.beq r q with
        | true =>
          obtain rfl := Nat.eq_of_beq_eq_true hb
          rw [hr] at hq; cases hq
        | false => rfl
def idsOf : List (Nat × IObj) → List Nat
  | [] => []
  | (r, _) :: l => r :: idsOf l
theorem idsOf_mem : ∀ {l : List (Nat × IObj)} {r : Nat}, memN r (idsOf l) = true ↔ ∃ o, obGet l r = some o
  | [], r => by simp [idsOf, memN, obGet]
  | (q, o) :: l, r => by
    simp only [idsOf, memN, obGet]
    cases Nat.beq r q with
    | true => simp
    | false => exact idsOf_mem
/-- Only what was handed in is told of. -/
theorem Ow.onlyH {S : Hand} {wl w : World} {M0 M : Mem} {ρ : Rho} {l : List (Nat × IObj)} (h : Ow S wl M0 M ρ (obGet l) w) (hc : closedAll (obGet l) (idsOf (keepH l)) (idsOf (keepH l)) = true) : Ow S wl M0 M (keepR (idsOf (keepH l)) ρ) (obGet (keepH l)) w := by
  have e : obGet (keepH l) = keepO (idsOf (keepH l)) (idsOf (keepH l)) (obGet l) := by
    funext r
    cases hm : memN r (idsOf (keepH l)) with
    | true =>
      rw [keepO_in hm hm]
      obtain ⟨o, ho⟩ := idsOf_mem.1 hm
      rw [ho]
      rw [keepH_get] at ho
      split at ho
      · exact ho.symm
      · cases ho
    | false =>
      simp only [keepO, hm]
      cases ho : obGet (keepH l) r with
      | none => rfl
      | some o => rw [idsOf_mem.2 ⟨o, ho⟩] at hm; cases hm
  rw [e]
  refine ⟨h.size, h.os, h.tape, h.output, h.old, h.sits, h.le, h.gl, h.new, fun r o hr => ?_, fun r i hi => ?_, fun r r' o o' i i' h1 h2 h3 h4 l1 l2 => h.inj r r' o o' i i' (keepO_live h1 l1).2 (keepO_live h2 l2).2 (keepR_some h3).2 (keepR_some h4).2 l1 l2, fun r i hb hi => ?_⟩
  · obtain ⟨hm, ⟨_, ho⟩ | ⟨hn, _⟩⟩ := keepO_some hr
    rotate_left
    · rw [hm] at hn; cases hn
    obtain ⟨i, hi, hok⟩ := h.own r o ho
    refine ⟨i, by rw [keepR_in hm]; exact hi, ?_⟩
    have hcl := closedAll_spec hc r o hm ho
    cases o with
    | box te cs =>
      obtain ⟨h0, h1, us, e, h2, h3, h4⟩ := hok
      exact ⟨h0, h1, us, e, h2, refs_rels cs hcl h3, h4⟩
    | buf g e sz es => exact hok
    | fzs g sz es => exact hok
    | fzb cs =>
      obtain ⟨h0, c0, us, h1, hP, h2, h3⟩ := hok
      exact ⟨h0, c0, us, h1, hP, refs_rels cs hcl h2, h3⟩
    | mapo kk ag sz es => exact hok
    | raw b x => exact hok
    | frn q => cases hcl
  · obtain ⟨hm, hi⟩ := keepR_some hi
    obtain ⟨o, ho⟩ := h.dom r i hi
    exact ⟨o, by rw [keepO_in hm hm]; exact ho⟩
  · obtain ⟨i', h1, h2⟩ := h.held r i hb hi
    obtain ⟨o, ho⟩ := h.dom r i' h1
    have hm : memN r (idsOf (keepH l)) = true := idsOf_mem.2 ⟨o, by rw [keepH_get, hb]; exact ho⟩
    exact ⟨i', by rw [keepR_in hm]; exact h1, h2⟩
/-- A function that turns what it was handed, and hands back data. -/
def finR (P : Program) (fn : Func) (H : List (Nat × IObj)) (v : V) : Fin := .mk (fun _ _ _ => True) fun S wl M0 e a w => bodyPost P fn (fun e w' => ∃ u M' ρ', e = .returned u ∧ Ow S wl M0 M' ρ' (obGet H) w' ∧ RelV M' ρ' v u) e a w
def retROf (P : Program) (N : Nat) (c : Cfg) (rs : List ResultVar) : Option (List V × List (Nat × IObj)) := match atRet c with
  | true => match retV P N c rs with
    | some vs => match argsOf (obGet c.ob) vs with
      | some (xs, wr) => match closedAll (obGet (obWr c.ob wr)) (idsOf (keepH (obWr c.ob wr))) (idsOf (keepH (obWr c.ob wr))) with
        | true => some (xs, keepH (obWr c.ob wr))
        | false => none
      | none => none
    | none => none
  | false => none
theorem J_retR {fn : Func} {v : V} {rs : List ResultVar} {xs : List V} {H : List (Nat × IObj)} (ys : List V) (hfn : fn.results = rs.toArray) (hN : Nat.ble N 1024 = true) (hv : retROf P N c rs = some (xs, H)) (hre : Res' xs ys) (he : tupV ys = v) : J r P N [] (finR P fn H v) c := by
  refine ⟨nb_le hN, fun S wl M0 hH M ρ f w h => ?_⟩
  unfold retROf at hv
  split at hv
  · rename_i hat
    split at hv
    · rename_i vs hvs
      split at hv
      · rename_i xs' wr hx
        split at hv
        · rename_i hcl
          cases hv
          obtain ⟨us, h1, h2⟩ := retV_ok h hvs
          obtain ⟨M', r1, o1, d1⟩ := argsOf_sound h.ow h2 hx
          rw [← obGet_wr] at o1
          have o2 := o1.onlyH hcl
          have key : bodyPost P fn (fun e w' => ∃ u M' ρ', e = .returned u ∧ Ow S wl M0 M' ρ' (obGet (keepH (obWr c.ob wr))) w' ∧ RelV M' ρ' v u) .ret (fr N f []) w :=
            ⟨rfl, tupv us, results_run hfn h1, tupv us, M', _, rfl, o2, by rw [← he]; exact tupV_rel (hre.rel (d1 _))⟩
          unfold atRet at hat
          split at hat
          · rename_i ht
            rw [ht]
            exact W_ret (Wk_ret _ hat key)
          · rename_i ht
            rw [ht]
            exact key
          · cases hat
        · cases hv
      · cases hv
    · cases hv
  · cases hv
/-- The same, where results hang on what was handed in, or is handed back. -/
def retRROf (P : Program) (N : Nat) (c : Cfg) (rs : List ResultVar) : Option (List V × List (Nat × IObj)) := match atRet c with
  | true => match retV P N c rs with
    | some vs => match argsR (idsOf (keepH c.ob)) (obGet c.ob) vs with
      | some (xs, wr) => match closedAll (obGet (obWr c.ob wr)) (idsOf (keepH (obWr c.ob wr))) (idsOf (keepH (obWr c.ob wr))), refsIns (idsOf (keepH (obWr c.ob wr))) xs with
        | true, true => some (xs, keepH (obWr c.ob wr))
        | _, _ => none
      | none => none
    | none => none
  | false => none
theorem J_retRR {fn : Func} {v : V} {rs : List ResultVar} {xs : List V} {H : List (Nat × IObj)} (ys : List V) (hfn : fn.results = rs.toArray) (hN : Nat.ble N 1024 = true) (hv : retRROf P N c rs = some (xs, H)) (hre : Res' xs ys) (he : tupV ys = v) : J r P N [] (finR P fn H v) c := by
  refine ⟨nb_le hN, fun S wl M0 hH M ρ f w h => ?_⟩
  unfold retRROf at hv
  split at hv
  · rename_i hat
    split at hv
    · rename_i vs hvs
      split at hv
      · rename_i xs' wr hx
        split at hv
        · rename_i hcl hrf
          cases hv
          obtain ⟨us, h1, h2⟩ := retV_ok h hvs
          obtain ⟨M', r1, o1, d1⟩ := argsR_sound h.ow h2 hx
          rw [← obGet_wr] at o1
          have o2 := o1.onlyH hcl
          have key : bodyPost P fn (fun e w' => ∃ u M' ρ', e = .returned u ∧ Ow S wl M0 M' ρ' (obGet (keepH (obWr c.ob wr))) w' ∧ RelV M' ρ' v u) .ret (fr N f []) w :=
            ⟨rfl, tupv us, results_run hfn h1, tupv us, M', _, rfl, o2, by rw [← he]; exact tupV_rel (hre.rel (refs_rels _ hrf d1))⟩
          unfold atRet at hat
          split at hat
          · rename_i ht
            rw [ht]
            exact W_ret (Wk_ret _ hat key)
          · rename_i ht
            rw [ht]
            exact key
          · cases hat
        · cases hv
      · cases hv
    · cases hv
  · cases hv
/-- A contract out of the body's walk. -/
theorem callR_of {g : FuncId} {fn : Func} {b : Code} {os H : List (Nat × IObj)} {args : List V} {v : V} (hf : P.funcs[g]? = some fn) (hb : fn.body = some b) (hN : fn.ntmps = N) (hv : Nat.ble args.length N = true) (h : J none P N [] (finR P fn H v) ⟨mkT (argT 0 args), os, [.code b]⟩) : CallR P g os args H v := by
  intro s wl M0 M ρ w vals ho hr
  have hl := nb_le hv
  refine entry hf hb hN (by rw [hr.len]; exact hl) ?_
  refine W_mono (h.2 ⟨s, ρ⟩ wl M0 trivial M ρ (argf vals) w ⟨ho, mkT_ok _, mkT_rel h.1 _ (fun t v hm => ?_)⟩) (fun e a w hq => hq)
  obtain ⟨_, h2⟩ := argT_mem hm
  rw [Nat.sub_zero] at h2
  obtain ⟨u, h3, h4⟩ := hr.get h2
  exact ⟨Nat.lt_of_lt_of_le (List.getElem?_eq_some_iff.1 h2).1 hl, by unfold argf; rw [h3]; exact h4⟩
end
end Go.Proofs.YtilfjfpemjfalaaGreatDoor.Kx
