/- A part of what is one's own can be handed out, and taken back. -/
import Derived.Test.YtilfjfpemjfalaaGreatDoorRo
namespace Go.Proofs.YtilfjfpemjfalaaGreatDoor.Kx
open Go Go.RowKit

section
variable (K : List Nat)
mutual
/-- The value hangs on objects of K alone. -/
def refsIn : V → Bool
  | .ptr r _ => memN r K
  | .suf r _ _ => memN r K
  | .osl r _ _ _ => memN r K
  | .ept r _ _ _ => memN r K
  | .mp r => memN r K
  | .yl r => memN r K
  | .fn _ a b => match refsIns a with | true => refsIns b | false => false
  | .agg cs => refsIns cs
  | .tup vs => refsIns vs
  | _ => true
def refsIns : List V → Bool
  | [] => true
  | v :: l => match refsIn v with | true => refsIns l | false => false
end
def closedO : IObj → Bool
  | .box te cs => refsIns K cs
  | .fzb cs => refsIns K cs
  | .frn _ => false
  | _ => true
def keepO (R : List Nat) (ob : Nat → Option IObj) : Nat → Option IObj := fun r => match memN r K with
  | true => match memN r R with
    | true => ob r
    | false => match ob r with | some _ => some (.frn r) | none => none
  | false => none
def keepR (ρ : Rho) : Rho := fun r => match memN r K with | true => ρ r | false => none
end
theorem keepO_in {K R : List Nat} {ob : Nat → Option IObj} {r : Nat} (h : memN r K = true) (h' : memN r R = true) : keepO K R ob r = ob r := by simp [keepO, h, h']
theorem keepO_frn {K R : List Nat} {ob : Nat → Option IObj} {r : Nat} {o : IObj} (h : memN r K = true) (h' : memN r R = false) (ho : ob r = some o) : keepO K R ob r = some (.frn r) := by simp [keepO, h, h', ho]
theorem keepR_in {K : List Nat} {ρ : Rho} {r : Nat} (h : memN r K = true) : keepR K ρ r = ρ r := by simp [keepR, h]
theorem keepO_some {K R : List Nat} {ob : Nat → Option IObj} {r : Nat} {o : IObj} (h : keepO K R ob r = some o) : memN r K = true ∧ ((memN r R = true ∧ ob r = some o) ∨ (memN r R = false ∧ o = .frn r ∧ ∃ x, ob r = some x)) := by
  unfold keepO at h
  split at h
  · rename_i hm
    refine ⟨hm, ?_⟩
    split at h
    · rename_i hr; exact .inl ⟨hr, h⟩
    · rename_i hr
      split at h
      · rename_i x hx; cases h; exact .inr ⟨hr, rfl, x, hx⟩
      · cases h
  · cases h
theorem keepO_live {K R : List Nat} {ob : Nat → Option IObj} {r : Nat} {i : Inf} {o : IObj} (h : keepO K R ob r = some o) (hl : live i o) : memN r R = true ∧ ob r = some o := by
  obtain ⟨_, ⟨a, b⟩ | ⟨_, rfl, _⟩⟩ := keepO_some h
  · exact ⟨a, b⟩
  · exact hl.elim
theorem keepR_some {K : List Nat} {ρ : Rho} {r : Nat} {i : Inf} (h : keepR K ρ r = some i) : memN r K = true ∧ ρ r = some i := by
  unfold keepR at h
  split at h
  · rename_i hm; exact ⟨hm, h⟩
  · cases h
/-- The blocks of K's objects. -/
def SK (R : List Nat) (ρ : Rho) (ob : Nat → Option IObj) : Nat → Prop := fun b => ∃ r i o, memN r R = true ∧ ρ r = some i ∧ ob r = some o ∧ live i o ∧ i.b = b

section
variable {K : List Nat} {M : Mem} {ρ : Rho}
mutual
theorem refs_rel : ∀ (v : V) {u : Value}, refsIn K v = true → RelV M ρ v u → RelV M (keepR K ρ) v u
  | .ptr r k, u, h, hv => by
    simp only [refsIn] at h
    simp only [RelV, keepR_in h] at hv ⊢; exact hv
  | .suf r g off, u, h, hv => by
    simp only [refsIn] at h
    simp only [RelV, keepR_in h] at hv ⊢; exact hv
  | .osl r g off len, u, h, hv => by
    simp only [refsIn] at h
    simp only [RelV, keepR_in h] at hv ⊢; exact hv
  | .ept r g j k, u, h, hv => by
    simp only [refsIn] at h
    simp only [RelV, keepR_in h] at hv ⊢; exact hv
  | .mp r, u, h, hv => by
    simp only [refsIn] at h
    simp only [RelV, keepR_in h] at hv ⊢; exact hv
  | .yl r, u, h, hv => by
    simp only [refsIn] at h
    simp only [RelV, keepR_in h] at hv ⊢; exact hv
  | .fn f a b, u, h, hv => by
    simp only [refsIn] at h
    split at h
    · rename_i ha
      simp only [RelV] at hv ⊢
      obtain ⟨fs, cs, e, h1, h2⟩ := hv
      exact ⟨fs, cs, e, refs_rels a ha h1, refs_rels b h h2⟩
    · cases h
  | .agg cs, u, h, hv => by
    simp only [refsIn] at h
    simp only [RelV] at hv ⊢
    obtain ⟨us, e, h1⟩ := hv
    exact ⟨us, e, refs_rels cs h h1⟩
  | .tup cs, u, h, hv => by
    simp only [refsIn] at h
    simp only [RelV] at hv ⊢
    obtain ⟨us, e, h1⟩ := hv
    exact ⟨us, e, refs_rels cs h h1⟩
  | .d x, u, _, hv => by simp only [RelV] at hv ⊢; exact hv
  | .rp cs k, u, _, hv => by simp only [RelV] at hv ⊢; exact hv
  | .esl n, u, _, hv => by simp only [RelV] at hv ⊢; exact hv
  | .undef, u, _, hv => by simp only [RelV]
  | .un, u, _, hv => by simp only [RelV] at hv ⊢; exact hv
theorem refs_rels : ∀ (vs : List V) {us : List Value}, refsIns K vs = true → RelVs M ρ vs us → RelVs M (keepR K ρ) vs us
  | [], us, _, hv => by simp only [RelVs] at hv ⊢; exact hv
  | v :: l, us, h, hv => by
    simp only [refsIns] at h
    split at h
    · rename_i ha
      simp only [RelVs] at hv ⊢
      obtain ⟨u, us', e, h1, h2⟩ := hv
      exact ⟨u, us', e, refs_rel v ha h1, refs_rels l h h2⟩
    · cases h
end
end

section
variable {S : Hand} {wl w w' : World} {M0 M M' : Mem} {ρ ρ' : Rho} {ob : Nat → Option IObj} {K R : List Nat}
theorem SK_mine (h : Ow S wl M0 M ρ ob w) {b : Nat} (hb : SK R ρ ob b) : (S b ∨ wl.heap.size ≤ b) ∧ b < w.heap.size := by
  obtain ⟨r, i, o, _, h2, h3, h4, rfl⟩ := hb
  obtain ⟨i', h5, h6⟩ := h.own r o h3
  rw [h2] at h5; cases h5
  exact live_mine h6 h4
/-- K's objects handed out. -/
theorem Ow.part (h : Ow S wl M0 M ρ ob w) (K R : List Nat) (hc : ∀ r o, memN r R = true → ob r = some o → closedO K o = true) : Ow ⟨SK R ρ ob, keepR K ρ⟩ w M M (keepR K ρ) (keepO K R ob) w := by
  refine ⟨Nat.le_refl _, rfl, rfl, rfl, fun _ _ _ => rfl, h.sits, M.le_refl, h.glE (fun b hb => (SK_mine h hb).1), fun _ _ hb _ => .inl hb, fun r o hr => ?_, fun r i hi => ?_, fun r r' o o' i i' h1 h2 h3 h4 l1 l2 => h.inj r r' o o' i i' (keepO_live h1 l1).2 (keepO_live h2 l2).2 (keepR_some h3).2 (keepR_some h4).2 l1 l2, fun r i _ hi => ⟨i, hi, Ile.refl i⟩⟩
  · obtain ⟨hm, ⟨hmr, ho⟩ | ⟨hmr, rfl, x, hx⟩⟩ := keepO_some hr
    rotate_left
    · obtain ⟨i, hi, _⟩ := h.own r x hx
      exact ⟨i, by rw [keepR_in hm]; exact hi, by show keepR K ρ r = some i; rw [keepR_in hm]; exact hi⟩
    obtain ⟨i, hi, hok⟩ := h.own r o ho
    refine ⟨i, by rw [keepR_in hm]; exact hi, ?_⟩
    have hcl := hc r o hmr ho
    have hS : live i o → SK R ρ ob i.b := fun hl => ⟨r, i, o, hmr, hi, ho, hl, rfl⟩
    cases o with
    | box te cs =>
      obtain ⟨h0, h1, us, e, h2, h3, h4⟩ := hok
      exact ⟨h0, ⟨.inl (hS trivial), h1.2⟩, us, e, h2, refs_rels cs hcl h3, h4⟩
    | buf g e sz es =>
      obtain ⟨h0, hg, hs, hn, ht, hx, h1⟩ := hok
      refine ⟨h0, hg, hs, hn, ht, hx, fun hp => ?_⟩
      obtain ⟨h1, rest⟩ := h1 hp
      exact ⟨⟨.inl (hS hp), h1.2⟩, rest⟩
    | fzs g sz es => exact hok
    | fzb cs =>
      obtain ⟨h0, c0, us, h1, hP, h2, h3⟩ := hok
      exact ⟨h0, c0, us, h1, hP, refs_rels cs hcl h2, h3⟩
    | mapo kk ag sz es =>
      obtain ⟨h0, h1, rest⟩ := hok
      exact ⟨h0, ⟨.inl (hS trivial), h1.2⟩, rest⟩
    | raw b x =>
      obtain ⟨h0, e, h1, h2⟩ := hok
      exact ⟨h0, e, ⟨.inl (hS trivial), h1.2⟩, h2⟩
    | frn q => cases hcl
  · obtain ⟨hm, hi⟩ := keepR_some hi
    obtain ⟨o, ho⟩ := h.dom r i hi
    cases hmr : memN r R with
    | true => exact ⟨o, by rw [keepO_in hm hmr]; exact ho⟩
    | false => exact ⟨_, keepO_frn hm hmr ho⟩

def keysIn (K : List Nat) : Wr → Bool
  | [] => true
  | (d, o) :: wr => match memN d K, o with | true, .frn _ => false | true, _ => keysIn K wr | false, _ => false
theorem wrO_in : ∀ (wr : Wr) {ob ob' : Nat → Option IObj} {r : Nat}, ob r = ob' r → wrO ob wr r = wrO ob' wr r
  | [], _, _, _, h => h
  | (d, o) :: wr, ob, ob', r, h => by
    simp only [wrO]
    exact wrO_in wr (by unfold updO; split <;> first | rfl | exact h)
theorem wrO_out {K : List Nat} : ∀ (wr : Wr) {ob : Nat → Option IObj} {r : Nat}, keysIn K wr = true → memN r K = false → wrO ob wr r = ob r
  | [], _, _, _, _ => rfl
  | (d, o) :: wr, ob, r, h, hr => by
    unfold keysIn at h
    split at h
    · cases h
    · rename_i hd _
      simp only [wrO]
      rw [wrO_out wr h hr, updO_ne]
      intro e; subst e; rw [hd] at hr; cases hr
    · cases h
def joinR (K : List Nat) (ρ ρ' : Rho) : Rho := fun r => match memN r K with | true => ρ' r | false => ρ r
theorem joinR_in {r : Nat} (h : memN r K = true) : joinR K ρ ρ' r = ρ' r := by simp [joinR, h]
theorem joinR_out {r : Nat} (h : memN r K = false) : joinR K ρ ρ' r = ρ r := by simp [joinR, h]

theorem wrO_frn {R : List Nat} : ∀ (wr : Wr) {ob : Nat → Option IObj} {r q : Nat}, keysIn R wr = true → wrO ob wr r = some (.frn q) → ob r = some (.frn q)
  | [], _, _, _, _, h => h
  | (d, o) :: wr, ob, r, q, hk, h => by
    unfold keysIn at hk
    split at hk
    · cases hk
    · rename_i o' hne
      simp only [wrO] at h
      have := wrO_frn wr hk h
      by_cases e : r = d
      · subst e
        rw [updO_same] at this
        cases this
        exact absurd rfl (hne q)
      · rw [updO_ne _ _ e] at this; exact this
    · cases hk
/-- K's objects taken back; what is not in R was not looked at. -/
theorem Ow.back (h : Ow S wl M0 M ρ ob w) {wr : Wr} {r0 : Rho} (hc : ∀ r o, memN r R = true → ob r = some o → closedO K o = true) (hsub : ∀ r, memN r R = true → memN r K = true) (hr0 : ∀ r i, memN r K = true → memN r R = false → r0 r = some i → ρ r = some i) (hk : keysIn R wr = true) (h' : Ow ⟨SK R ρ ob, r0⟩ w M M' ρ' (wrO (keepO K R ob) wr) w') (hr : Rle M M' (keepR K ρ) ρ') :
    Rle M M' ρ (joinR K ρ ρ') ∧ Ow S wl M0 M' (joinR K ρ ρ') (wrO ob wr) w' ∧ Rle M' M' ρ' (joinR K ρ ρ') := by
  have hin : ∀ r, memN r R = true → wrO (keepO K R ob) wr r = wrO ob wr r := fun r hm => wrO_in wr (keepO_in (hsub r hm) hm)
  have hfr : ∀ r o, memN r K = true → memN r R = false → ob r = some o → wrO (keepO K R ob) wr r = some (.frn r) := fun r o hm hmr ho => by rw [wrO_out wr hk hmr]; exact keepO_frn hm hmr ho
  have hKd : ∀ r i, ρ' r = some i → memN r K = true := fun r i hi => by
    cases hm : memN r K with
    | true => rfl
    | false =>
      obtain ⟨o, ho⟩ := h'.dom r i hi
      have hmr : memN r R = false := by
        cases hmr : memN r R with
        | false => rfl
        | true => rw [hsub r hmr] at hm; cases hm
      rw [wrO_out wr hk hmr] at ho
      simp [keepO, hm] at ho
  -- what was not looked at stands where it stood
  have same : ∀ r o, memN r K = true → memN r R = false → ob r = some o → ∃ i, ρ r = some i ∧ ρ' r = some i := fun r o hm hmr ho => by
    obtain ⟨i, hi, hok⟩ := h'.own r _ (hfr r o hm hmr ho)
    exact ⟨i, hr0 r i hm hmr hok, hi⟩
  have e2 : Rle M' M' ρ' (joinR K ρ ρ') := ⟨M'.le_refl, fun r i hi => ⟨i, by rw [joinR_in (hKd r i hi)]; exact hi, Nat.le_refl _, fun _ => rfl, fun _ => rfl⟩⟩
  have hrl : Rle M M' ρ (joinR K ρ ρ') := ⟨hr.le, fun r i hi => by
    cases hm : memN r K with
    | true =>
      obtain ⟨i', h1, h2⟩ := hr.ext r i (by rw [keepR_in hm]; exact hi)
      exact ⟨i', by rw [joinR_in hm]; exact h1, h2⟩
    | false => exact ⟨i, by rw [joinR_out hm]; exact hi, Nat.le_refl _, fun _ => rfl, fun _ => rfl⟩⟩
  have mineK : ∀ {i : Inf} {o : IObj}, ObjOk ⟨SK R ρ ob, r0⟩ w M' ρ' w' i o → live i o → S i.b ∨ wl.heap.size ≤ i.b := fun hok hl => by
    rcases (live_mine hok hl).1 with hs | hs
    · exact (SK_mine h hs).1
    · exact .inr (Nat.le_trans h.size hs)
  have notK : ∀ {r : Nat} {i : Inf} {o : IObj}, memN r R = false → ρ r = some i → ob r = some o → live i o → ¬ SK R ρ ob i.b := fun {r i o} hm hi ho hl ⟨r1, i1, o1, h1, h2, h3, h4, h5⟩ => by
    obtain rfl := h.inj r1 r o1 o i1 i h3 ho h2 hi h4 hl h5
    rw [hm] at h1; cases h1
  -- an object beside R: as it was
  have beside : ∀ r o, memN r R = false → ob r = some o → ∃ i, ρ r = some i ∧ joinR K ρ ρ' r = some i ∧ ObjOk S wl M ρ w i o := fun r o hmr ho => by
    obtain ⟨i, hi, hok⟩ := h.own r o ho
    refine ⟨i, hi, ?_, hok⟩
    cases hm : memN r K with
    | true =>
      obtain ⟨j, h1, h2⟩ := same r o hm hmr ho
      rw [hi] at h1; cases h1
      rw [joinR_in hm]; exact h2
    | false => rw [joinR_out hm]; exact hi
  refine ⟨hrl, ⟨Nat.le_trans h.size h'.size, h'.os.trans h.os, h'.tape.trans h.tape, h'.output.trans h.output, fun k hk' hS => ?_, h'.sits, Mem.le_trans h.le h'.le, ⟨h'.gl.ok, h.gl.off, h.gl.sz⟩, fun b c hb hlt => ?_, fun r o ho => ?_, fun r i hi => ?_, ?_, ?_⟩, e2⟩
  · rw [h'.old k (by have := h.size; omega) (fun hs => (SK_mine h hs).1.elim hS (fun h1 => by omega))]
    exact h.old k hk' hS
  · rcases h'.new b c hb (by have := h.size; omega) with h1 | h1
    · exact h.new b c h1 hlt
    · rcases (SK_mine h h1).1 with h2 | h2
      · exact .inr h2
      · omega
  · cases hmr : memN r R with
    | true =>
      have hm := hsub r hmr
      rw [← hin r hmr] at ho
      obtain ⟨i, hi, hok⟩ := h'.own r o ho
      refine ⟨i, by rw [joinR_in hm]; exact hi, ?_⟩
      have hM : live i o → S i.b ∨ wl.heap.size ≤ i.b := mineK hok
      cases o with
      | box te cs =>
        obtain ⟨h0, h1, us, e, h2, h3, h4⟩ := hok
        exact ⟨h0, ⟨hM trivial, h1.2⟩, us, e, h2, RelVs.mono e2 _ h3, h4⟩
      | buf g e sz es =>
        obtain ⟨h0, hg, hs, hn, ht, hx, h1⟩ := hok
        refine ⟨h0, hg, hs, hn, ht, hx, fun hp => ?_⟩
        obtain ⟨h1, rest⟩ := h1 hp
        exact ⟨⟨hM hp, h1.2⟩, rest⟩
      | fzs g sz es => exact hok
      | fzb cs =>
        obtain ⟨h0, c0, us, h1, hP, h2, h3⟩ := hok
        exact ⟨h0, c0, us, h1, hP, RelVs.mono e2 _ h2, h3⟩
      | mapo kk ag sz es =>
        obtain ⟨h0, h1, rest⟩ := hok
        exact ⟨h0, ⟨hM trivial, h1.2⟩, rest⟩
      | raw b x =>
        obtain ⟨h0, e, h1, h2⟩ := hok
        exact ⟨h0, e, ⟨hM trivial, h1.2⟩, h2⟩
      | frn q =>
        exfalso
        have h1 := wrO_frn wr hk ho
        rw [keepO_in hm hmr] at h1
        have := hc r _ hmr h1
        cases this
    | false =>
      rw [wrO_out wr hk hmr] at ho
      obtain ⟨i, hi, hj, hok⟩ := beside r o hmr ho
      refine ⟨i, hj, hok.mono hrl (fun hl => ?_) (fun hl => h'.old _ (live_mine hok hl).2 (notK hmr hi ho hl))⟩
      cases hM : M' i.b with
      | none =>
        cases hm0 : M i.b with
        | none => rfl
        | some c => obtain ⟨c', h3, _⟩ := h'.le _ _ hm0; rw [hM] at h3; cases h3
      | some c =>
        rcases h'.new _ _ hM (live_mine hok hl).2 with h1 | h1
        · exact h1.symm
        · exact absurd h1 (notK hmr hi ho hl)
  · cases hm : memN r K with
    | true =>
      rw [joinR_in hm] at hi
      obtain ⟨o, ho⟩ := h'.dom r i hi
      cases hmr : memN r R with
      | true => exact ⟨o, by rw [← hin r hmr]; exact ho⟩
      | false =>
        rw [wrO_out wr hk hmr] at ho ⊢
        obtain ⟨_, ⟨h1, _⟩ | ⟨_, _, x, hx⟩⟩ := keepO_some ho
        · rw [hmr] at h1; cases h1
        · exact ⟨x, hx⟩
    | false =>
      rw [joinR_out hm] at hi
      obtain ⟨o, ho⟩ := h.dom r i hi
      have hmr : memN r R = false := by
        cases hmr : memN r R with
        | false => rfl
        | true => rw [hsub r hmr] at hm; cases hm
      exact ⟨o, by rw [wrO_out wr hk hmr]; exact ho⟩
  · have mix : ∀ {r r' : Nat} {o o' : IObj} {i i' : Inf}, memN r R = true → memN r' R = false → wrO ob wr r = some o → wrO ob wr r' = some o' → joinR K ρ ρ' r = some i → joinR K ρ ρ' r' = some i' → live i o → live i' o' → i.b ≠ i'.b := fun {r r' o o' i i'} hm hm' h1 h2 h3 h4 l1 l2 hb => by
      rw [← hin r hm] at h1
      rw [wrO_out wr hk hm'] at h2
      rw [joinR_in (hsub r hm)] at h3
      obtain ⟨i1, h5, h6⟩ := h'.own r o h1
      rw [h3] at h5; cases h5
      obtain ⟨i2, h7, h8, h9⟩ := beside r' o' hm' h2
      rw [h4] at h8; cases h8
      rcases (live_mine h6 l1).1 with hs | hs
      · rw [hb] at hs; exact notK hm' h7 h2 l2 hs
      · have := (live_mine h9 l2).2; omega
    intro r r' o o' i i' h1 h2 h3 h4 l1 l2 hb
    cases hm : memN r R with
    | true =>
      cases hm' : memN r' R with
      | true =>
        rw [← hin r hm] at h1; rw [← hin r' hm'] at h2
        rw [joinR_in (hsub r hm)] at h3; rw [joinR_in (hsub r' hm')] at h4
        exact h'.inj r r' o o' i i' h1 h2 h3 h4 l1 l2 hb
      | false => exact absurd hb (mix hm hm' h1 h2 h3 h4 l1 l2)
    | false =>
      cases hm' : memN r' R with
      | true => exact absurd hb.symm (mix hm' hm h2 h1 h4 h3 l2 l1)
      | false =>
        rw [wrO_out wr hk hm] at h1; rw [wrO_out wr hk hm'] at h2
        obtain ⟨_, q1, q2, _⟩ := beside r o hm h1
        obtain ⟨_, q3, q4, _⟩ := beside r' o' hm' h2
        rw [h3] at q2; cases q2
        rw [h4] at q4; cases q4
        exact h.inj r r' o o' i i' h1 h2 q1 q3 l1 l2 hb
  · intro r i hb hi
    obtain ⟨j, h1, h2⟩ := h.held r i hb hi
    obtain ⟨k, h3, h4⟩ := hrl.ext r j h1
    exact ⟨k, h3, h2.trans h4⟩
end
end Go.Proofs.YtilfjfpemjfalaaGreatDoor.Kx
