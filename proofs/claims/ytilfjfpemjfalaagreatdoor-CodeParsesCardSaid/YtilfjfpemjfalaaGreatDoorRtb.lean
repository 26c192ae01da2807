/- A panic inside a region that draws its order: what stands ahead turns no object, all behind hangs on the operation that panics. -/
import Derived.Test.YtilfjfpemjfalaaGreatDoorRta
namespace Go.Proofs.YtilfjfpemjfalaaGreatDoor.Kx
open Go Go.RowKit

/-- The operation panics, wherever it may be looked at; the objects stand. -/
def DPan (r : Option Nat) (P : Program) (N : Nat) (ds : List Deferred) (all : List Oper) (o : Oper) (δ : Dlt) (ob : Nat → Option IObj) : Prop :=
  ∀ S wl M0 M ρ g f w, AbsF S wl M0 M ρ N g ob f w → App δ g ob → ∀ (K : Act → World → Prop) (Q : Exit → Act → World → Prop),
    (∀ M' ρ' w' t u, Ow S wl M0 M' ρ' ob w' → Q (.panic [{ v := .iface t u, recovered := false }]) (fr N f ds) w') →
    Region.wanted o (yielded all.toArray (fr N f ds).tmps) = true ∧ o.wpIn (WF r) 0 P (fr N f ds) w K Q
/-- What hangs on the operation that panics: it never comes to that. -/
def deadB (l : List Oper) (F j0 j : Nat) : Bool := match Nat.blt j0 j with | true => ordB l F j0 j | false => false
section
variable {r : Option Nat} {P : Program} {N : Nat} {ds : List Deferred} {l : List Oper} {S : Hand} {wl : World} {M0 : Mem} {gE : Nat → V} {ob obE : Nat → Option IObj} {Q : Exit → Act → World → Prop} {F : Nat}
theorem any_pan (hback : ∀ j o, opAt l j = some o → ∀ p ∈ prd l j, p < j) {j0 : Nat} {op : Oper} {δp : Dlt} (hop : opAt l j0 = some op) (hdp : DPan r P N ds l op δp ob) (hwp : δp.wr = [])
    (hQ : ∀ M ρ f w t u, Ow S wl M0 M ρ ob w → Q (.panic [{ v := .iface t u, recovered := false }]) (fr N f ds) w) :
    ∀ (n : Nat) (R : List (Nat × Dlt)) (m : Nat) (listed : Array Bool) (M : Mem) (ρ : Rho) (g : Nat → V) (f : Nat → Value) (w : World), R.length + m = n → (j0, δp) ∈ R → R.Pairwise (fun a b => a.1 < b.1) →
      listed.size = l.length → (∀ j, listed.getD j true = false ↔ (∃ x ∈ R, x.1 = j) ∨ (deadB l F j0 j = true ∧ j < l.length)) → (∀ x ∈ R, x.1 = j0 ∨ ∃ o, opAt l x.1 = some o ∧ DOk r P N ds l o x.2 ∧ WOk x.2 ∧ x.2.wr = []) → R.Pairwise (Rel2 l F) → Closed l listed →
      AbsF S wl M0 M ρ N g ob f w → RunR R g ob gE obE → wpAnyIn (WF r) 0 P .any l.toArray Q n listed (fr N f ds) w := by
  have hj0 := opAt_lt hop
  intro n
  induction n with
  | zero => intro R m listed M ρ g f w hn hmem; have := List.length_pos_of_mem hmem; omega
  | succ n ih =>
    intro R m listed M ρ g f w hn hmem hs hsz hl ho hp hc ha hr
    have h0x : ∀ x ∈ R, x.1 = j0 → x = (j0, δp) := fun x hx e => by
      obtain ⟨A, B, rfl⟩ := List.append_of_mem hmem
      have h1 := List.pairwise_append.1 hs
      rcases List.mem_append.1 hx with hx | hx
      · have := h1.2.2 x hx (j0, δp) List.mem_cons_self; simp only at this; omega
      · rcases List.mem_cons.1 hx with rfl | hx
        · rfl
        · have := (List.pairwise_cons.1 h1.2.1).1 x hx; simp only at this; omega
    have hops : ∀ x ∈ R, ∃ o, opAt l x.1 = some o := fun x hx => by
      rcases ho x hx with h | ⟨o, h, _⟩
      · exact ⟨op, by rw [h]; exact hop⟩
      · exact ⟨o, h⟩
    have hwk : ∀ x ∈ R, WOk x.2 := fun x hx => by
      rcases ho x hx with h | ⟨o, _, _, h, _⟩
      · rw [h0x x hx h]; intro y hy; rw [hwp] at hy; cases hy
      · exact h
    refine ⟨fun h0 => ?_, fun i hi => ?_⟩
    · -- the first of them is ready
      obtain ⟨x, T, rfl⟩ : ∃ x T, R = x :: T := by
        cases R with
        | nil => cases hmem
        | cons y R => exact ⟨_, _, rfl⟩
      obtain ⟨o, hox⟩ := hops x List.mem_cons_self
      have hle : ∀ z ∈ x :: T, x.1 ≤ z.1 := fun z hz => by
        rcases List.mem_cons.1 hz with rfl | hz
        · exact Nat.le_refl _
        · exact Nat.le_of_lt ((List.pairwise_cons.1 hs).1 z hz)
      have : x.1 ∈ Region.ready .any l.toArray listed := by
        refine mem_ready.2 ⟨(hl x.1).2 (.inl ⟨x, List.mem_cons_self, rfl⟩), o, (opAt_eq l x.1).trans hox, fun e he hb => ?_⟩
        have hlt := hback x.1 o hox e.on ((prd_mem hox).2 ⟨e, he, hb, rfl⟩)
        have hyl := opAt_lt hox
        cases hcc : listed.getD e.on true with
        | true => exact getD_ft (by omega) hcc
        | false =>
          rcases (hl e.on).1 hcc with ⟨z, hz, hze⟩ | ⟨h1, _⟩
          · have := hle z hz; omega
          · have h0' := hle (j0, δp) hmem
            simp only at h0'
            unfold deadB at h1
            split at h1
            · rename_i hb1; have := nb_lt hb1; omega
            · cases h1
      rw [h0] at this; cases this
    · obtain ⟨hun', oi, hoi, hall⟩ := mem_ready.1 hi
      rw [opAt_eq] at hoi
      have hpre : ∀ p ∈ prd l i, listed.getD p false = true := fun p hpp => by
        obtain ⟨e, he, hb, rfl⟩ := (prd_mem hoi).1 hpp
        exact hall e he hb
      have hordN : ∀ a, listed.getD a true = false → ordB l F a i = true → False := fun a h3 h1 => by
        have h2 := ordB_spec hc h1 hpre
        rw [getD_tf h2] at h3; cases h3
      have hpj : listed.getD j0 true = false := (hl j0).2 (.inl ⟨_, hmem, rfl⟩)
      rcases (hl i).1 hun' with ⟨x, hx, rfl⟩ | ⟨hde, _⟩
      · obtain ⟨A, B, rfl⟩ := List.append_of_mem hx
        have hind : ∀ a ∈ A, indepK (keysOf a.2) (keysOf x.2) = true := fun a haA => by
          have := (List.pairwise_append.1 hp).2.2 a haA x List.mem_cons_self
          rcases this with h1 | h1
          · exact (hordN a.1 ((hl a.1).2 (.inl ⟨a, List.mem_append_left _ haA, rfl⟩)) h1).elim
          · exact h1
        obtain ⟨h1, h2⟩ := RunR.front (i := x.1) (δ := x.2) A hind (fun a ha => hwk a (List.mem_append_left _ ha)) (hwk x hx) hr
        rcases ho x hx with he0 | ⟨o, hox, hdo, hwx, hwr⟩
        · -- it panics
          have hxp := h0x x hx he0
          subst hxp
          rw [hop] at hoi; cases hoi
          obtain ⟨hw, key⟩ := hdp S wl M0 M ρ g f w ha h1 (wpAnyIn (WF r) 0 P .any l.toArray Q n (listed.setIfInBounds j0 true)) Q (fun M' ρ' w' t u ho => hQ M' ρ' f w' t u ho)
          unfold wpOpIn
          rw [opAt_eq, hop]
          simp only
          rw [if_pos hw]
          exact key
        · have hne : x.1 ≠ j0 ∨ x.1 = j0 := by omega
          rcases hne with hne | he0
          rotate_left
          · have hxp := h0x x hx he0
            subst hxp
            rw [hop] at hoi; cases hoi
            obtain ⟨hw, key⟩ := hdp S wl M0 M ρ g f w ha h1 (wpAnyIn (WF r) 0 P .any l.toArray Q n (listed.setIfInBounds j0 true)) Q (fun M' ρ' w' t u ho => hQ M' ρ' f w' t u ho)
            unfold wpOpIn
            rw [opAt_eq, hop]
            simp only
            rw [if_pos hw]
            exact key
          rw [hoi] at hox; cases hox
          rw [hwr] at h2
          have key := hdo S wl M0 M ρ g ob f w ha h1 (wpAnyIn (WF r) 0 P .any l.toArray Q n (listed.setIfInBounds x.1 true)) Q (fun M' ρ' f' w' ha' => by
            rw [hwr] at ha'
            refine ih (A ++ B) m _ M' ρ' _ f' w' (by simp at hn ⊢; omega) ?_ ?_ (by simpa using hsz) ?_ ?_ ?_ ?_ ha' h2
            · rcases List.mem_append.1 hmem with h3 | h3
              · exact List.mem_append_left _ h3
              · rcases List.mem_cons.1 h3 with h3 | h3
                · exact absurd (by rw [← h3]) hne
                · exact List.mem_append_right _ h3
            · exact hs.sublist ((List.sublist_cons_self x B).append_left A)
            · intro j
              have hlt : x.1 < listed.size := by
                rw [hsz]; exact opAt_lt hoi
              by_cases e : x.1 = j
              · subst e
                constructor
                · intro hh; simp [hlt] at hh
                · rintro (⟨y, hy, hyx⟩ | ⟨h3, _⟩)
                  · exfalso
                    have h3 := List.pairwise_append.1 hs
                    rcases List.mem_append.1 hy with hy | hy
                    · have := h3.2.2 y hy x List.mem_cons_self; omega
                    · have := (List.pairwise_cons.1 h3.2.1).1 y hy; omega
                  · exfalso
                    unfold deadB at h3
                    split at h3
                    · exact hordN j0 hpj h3
                    · cases h3
              · rw [getD_set_ne true e, hl j]
                constructor
                · rintro (⟨y, hy, rfl⟩ | h3)
                  · rcases List.mem_append.1 hy with hy | hy
                    · exact .inl ⟨y, List.mem_append_left _ hy, rfl⟩
                    · rcases List.mem_cons.1 hy with rfl | hy
                      · exact absurd rfl e
                      · exact .inl ⟨y, List.mem_append_right _ hy, rfl⟩
                  · exact .inr h3
                · rintro (⟨y, hy, rfl⟩ | h3)
                  · rcases List.mem_append.1 hy with hy | hy
                    · exact .inl ⟨y, List.mem_append_left _ hy, rfl⟩
                    · exact .inl ⟨y, List.mem_append_right _ (List.mem_cons_of_mem _ hy), rfl⟩
                  · exact .inr h3
            · intro y hy
              refine ho y ?_
              rcases List.mem_append.1 hy with hy | hy
              · exact List.mem_append_left _ hy
              · exact List.mem_append_right _ (List.mem_cons_of_mem _ hy)
            · exact hp.sublist ((List.sublist_cons_self x B).append_left A)
            · intro k o hk hlk p hpp
              by_cases e : x.1 = k
              · subst e
                exact getD_set_true (hpre p hpp)
              · rw [getD_set_ne false e] at hlk
                exact getD_set_true (hc k o hk hlk p hpp))
          unfold wpOpIn
          rw [opAt_eq, hoi]
          simp only
          split
          · rename_i hw; rw [if_pos hw] at key; exact key
          · rename_i hw; rw [if_neg hw] at key; exact ⟨fun _ _ => trivial, key⟩
      · unfold deadB at hde
        split at hde
        · exact (hordN j0 hpj hde).elim
        · cases hde
end

/-! ### The judgement: j0 is the place of the operation that panics -/
def idxO : Nat → List (Option Dlt) → List (Nat × Dlt)
  | _, [] => []
  | i, none :: Δ => idxO (i + 1) Δ
  | i, some δ :: Δ => (i, δ) :: idxO (i + 1) Δ
def RunO : List (Option Dlt) → (Nat → V) → (Nat → Option IObj) → (Nat → V) → (Nat → Option IObj) → Prop
  | [], g, ob, gE, obE => g = gE ∧ ob = obE
  | none :: R, g, ob, gE, obE => RunO R g ob gE obE
  | some δ :: R, g, ob, gE, obE => App δ g ob ∧ RunO R (updG g δ.dst δ.v) (wrO ob δ.wr) gE obE
theorem idxO_run : ∀ {Δ : List (Option Dlt)} {i : Nat} {g : Nat → V} {ob : Nat → Option IObj} {gE : Nat → V} {obE : Nat → Option IObj}, RunO Δ g ob gE obE → RunR (idxO i Δ) g ob gE obE
  | [], _, _, _, _, _, h => h
  | none :: Δ, i, _, _, _, _, h => idxO_run (Δ := Δ) (i := i + 1) h
  | some _ :: Δ, i, _, _, _, _, h => ⟨h.1, idxO_run h.2⟩
theorem idxO_mem : ∀ {Δ : List (Option Dlt)} {i : Nat} {x : Nat × Dlt}, x ∈ idxO i Δ ↔ ∃ k, x.1 = i + k ∧ Δ[k]? = some (some x.2)
  | [], i, x => by simp [idxO]
  | none :: Δ, i, x => by
    rw [idxO, idxO_mem (Δ := Δ)]
    constructor
    · rintro ⟨k, h1, h2⟩; exact ⟨k + 1, by omega, by simpa using h2⟩
    · rintro ⟨k, h1, h2⟩
      cases k with
      | zero => simp at h2
      | succ k => exact ⟨k, by omega, by simpa using h2⟩
  | some δ :: Δ, i, x => by
    rw [idxO, List.mem_cons, idxO_mem (Δ := Δ)]
    constructor
    · rintro (rfl | ⟨k, h1, h2⟩)
      · exact ⟨0, rfl, rfl⟩
      · exact ⟨k + 1, by omega, by simpa using h2⟩
    · rintro ⟨k, h1, h2⟩
      cases k with
      | zero => left; simp at h1 h2; exact Prod.ext h1 h2.symm
      | succ k => right; exact ⟨k, by omega, by simpa using h2⟩
theorem idxO_sorted : ∀ {Δ : List (Option Dlt)} {i : Nat}, (idxO i Δ).Pairwise (fun a b => a.1 < b.1)
  | [], _ => List.Pairwise.nil
  | none :: Δ, i => idxO_sorted (Δ := Δ)
  | some δ :: Δ, i => List.pairwise_cons.2 ⟨fun x hx => by obtain ⟨k, h, _⟩ := idxO_mem.1 hx; simp only; omega, idxO_sorted⟩
def noKeys : Keys := ⟨[], [], [], [], [], none⟩
def PWO (all : List Oper) : List Keys → List (Option Dlt) → Prop
  | _, [] => True
  | ks, none :: Δ => PWO all (noKeys :: ks) Δ
  | ks, some δ :: Δ => pairWith all (keysOf δ) ks.length ks = true ∧ PWO all (keysOf δ :: ks) Δ
theorem PWO_rel {all : List Oper} {κ : Keys} {ks : List Keys} : ∀ {Δ : List (Option Dlt)} {A : List Keys}, PWO all (A ++ κ :: ks) Δ → ∀ x ∈ idxO (A.length + 1 + ks.length) Δ, ordB all 6 ks.length x.1 = true ∨ indepK κ (keysOf x.2) = true
  | [], _, _, x, hx => by cases hx
  | none :: Δ, A, h, x, hx => PWO_rel (Δ := Δ) (A := noKeys :: A) (κ := κ) (ks := ks) h x (by rw [show (noKeys :: A).length + 1 + ks.length = A.length + 1 + ks.length + 1 by simp; omega]; exact hx)
  | some δ :: Δ, A, h, x, hx => by
    rcases List.mem_cons.1 hx with rfl | hx
    · have := pairWith_mem h.1
      rw [show (A ++ κ :: ks).length = A.length + 1 + ks.length by simp; omega] at this
      exact this.symm
    · exact PWO_rel (A := keysOf δ :: A) (κ := κ) (ks := ks) h.2 x (by rw [show (keysOf δ :: A).length + 1 + ks.length = A.length + 1 + ks.length + 1 by simp; omega]; exact hx)
theorem PWO_pair {all : List Oper} : ∀ {Δ : List (Option Dlt)} {ks : List Keys}, PWO all ks Δ → (idxO ks.length Δ).Pairwise (Rel2 all 6)
  | [], _, _ => List.Pairwise.nil
  | none :: Δ, ks, h => PWO_pair (ks := noKeys :: ks) h
  | some δ :: Δ, ks, h => by
    refine List.pairwise_cons.2 ⟨fun x hx => ?_, PWO_pair (ks := keysOf δ :: ks) h.2⟩
    exact PWO_rel (A := []) (κ := keysOf δ) (ks := ks) h.2 x (by rw [show ([] : List Keys).length + 1 + ks.length = ks.length + 1 by simp; omega]; exact hx)
def OkO (r : Option Nat) (P : Program) (N : Nat) (ds : List Deferred) (all : List Oper) (j0 : Nat) (ob : Nat → Option IObj) : Nat → List Oper → List (Option Dlt) → Prop
  | _, [], [] => True
  | i, _ :: l, none :: Δ => deadB all 6 j0 i = true ∧ OkO r P N ds all j0 ob (i + 1) l Δ
  | i, o :: l, some δ :: Δ => ((i = j0 ∧ DPan r P N ds all o δ ob ∧ δ.wr = []) ∨ (i ≠ j0 ∧ deadB all 6 j0 i = false ∧ DOk r P N ds all o δ ∧ WOk δ ∧ δ.wr = [])) ∧ OkO r P N ds all j0 ob (i + 1) l Δ
  | _, _, _ => False
theorem OkO_get {r : Option Nat} {P : Program} {N : Nat} {ds : List Deferred} {all : List Oper} {j0 : Nat} {ob : Nat → Option IObj} : ∀ {l : List Oper} {Δ : List (Option Dlt)} {i : Nat}, OkO r P N ds all j0 ob i l Δ → l.length = Δ.length ∧
    (∀ k, Δ[k]? = some none → deadB all 6 j0 (i + k) = true) ∧ ∀ (k : Nat) (δ : Dlt), Δ[k]? = some (some δ) → ∃ o, opAt l k = some o ∧ ((i + k = j0 ∧ DPan r P N ds all o δ ob ∧ δ.wr = []) ∨ (i + k ≠ j0 ∧ deadB all 6 j0 (i + k) = false ∧ DOk r P N ds all o δ ∧ WOk δ ∧ δ.wr = []))
  | [], [], _, _ => ⟨rfl, fun k h => by simp at h, fun k δ h => by simp at h⟩
  | o :: l, none :: Δ, i, h => by
    obtain ⟨h1, h2, h3⟩ := OkO_get h.2
    refine ⟨by simp [h1], fun k hk => ?_, fun k δ hk => ?_⟩
    · cases k with
      | zero => exact h.1
      | succ k => have := h2 k (by simpa using hk); rwa [show i + 1 + k = i + (k + 1) by omega] at this
    · cases k with
      | zero => simp at hk
      | succ k =>
        obtain ⟨o', h4, h5⟩ := h3 k δ (by simpa using hk)
        rw [show i + 1 + k = i + (k + 1) by omega] at h5
        exact ⟨o', h4, h5⟩
  | o :: l, some δ0 :: Δ, i, h => by
    obtain ⟨h1, h2, h3⟩ := OkO_get h.2
    refine ⟨by simp [h1], fun k hk => ?_, fun k δ hk => ?_⟩
    · cases k with
      | zero => simp at hk
      | succ k => have := h2 k (by simpa using hk); rwa [show i + 1 + k = i + (k + 1) by omega] at this
    · cases k with
      | zero => simp at hk; subst hk; exact ⟨o, rfl, h.1⟩
      | succ k =>
        obtain ⟨o', h4, h5⟩ := h3 k δ (by simpa using hk)
        rw [show i + 1 + k = i + (k + 1) by omega] at h5
        exact ⟨o', h4, h5⟩
  | [], some _ :: _, _, h => h.elim
  | [], none :: _, _, h => h.elim
  | _ :: _, [], _, h => h.elim
def JDQ (j0 : Nat) (r : Option Nat) (P : Program) (N : Nat) (ds : List Deferred) (fin : Fin) (q : CfgD) : Prop :=
  N ≤ 1024 ∧ noBeg q.td = true ∧ JP N ds fin .e q.ob ∧ (q.sl.ok 10 → ∃ (Δ : List (Option Dlt)) (gE : Nat → V) (obE : Nat → Option IObj), OkO r P N ds q.all j0 (obGet q.ob) q.ks.length q.rest Δ ∧
    RunO Δ (gOf N q.sl) (obGet q.ob) gE obE ∧ PWO q.all q.ks Δ ∧ (q.ks.length ≤ j0 → ∃ δp, (j0, δp) ∈ idxO q.ks.length Δ))
section
variable {j0 : Nat} {r : Option Nat} {P : Program} {N : Nat} {ds : List Deferred} {fin : Fin} {q : CfgD}
def endQ (j0 : Nat) (q : CfgD) : Bool := match q.rest with | [] => Nat.blt j0 q.ks.length && noBeg q.td | _ => false
theorem JDQ_end (hN : Nat.ble N 1024 = true) (h : endQ j0 q = true) (hk : JP N ds fin .e q.ob) : JDQ j0 r P N ds fin q := by
  unfold endQ at h
  split at h
  · rename_i hr
    rw [Bool.and_eq_true] at h
    refine ⟨nb_le hN, h.2, hk, fun _ => ⟨[], _, _, by rw [hr]; trivial, ⟨rfl, rfl⟩, trivial, fun hle => ?_⟩⟩
    have := nb_lt h.1; omega
  · cases h
theorem JDQ_endB (ob : List (Nat × IObj)) (hN : Nat.ble N 1024 = true) (h : endQ j0 q = true) (hq : q.ob = ob) (hk : JP N ds fin .e ob) : JDQ j0 r P N ds fin q := by
  subst hq; exact JDQ_end hN h hk
def liveQ (j0 : Nat) (q : CfgD) : Bool := match deadB q.all 6 j0 q.ks.length, Nat.beq q.ks.length j0 with | false, false => true | _, _ => false
theorem liveQ_spec (h : liveQ j0 q = true) : deadB q.all 6 j0 q.ks.length = false ∧ q.ks.length ≠ j0 := by
  unfold liveQ at h
  split at h
  · rename_i h1 h2
    exact ⟨h1, fun e => by rw [e, Nat.beq_refl] at h2; cases h2⟩
  · cases h
theorem JDQ_cons {o : Oper} {rest : List Oper} (hr : q.rest = o :: rest) (hlv : liveQ j0 q = true) (hd : dstB N o = true) {rs K R : List Nat} {v : V} (hdo : DOk r P N ds q.all o ⟨rs, K, R, gOf N q.sl, obGet q.ob, o.dst, v, []⟩)
    (hp : pairWith q.all ⟨rs, K, R, [], [], o.dst⟩ q.ks.length q.ks = true) (hk : JDQ j0 r P N ds fin ⟨putS N q.sl o.dst v, q.ob, q.all, rest, ⟨rs, K, R, [], [], o.dst⟩ :: q.ks, q.td⟩) : JDQ j0 r P N ds fin q := by
  refine ⟨hk.1, hk.2.1, hk.2.2.1, fun hok => ?_⟩
  obtain ⟨Δ, gE, obE, h1, h2, h3, h4⟩ := hk.2.2.2 (putS_ok hok)
  obtain ⟨l1, l2⟩ := liveQ_spec hlv
  refine ⟨some ⟨rs, K, R, gOf N q.sl, obGet q.ob, o.dst, v, []⟩ :: Δ, gE, obE, by rw [hr]; exact ⟨.inr ⟨l2, l1, hdo, (fun x hx => by cases hx), rfl⟩, h1⟩, ⟨⟨fun _ _ => rfl, fun _ _ => rfl, fun _ _ => rfl⟩, ?_⟩, ⟨hp, h3⟩, fun hle => ?_⟩
  · have e := gOf_put hok hk.1 (d := o.dst) (fun t ht => by unfold dstB at hd; rw [ht] at hd; exact hd) v
    simp only at h2 ⊢
    rw [e]
    exact h2
  · obtain ⟨δp, hm⟩ := h4 (by simp only [List.length_cons]; omega)
    exact ⟨δp, List.mem_cons_of_mem _ hm⟩
theorem JDQ_dead {o : Oper} {rest : List Oper} (hr : q.rest = o :: rest) (hde : deadB q.all 6 j0 q.ks.length = true) (hk : JDQ j0 r P N ds fin ⟨q.sl, q.ob, q.all, rest, noKeys :: q.ks, q.td⟩) : JDQ j0 r P N ds fin q := by
  refine ⟨hk.1, hk.2.1, hk.2.2.1, fun hok => ?_⟩
  obtain ⟨Δ, gE, obE, h1, h2, h3, h4⟩ := hk.2.2.2 hok
  refine ⟨none :: Δ, gE, obE, by rw [hr]; exact ⟨hde, h1⟩, h2, h3, fun hle => ?_⟩
  exfalso
  unfold deadB at hde
  split at hde
  · rename_i hb; have := nb_lt hb; omega
  · cases hde
def advQ (j0 : Nat) (P : Program) (N : Nat) (q : CfgD) : Option CfgD := match q.rest with
  | _ :: rest => match deadB q.all 6 j0 q.ks.length with
    | true => some ⟨q.sl, q.ob, q.all, rest, noKeys :: q.ks, q.td⟩
    | false => match liveQ j0 q with
      | true => (match dNow P N q with
        | .ok v [] => dGo N q v []
        | .ok _ _ => none
        | _ => dSkip N q)
      | false => none
  | [] => none
def advQN (j0 : Nat) (P : Program) (N : Nat) : Nat → CfgD → CfgD
  | 0, q => q
  | n + 1, q => match advQ j0 P N q with
    | some q' => advQN j0 P N n q'
    | none => q
theorem JDQ_adv1 {q' : CfgD} (h : advQ j0 P N q = some q') (hk : JDQ j0 r P N ds fin q') : JDQ j0 r P N ds fin q := by
  unfold advQ at h
  split at h
  case h_2 => cases h
  rename_i o0 rest0 hr0
  split at h
  · rename_i hde
    cases h
    exact JDQ_dead hr0 hde hk
  split at h
  case h_2 => cases h
  rename_i hlv
  have skip : dSkip N q = some q' → JDQ j0 r P N ds fin q := fun h => by
    unfold dSkip at h
    split at h
    · rename_i o rest hr
      split at h
      · rename_i h1 h2 h3
        cases h
        exact JDQ_cons hr hlv h2 (dok_skip h1) h3 hk
      · cases h
    · cases h
  split at h
  · rename_i v he
    obtain ⟨o, rest, hr, h1, h2, h3, h4⟩ := dNow_is (P := P) (N := N) (q := q) (by rw [he]; intro e; cases e)
    obtain ⟨h5, h6, h7, rfl⟩ := dGo_is hr h
    refine JDQ_cons hr hlv h3 (dok h1 h2 h7 h3 h5 (fun S wl M0 M ρ f w ho hev => ?_)) h6 hk
    have := evOp_sound (r := r) (P := P) (a := fr N f ds) (op := o.op) (d := o.dst.getD 0) (ty := o.type) ho hev
    rw [← h4, he] at this
    exact this
  · cases h
  · exact skip h
theorem JDQ_adv : ∀ (n : Nat) {q : CfgD}, JDQ j0 r P N ds fin (advQN j0 P N n q) → JDQ j0 r P N ds fin q
  | 0, _, h => h
  | n + 1, q, h => by
    unfold advQN at h
    split at h
    · rename_i c' hc; exact JDQ_adv1 hc (JDQ_adv n h)
    · exact h
def okQ1 (j0 : Nat) (P : Program) (N : Nat) (q : CfgD) (x : List Dat) : Bool := match dNow P N q with
  | .opt1 _ k => (match (k x).2 with | [] => dgoB N q (k x).1 [] && liveQ j0 q | _ => false)
  | _ => false
theorem JDQ_opt1 {o : Option (List Dat)} (x : List Dat) (ho : dopt1 P N q = some o) (hb : okQ1 j0 P N q x = true) (hx : o = some x) (hk : JDQ j0 r P N ds fin (dres1 P N q x)) : JDQ j0 r P N ds fin q := by
  unfold dopt1 at ho
  unfold okQ1 at hb
  unfold dres1 at hk
  split at ho
  · rename_i o' k he
    cases ho
    rw [he] at hb hk
    simp only at hb hk
    split at hb
    · rename_i hw
      rw [Bool.and_eq_true] at hb
      rw [hw] at hk
      obtain ⟨o, rest, hr, h1, h2, h3, h4⟩ := dNow_is (P := P) (N := N) (q := q) (by rw [he]; intro e; cases e)
      obtain ⟨h5, h6, h7, h8⟩ := dGo_is hr (dgo_is hb.1)
      rw [h8] at hk
      refine JDQ_cons hr hb.2 h3 (dok h1 h2 h7 h3 h5 (fun S wl M0 M ρ f w ho hev => ?_)) h6 hk
      have := evOp_sound (r := r) (P := P) (a := fr N f ds) (op := o.op) (d := o.dst.getD 0) (ty := o.type) ho hev
      rw [← h4, he] at this
      have := this x hx
      rw [hw] at this
      exact this
    · cases hb
  · cases ho
def callQ (P : Program) (N : Nat) (q : CfgD) : Option (FuncId × List V) := match dNow P N q with
  | .call g args => match argsOf (dobNow N q) args with
    | some (xs, []) => some (g, xs)
    | _ => none
  | _ => none
theorem callQ_is {g : FuncId} {xs : List V} (hc : callQ P N q = some (g, xs)) : ∃ args, dNow P N q = .call g args ∧ argsOf (dobNow N q) args = some (xs, []) := by
  unfold callQ at hc
  split at hc
  · rename_i g' args hev
    split at hc
    · rename_i xs' hargs
      cases hc
      exact ⟨args, hev, hargs⟩
    · cases hc
  · cases hc
theorem JDQ_callF {g : FuncId} {xs : List V} (ys : List V) (v : V) (hc : callQ P N q = some (g, xs)) (hb : (dgoB N q v [] && liveQ j0 q) = true) (he : entersT P g) (hre : Res' xs ys) (hcall : CallF P g ys v) (hk : JDQ j0 r P N ds fin (dgo N q v [])) : JDQ j0 r P N ds fin q := by
  obtain ⟨args, hev, hargs⟩ := callQ_is hc
  rw [Bool.and_eq_true] at hb
  obtain ⟨o, rest, hr, h1, h2, h3, h4⟩ := dNow_is (P := P) (N := N) (q := q) (by rw [hev]; intro e; cases e)
  obtain ⟨h5, h6, h8, h7⟩ := dGo_is hr (dgo_is hb.1)
  rw [h7] at hk
  refine JDQ_cons hr hb.2 h3 (dok h1 h2 h8 h3 h5 (fun S wl M0 M ρ f w ho hev' => ?_)) h6 hk
  have hob : dobNow N q = dOb q.ob (kOf N q o) (rOf N q o (kOf N q o)) := by unfold dobNow; rw [hr]
  rw [hob] at hargs
  rw [h4] at hev
  obtain ⟨vals, h1, h2⟩ := call_eff (r := r) (w := w) hev hev' he
  obtain ⟨M1, r1, o1, d1⟩ := argsOf_sound ho h1 hargs
  refine h2 _ _ (hcall M1 w vals o1.sits o1.gla (hre.rel (d1 noR))) ?_
  rintro e w' ⟨u, M2, rfl, hext, hv⟩
  obtain ⟨h3, h4⟩ := o1.call hext
  exact ⟨u, rfl, M2, ρ, r1.trans h3, h4, relV_noR hv⟩
theorem JDQ_callP {g : FuncId} {xs : List V} (ys : List V) (hc : callQ P N q = some (g, xs)) (hb : (dgoB N q .un [] && Nat.beq q.ks.length j0) = true) (he : entersT P g) (hre : Res' xs ys) (hcall : CallP P g ys) (hk : JDQ j0 r P N ds fin (dgo N q .un [])) : JDQ j0 r P N ds fin q := by
  obtain ⟨args, hev, hargs⟩ := callQ_is hc
  rw [Bool.and_eq_true] at hb
  obtain ⟨o, rest, hr, h1, h2, h3, h4⟩ := dNow_is (P := P) (N := N) (q := q) (by rw [hev]; intro e; cases e)
  obtain ⟨h5, h6, h8, h7⟩ := dGo_is hr (dgo_is hb.1)
  have hj := Nat.eq_of_beq_eq_true hb.2
  have hob : dobNow N q = dOb q.ob (kOf N q o) (rOf N q o (kOf N q o)) := by unfold dobNow; rw [hr]
  rw [hob] at hargs
  rw [h4] at hev
  rw [h7] at hk
  refine ⟨hk.1, hk.2.1, hk.2.2.1, fun hok => ?_⟩
  obtain ⟨Δ, gE, obE, a1, a2, a3, a4⟩ := hk.2.2.2 (putS_ok hok)
  have hpan : DPan r P N ds q.all o ⟨rsOf q.all o, kOf N q o, rOf N q o (kOf N q o), gOf N q.sl, obGet q.ob, o.dst, .un, []⟩ (obGet q.ob) := by
    intro S wl M0 M ρ g0 f w ha happ KK Q hQ
    have hev' := fun x => dEv_rel (N := N) (ds := ds) (sl := q.sl) (K := kOf N q o) ha.sl happ.1 ha.ow.gl.ok x
    have hcl' := fun x o' (hm : memN x (rOf N q o (kOf N q o)) = true) (ho : obGet q.ob x = some o') => allClosed_spec h2 x o' hm ho
    have hp := ha.ow.part (kOf N q o) (rOf N q o (kOf N q o)) hcl'
    refine ⟨gdD_spec (ev := dEv N q.sl (kOf N q o) (rsOf q.all o)) (fun t => hev' (.tmp t)) h1, ?_⟩
    obtain ⟨vals, e1, e2⟩ := call_effQ (r := r) (w := w) (o := o) hev hev' he
    obtain ⟨M1, r1, o1, d1⟩ := argsOf_sound hp e1 hargs
    refine e2 _ _ _ (hcall M1 w vals o1.sits o1.gla (hre.rel (d1 noR))) ?_
    rintro e w' ⟨⟨t, u, rfl⟩, M2, hext⟩
    obtain ⟨h9, h10⟩ := o1.call hext
    obtain ⟨_, h11, _⟩ := ha.ow.back hcl' (subN_spec h8) (fun x i _ _ hi => (keepR_some hi).2) h5 h10 (r1.trans h9)
    exact ⟨_, rfl, hQ _ _ _ t u h11⟩
  refine ⟨some ⟨rsOf q.all o, kOf N q o, rOf N q o (kOf N q o), gOf N q.sl, obGet q.ob, o.dst, .un, []⟩ :: Δ, gE, obE, by rw [hr]; exact ⟨.inl ⟨hj, hpan, rfl⟩, a1⟩, ⟨⟨fun _ _ => rfl, fun _ _ => rfl, fun _ _ => rfl⟩, ?_⟩, ⟨h6, a3⟩, fun _ => ⟨_, by rw [idxO, hj]; exact List.mem_cons_self⟩⟩
  have e := gOf_put hok hk.1 (d := o.dst) (fun t ht => by unfold dstB at h3; rw [ht] at h3; exact h3) V.un
  simp only at a2 ⊢
  rw [e]
  exact a2
def cntO : List (Option Dlt) → Nat
  | [] => 0
  | none :: Δ => cntO Δ + 1
  | some _ :: Δ => cntO Δ
theorem cntO_len : ∀ {Δ : List (Option Dlt)} {i : Nat}, (idxO i Δ).length + cntO Δ = Δ.length
  | [], _ => rfl
  | none :: Δ, i => by have := cntO_len (Δ := Δ) (i := i + 1); simp only [idxO, cntO, List.length_cons]; omega
  | some _ :: Δ, i => by have := cntO_len (Δ := Δ) (i := i + 1); simp only [idxO, cntO, List.length_cons]; omega
theorem J_drawQ (j0 : Nat) {c : Cfg} (hm : P.follows .mixedOrders = true) (hd : isDraw c = true) (hk : JDQ j0 r P N ds fin (inDraw c)) : J r P N ds fin c := by
  unfold isDraw at hd
  unfold inDraw at hk
  split at hd
  · rename_i q hq
    rw [hq] at hk
    unfold atDraw at hq
    split at hq
    · rename_i id ops k ht
      split at hq
      · rename_i hall
        cases hq
        refine ⟨hk.1, fun S wl M0 hH M ρ f w ha => ?_⟩
        obtain ⟨Δ, gE, obE, h1, h2, h3, h4⟩ := hk.2.2.2 ha.ok
        have hnb := hk.2.1
        have hjp := hk.2.2.1
        simp only at h1 h2 h3 hnb hjp
        obtain ⟨δp, hmem⟩ := h4 (Nat.zero_le _)
        simp only [List.length_nil] at hmem h1
        obtain ⟨b1, b2, b3⟩ := OkO_get h1
        obtain ⟨kp, hkp, hkd⟩ := idxO_mem.1 hmem
        simp only [Nat.zero_add] at hkp
        subst hkp
        obtain ⟨op, hop, hcase⟩ := b3 _ _ hkd
        have hpp : DPan r P N ds ops.toList op δp (obGet c.ob) ∧ δp.wr = [] := by
          rcases hcase with ⟨_, h5, h6⟩ | ⟨h5, _⟩
          · exact ⟨h5, h6⟩
          · exact absurd (Nat.zero_add _) h5
        rw [ht]
        simp only [Wk, Exit.then]
        refine W_of ?_
        have hcl := cntO_len (Δ := Δ) (i := 0)
        have hlen : Δ.length = ops.size := by rw [← b1]; simp
        have key := any_pan (r := r) (P := P) (N := N) (ds := ds) (l := ops.toList) (S := S) (wl := wl) (M0 := M0) (gE := gE) (ob := obGet c.ob) (obE := obE) (Q := Wk r P (fin S wl M0) k) (F := 6)
          (fun j o ho p hp => allPrd_spec hall j (Nat.zero_le _) (by have := opAt_lt ho; omega) p hp) hop hpp.1 hpp.2
          (fun M ρ f w t u ho => Wk_pan k hnb (hjp S wl M0 hH S.r0 M ρ w f t u (fun _ _ h _ => h) ho (fun t _ => by rw [Tri.get_e]; simp only [RelV])))
          ops.size (idxO 0 Δ) (cntO Δ) (Array.replicate ops.size false) M ρ (gOf N c.sl) f w.drew (by omega) hmem idxO_sorted (by simp)
          (fun j => by
            constructor
            · intro hj
              have hjs : j < ops.size := by
                rcases Nat.lt_or_ge j ops.size with h' | h'
                · exact h'
                · simp [h'] at hj
              have hjd : Δ[j]? = some Δ[j] := List.getElem?_eq_getElem (by omega)
              cases hv : Δ[j] with
              | none =>
                have := b2 j (by rw [hjd, hv])
                rw [Nat.zero_add] at this
                exact .inr ⟨this, by simpa using hjs⟩
              | some δ => exact .inl ⟨(j, δ), idxO_mem.2 ⟨j, by simp, by rw [hjd, hv]⟩, rfl⟩
            · intro hj
              have hjs : j < ops.size := by
                rcases hj with ⟨x, hx, rfl⟩ | ⟨_, h8⟩
                · obtain ⟨k', e1, e2⟩ := idxO_mem.1 hx
                  have := (List.getElem?_eq_some_iff.1 e2).1
                  omega
                · simpa using h8
              simp [hjs])
          (fun x hx => by
            obtain ⟨k', e1, e2⟩ := idxO_mem.1 hx
            rw [Nat.zero_add] at e1
            obtain ⟨o, h5, h6⟩ := b3 k' x.2 e2
            rw [Nat.zero_add] at h6
            rcases h6 with ⟨h6, _⟩ | ⟨_, _, h7, h8, h9⟩
            · exact .inl (by omega)
            · exact .inr ⟨o, by rw [e1]; exact h5, h7, h8, h9⟩)
          (PWO_pair (ks := []) h3)
          (fun k o _ hl => by
            exfalso
            rcases Nat.lt_or_ge k ops.size with h' | h'
            · simp [h'] at hl
            · simp [h'] at hl)
          ⟨ha.ow.drew, fun t ht => by
            unfold gOf
            simp only [evalV, show Nat.blt t N = true by simpa [Nat.blt_eq] using ht]
            exact ha.sl t ht⟩
          (idxO_run h2)
        have := wpIn_region_any (F := WF r) (n := 0) (id := id) (ops := ops) hm key
        exact this
      · cases hq
    · cases hq
  · cases hd
end
/-! ### Answers that may be a panic -/
def pbind {α β : Type} (x : Option (Option α)) (f : α → Option (Option β)) : Option (Option β) := match x with
  | some (some a) => f a
  | some none => some none
  | none => none
theorem pbnd {α β : Type} {x : Option (Option α)} {f : α → Option (Option β)} {r : Option β} (h : pbind x f = some r) : (x = some none ∧ r = none) ∨ ∃ a, x = some (some a) ∧ f a = some r := by
  unfold pbind at h
  split at h
  · exact .inr ⟨_, rfl, h⟩
  · cases h; exact .inl ⟨rfl, rfl⟩
  · cases h
/-- The same, where whoever asks recovers. -/
def rbind {α β : Type} (x : Option (Option α)) (z : β) (f : α → Option β) : Option β := match x with
  | some (some a) => f a
  | some none => some z
  | none => none
theorem rbnd {α β : Type} {x : Option (Option α)} {z : β} {f : α → Option β} {r : β} (h : rbind x z f = some r) : (x = some none ∧ r = z) ∨ ∃ a, x = some (some a) ∧ f a = some r := by
  unfold rbind at h
  split at h
  · exact .inr ⟨_, rfl, h⟩
  · cases h; exact .inl ⟨rfl, rfl⟩
  · cases h
end Go.Proofs.YtilfjfpemjfalaaGreatDoor.Kx
