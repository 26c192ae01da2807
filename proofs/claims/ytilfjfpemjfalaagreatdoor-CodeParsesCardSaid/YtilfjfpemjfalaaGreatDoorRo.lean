/- The judgement's rules: bools, places where ways meet, returns; a function's contract out of its body's walk. -/
import Derived.Test.YtilfjfpemjfalaaGreatDoorRn
namespace Go.Proofs.YtilfjfpemjfalaaGreatDoor.Kx
open Go Go.RowKit

def memN (n : Nat) : List Nat → Bool
  | [] => false
  | m :: l => match Nat.beq n m with | true => true | false => memN n l
theorem memN_spec {n : Nat} : ∀ {l : List Nat}, memN n l = true → n ∈ l
  | [], h => by cases h
  | m :: l, h => by
    unfold memN at h
    split at h
    · rename_i hb; rw [Nat.eq_of_beq_eq_true hb]; exact List.mem_cons_self
    · exact List.mem_cons_of_mem _ (memN_spec h)

/-- What was handed in keeps its count; what is one's own begins anew. -/
def gK (r g : Nat) : Nat := match Nat.ble 2000 r with | true => g | false => (match Nat.blt g 1000000 with | true => 0 | false => 1000000)
theorem gK_blt {r g : Nat} (h : Nat.blt (gK r g) 1000000 = true) : Nat.blt g 1000000 = true := by
  unfold gK at h
  split at h
  · exact h
  · split at h
    · assumption
    · cases h
section
variable (ids : List Nat) (ob : Nat → Option IObj)
mutual
/-- What a value is where only the objects ids are kept. -/
def pv : V → V
  | .ptr r k => match memN r ids with
    | true => .ptr r k
    | false => .undef
  | .suf r g off => match ob r with
    | some (.buf g' _ _ _) => match Nat.beq g g', memN r ids with | true, true => .suf r (gK r g) off | _, _ => .undef
    | some (.fzs g' sz es) => match Nat.beq g g' with | true => .d (.sl sz (es.drop off)) | false => .undef
    | _ => .undef
  | .osl r g off len => match ob r with
    | some (.buf g' _ _ _) => match Nat.beq g g', memN r ids with | true, true => .osl r (gK r g) off len | _, _ => .undef
    | some (.fzs g' sz es) => match Nat.beq g g' with | true => .d (.sl sz ((es.drop off).take len)) | false => .undef
    | _ => .undef
  | .ept r g j k => match ob r with
    | some (.buf g' _ _ _) => match Nat.beq g g', memN r ids with | true, true => .ept r (gK r g) j k | _, _ => .undef
    | _ => .undef
  | .mp r => match memN r ids with | true => .mp r | false => .undef
  | .yl r => match memN r ids with | true => .yl r | false => .undef
  | .fn f a b => .fn f (pvs a) (pvs b)
  | .agg cs => .agg (pvs cs)
  | .tup vs => .tup (pvs vs)
  | .d x => .d x
  | .rp cs k => .rp cs k
  | .esl n => .esl n
  | .undef => .undef
  | .un => .un
def pvs : List V → List V
  | [] => []
  | v :: l => pv v :: pvs l
end
end
def po (ids : List Nat) (ob : Nat → Option IObj) (r : Nat) : Option IObj := match ob r with
  | some (.box te cs) => some (.box te (pvs ids ob cs))
  | some (.buf g e sz es) => some (.buf (gK r g) e sz es)
  | some (.fzs g sz es) => some (.fzs (gK r g) sz es)
  | some (.raw b o) => some (.raw b o)
  | some (.mapo k a n es) => some (.mapo k a n es)
  | some (.fzb cs) => some (.fzb (pvs ids ob cs))
  | some (.frn x) => match Nat.ble 2000 r with | true => some (.frn x) | false => none
  | _ => none
def pos (ids : List Nat) (ob : Nat → Option IObj) : List Nat → Option (List (Nat × IObj))
  | [] => some []
  | r :: l => match po ids ob r, pos ids ob l with | some o, some xs => some ((r, o) :: xs) | _, _ => none
def mkT : List (Nat × V) → Tri
  | [] => .e
  | (t, v) :: l => (mkT l).set 10 t v
def keptH (ids : List Nat) : List (Nat × IObj) → Bool
  | [] => true
  | (r, _) :: l => match Nat.ble 2000 r, memN r ids with | true, false => false | _, _ => keptH ids l
theorem keptH_spec {ids : List Nat} : ∀ {l : List (Nat × IObj)} {r : Nat} {o : IObj}, keptH ids l = true → obGet l r = some o → Nat.ble 2000 r = true → memN r ids = true
  | [], _, _, _, h, _ => by cases h
  | (q, x) :: l, r, o, h, ho, hb => by
    unfold keptH at h
    simp only [obGet] at ho
    split at h
    · cases h
    · rename_i hn
      split at ho
      · rename_i he
        obtain rfl := Nat.eq_of_beq_eq_true he
        cases hm : memN r ids with
        | true => rfl
        | false => exact absurd hm (by intro hm; exact hn hb hm)
      · exact keptH_spec h ho hb
def keepS (N : Nat) (ids : List Nat) (ob : Nat → Option IObj) (sl : Tri) : List Nat → List (Nat × V)
  | [] => []
  | t :: l => (t, pv ids ob (evalV N sl (.tmp t))) :: keepS N ids ob sl l
/-- Only the slots keep and the objects ids are looked at from here on. -/
def prune (N : Nat) (keep ids : List Nat) (c : Cfg) : Option (List (Nat × V) × List (Nat × IObj) × List It) := match keptH ids c.ob, pos ids (obGet c.ob) ids with
  | true, some obs => some (keepS N ids (obGet c.ob) c.sl keep, obs, c.td)
  | _, _ => none

section
variable {S : Hand} {wl w : World} {M0 M : Mem} {ρ : Rho} {ob : Nat → Option IObj} {ids : List Nat}
/-- The objects that are kept, each as if it had never been appended to. -/
def rhoK (ids : List Nat) (ρ : Rho) : Rho := fun r => match memN r ids with
  | true => match ρ r with | some i => some { i with g := gK r i.g } | none => none
  | false => none
theorem rhoK_some {r : Nat} {i : Inf} (hm : memN r ids = true) (h : ρ r = some i) : rhoK ids ρ r = some { i with g := gK r i.g } := by simp [rhoK, hm, h]
mutual
theorem pv_rel (h : Ow S wl M0 M ρ ob w) : ∀ (v : V) {u : Value}, RelV M ρ v u → RelV M (rhoK ids ρ) (pv ids ob v) u
  | .ptr r k, u, hv => by
    obtain ⟨i, hi, hf, hu⟩ := relV_ptr hv
    simp only [pv]
    split
    · rename_i hm; simp only [RelV]; exact ⟨_, rhoK_some hm hi, hf, hu⟩
    · exact relV_undef _
  | .suf r g off, u, hv => by
    simp only [pv]
    split
    · rename_i g' e sz es hr
      split
      · rename_i hg hm
        obtain rfl := Nat.eq_of_beq_eq_true hg
        simp only [RelV] at hv ⊢
        obtain ⟨i, hi, _, h1, hu⟩ := hv
        have eg := (h.buf_heap hr hi).2.1
        exact ⟨_, rhoK_some hm hi, by show gK r _ ≤ gK r i.g; rw [eg]; exact Nat.le_refl _, h1, fun _ => hu eg.symm⟩
      · exact relV_undef _
    · rename_i g' sz es hr
      split
      · rename_i hg
        obtain rfl := Nat.eq_of_beq_eq_true hg
        exact relV_d' (fz_suf h hr hv)
      · exact relV_undef _
    · exact relV_undef _
  | .osl r g off len, u, hv => by
    simp only [pv]
    split
    · rename_i g' e sz es hr
      split
      · rename_i hg hm
        obtain rfl := Nat.eq_of_beq_eq_true hg
        simp only [RelV] at hv ⊢
        obtain ⟨i, hi, _, h1, hu⟩ := hv
        have eg := (h.buf_heap hr hi).2.1
        exact ⟨_, rhoK_some hm hi, by show gK r _ ≤ gK r i.g; rw [eg]; exact Nat.le_refl _, h1, fun _ => hu eg.symm⟩
      · exact relV_undef _
    · rename_i g' sz es hr
      split
      · rename_i hg
        obtain rfl := Nat.eq_of_beq_eq_true hg
        exact relV_d' (fz_osl h hr hv)
      · exact relV_undef _
    · exact relV_undef _
  | .ept r g j k, u, hv => by
    simp only [pv]
    split
    · rename_i g' e sz es hr
      split
      · rename_i hg hm
        obtain rfl := Nat.eq_of_beq_eq_true hg
        simp only [RelV] at hv ⊢
        obtain ⟨i, hi, _, h1, hu⟩ := hv
        have eg := (h.buf_heap hr hi).2.1
        exact ⟨_, rhoK_some hm hi, by show gK r _ ≤ gK r i.g; rw [eg]; exact Nat.le_refl _, h1, fun _ => hu eg.symm⟩
      · exact relV_undef _
    · exact relV_undef _
  | .mp r, u, hv => by
    simp only [pv]
    split
    · rename_i hm
      simp only [RelV] at hv ⊢
      obtain ⟨i, hi, hf, hu⟩ := hv
      exact ⟨_, rhoK_some hm hi, hf, hu⟩
    · exact relV_undef _
  | .yl r, u, hv => by
    simp only [pv]
    split
    · rename_i hm
      simp only [RelV] at hv ⊢
      obtain ⟨i, hi, hf, hu⟩ := hv
      exact ⟨_, rhoK_some hm hi, hf, hu⟩
    · exact relV_undef _
  | .fn f a b, u, hv => by
    simp only [pv, RelV] at hv ⊢
    obtain ⟨fs, cs, e, h1, h2⟩ := hv
    exact ⟨fs, cs, e, pvs_rel h a h1, pvs_rel h b h2⟩
  | .agg cs, u, hv => by simp only [pv, RelV] at hv ⊢; obtain ⟨us, e, h1⟩ := hv; exact ⟨us, e, pvs_rel h cs h1⟩
  | .tup cs, u, hv => by simp only [pv, RelV] at hv ⊢; obtain ⟨us, e, h1⟩ := hv; exact ⟨us, e, pvs_rel h cs h1⟩
  | .d x, u, hv => by simp only [pv, RelV] at hv ⊢; exact hv
  | .rp cs k, u, hv => by simp only [pv, RelV] at hv ⊢; exact hv
  | .esl n, u, hv => by simp only [pv, RelV] at hv ⊢; exact hv
  | .undef, u, hv => by simp only [pv]; exact relV_undef _
  | .un, u, hv => by simp only [pv, RelV] at hv ⊢; exact hv
theorem pvs_rel (h : Ow S wl M0 M ρ ob w) : ∀ (vs : List V) {us : List Value}, RelVs M ρ vs us → RelVs M (rhoK ids ρ) (pvs ids ob vs) us
  | [], us, hv => by simp only [pvs, RelVs] at hv ⊢; exact hv
  | v :: vs, us, hv => by
    simp only [pvs, RelVs] at hv ⊢
    obtain ⟨u, us', e, h1, h2⟩ := hv
    exact ⟨u, us', e, pv_rel h v h1, pvs_rel h vs h2⟩
end
theorem pos_get : ∀ {l : List Nat} {obs : List (Nat × IObj)}, pos ids ob l = some obs → (∀ r o, obGet obs r = some o → memN r l = true ∧ po ids ob r = some o) ∧ ∀ r, memN r l = true → ∃ o, obGet obs r = some o
  | [], obs, h => by
    simp only [pos, Option.some.injEq] at h
    subst h
    exact ⟨fun r o h => by simp [obGet] at h, fun r h => by simp [memN] at h⟩
  | q :: l, obs, h => by
    unfold pos at h
    split at h
    · rename_i o xs h1 h2
      cases h
      obtain ⟨i1, i2⟩ := pos_get h2
      refine ⟨fun r o' ho => ?_, fun r hm => ?_⟩
      · unfold obGet at ho
        split at ho
        · rename_i hb
          cases ho
          obtain rfl := Nat.eq_of_beq_eq_true hb
          exact ⟨by unfold memN; rw [Nat.beq_refl], h1⟩
        · rename_i hb
          obtain ⟨a1, a2⟩ := i1 r o' ho
          exact ⟨by unfold memN; rw [hb]; exact a1, a2⟩
      · unfold memN at hm
        unfold obGet
        split at hm
        · rename_i hb; rw [hb]; exact ⟨_, rfl⟩
        · rename_i hb; rw [hb]; exact i2 r hm
    · cases h
theorem Ow.prune0 (h : Ow S wl M0 M ρ ob w) (hkept : ∀ r i, Nat.ble 2000 r = true → S.r0 r = some i → memN r ids = true) {obs : List (Nat × IObj)} (hp : pos ids ob ids = some obs) : Ow S wl M0 M (rhoK ids ρ) (obGet obs) w := by
  obtain ⟨p1, p2⟩ := pos_get hp
  have key : ∀ r o, obGet obs r = some o → ∃ x i, ob r = some x ∧ ρ r = some i ∧ memN r ids = true ∧ ObjOk S wl M (rhoK ids ρ) w { i with g := gK r i.g } o ∧ (live { i with g := gK r i.g } o → live i x) := fun r o ho => by
    obtain ⟨hm, hpo⟩ := p1 r o ho
    unfold po at hpo
    split at hpo
    · rename_i cs hr
      cases hpo
      obtain ⟨i, hi, hf, hmine, us, e, hw, hrel, h1⟩ := h.own r _ hr
      exact ⟨_, i, hr, hi, hm, ⟨hf, hmine, us, e, hw, pvs_rel h cs hrel, h1⟩, fun _ => trivial⟩
    · rename_i g e sz es hr
      cases hpo
      obtain ⟨i, hi, hok⟩ := h.own r _ hr
      obtain ⟨a1, a2, a3, a4, a5, a6, a7⟩ := hok
      exact ⟨_, i, hr, hi, hm, ⟨a1, congrArg (gK r) a2, a3, a4, a5, a6, fun hp => by obtain ⟨b1, b2⟩ := a7 hp; exact ⟨⟨b1.1, fun hg => b1.2.1 (gK_blt hg), b1.2.2⟩, b2⟩⟩, fun hl => hl⟩
    · rename_i g sz es hr
      cases hpo
      obtain ⟨i, hi, hok⟩ := h.own r _ hr
      obtain ⟨a1, a2, a3, a4, a5, a6⟩ := hok
      exact ⟨_, i, hr, hi, hm, ⟨a1, congrArg (gK r) a2, a3, a4, a5, a6⟩, fun hl => hl⟩
    · rename_i b x hr
      cases hpo
      obtain ⟨i, hi, hok⟩ := h.own r _ hr
      exact ⟨_, i, hr, hi, hm, hok, fun _ => trivial⟩
    · rename_i k a n es hr
      cases hpo
      obtain ⟨i, hi, hok⟩ := h.own r _ hr
      exact ⟨_, i, hr, hi, hm, hok, fun _ => trivial⟩
    · rename_i cs hr
      cases hpo
      obtain ⟨i, hi, hf, c0, us, hM, hP, hrel, h1⟩ := h.own r _ hr
      exact ⟨_, i, hr, hi, hm, ⟨hf, c0, us, hM, hP, pvs_rel h cs hrel, h1⟩, fun hl => hl.elim⟩
    · rename_i x hr
      split at hpo
      · rename_i hb
        cases hpo
        obtain ⟨i, hi, hok⟩ := h.own r _ hr
        have e : ({ i with g := gK r i.g } : Inf) = i := by simp [gK, hb]
        exact ⟨_, i, hr, hi, hm, by rw [e]; exact hok, fun hl => hl.elim⟩
      · cases hpo
    · cases hpo
  refine ⟨h.size, h.os, h.tape, h.output, h.old, h.sits, h.le, h.gl, h.new, fun r o ho => ?_, fun r i hi => ?_, fun r r' o o' i i' h1 h2 h3 h4 l1 l2 hb => ?_, fun r i hb hi => by
    obtain ⟨j, h1, h2⟩ := h.held r i hb hi
    obtain ⟨o, ho⟩ := h.dom r j h1
    refine ⟨_, rhoK_some (hkept r i hb hi) h1, ?_⟩
    have : gK r j.g = j.g := by simp [gK, hb]
    rw [this]; exact h2⟩
  · obtain ⟨x, i, h1, h2, h3, h4, _⟩ := key r o ho
    exact ⟨_, rhoK_some h3 h2, h4⟩
  · unfold rhoK at hi
    split at hi
    · rename_i hm; exact p2 r hm
    · cases hi
  · obtain ⟨x, j, a1, a2, a3, a4, a5⟩ := key r o h1
    obtain ⟨x', j', b1, b2, b3, b4, b5⟩ := key r' o' h2
    rw [rhoK_some a3 a2] at h3; cases h3
    rw [rhoK_some b3 b2] at h4; cases h4
    exact h.inj r r' x x' j j' a1 b1 a2 b2 (a5 l1) (b5 l2) hb
theorem Ow.prune (h : Ow S wl M0 M ρ ob w) (hkept : ∀ r o, Nat.ble 2000 r = true → ob r = some o → memN r ids = true) {obs : List (Nat × IObj)} (hp : pos ids ob ids = some obs) : Ow S wl M0 M (rhoK ids ρ) (obGet obs) w :=
  h.prune0 (fun r i hb hi => by obtain ⟨j, h1, _⟩ := h.held r i hb hi; obtain ⟨o, ho⟩ := h.dom r j h1; exact hkept r o hb ho) hp
/-- What is live behind the pruning was live. -/
theorem prune_live {obs : List (Nat × IObj)} (hp : pos ids ob ids = some obs) {r : Nat} {o : IObj} (ho : obGet obs r = some o) : memN r ids = true ∧ ∃ x, ob r = some x ∧ ∀ i : Inf, live { i with g := gK r i.g } o → live i x := by
  obtain ⟨hm, hpo⟩ := (pos_get hp).1 r o ho
  refine ⟨hm, ?_⟩
  unfold po at hpo
  split at hpo
  · rename_i cs hr; cases hpo; exact ⟨_, hr, fun _ _ => trivial⟩
  · rename_i g e sz es hr; cases hpo; exact ⟨_, hr, fun _ h => h⟩
  · rename_i g sz es hr; cases hpo; exact ⟨_, hr, fun _ h => h⟩
  · rename_i b x hr; cases hpo; exact ⟨_, hr, fun _ _ => trivial⟩
  · rename_i k a n es hr; cases hpo; exact ⟨_, hr, fun _ _ => trivial⟩
  · rename_i cs hr; cases hpo; exact ⟨_, hr, fun _ h => h.elim⟩
  · rename_i x hr
    split at hpo
    · cases hpo; exact ⟨_, hr, fun _ h => h.elim⟩
    · cases hpo
  · cases hpo
end

section
variable {r : Option Nat} {P : Program} {N : Nat} {ds : List Deferred} {fin : Fin} {c : Cfg}

theorem mkT_ok : ∀ (l : List (Nat × V)), (mkT l).ok 10
  | [] => trivial
  | (t, v) :: l => Tri.set_ok _ _ _ _ (mkT_ok l)
theorem mkT_rel {M : Mem} {ρ : Rho} {f : Nat → Value} (hN : N ≤ 1024) : ∀ (l : List (Nat × V)), (∀ t v, (t, v) ∈ l → t < N ∧ RelV M ρ v (f t)) → ∀ t, t < N → RelV M ρ ((mkT l).get 10 t) (f t)
  | [], _, t, _ => by unfold mkT; rw [Tri.get_e]; exact relV_undef _
  | (q, v) :: l, h, t, ht => by
    have h1 := h q v List.mem_cons_self
    unfold mkT
    by_cases e : t = q
    · subst e; rw [Tri.get_set_same]; exact h1.2
    · rw [Tri.get_set_ne _ _ _ _ _ (mkT_ok l) (by omega) (by omega) (fun e' => e e'.symm)]
      exact mkT_rel hN l (fun t v hm => h t v (List.mem_cons_of_mem _ hm)) t ht
theorem keepS_mem {ids : List Nat} {ob : Nat → Option IObj} {sl : Tri} : ∀ {l : List Nat} {t : Nat} {v : V}, (t, v) ∈ keepS N ids ob sl l → v = pv ids ob (evalV N sl (.tmp t)) ∧ t ∈ l
  | [], _, _, h => by cases h
  | q :: l, t, v, h => by
    unfold keepS at h
    rcases List.mem_cons.1 h with e | h
    · cases e; exact ⟨rfl, List.mem_cons_self⟩
    · obtain ⟨h1, h2⟩ := keepS_mem h; exact ⟨h1, List.mem_cons_of_mem _ h2⟩
def allLt (N : Nat) : List Nat → Bool
  | [] => true
  | t :: l => match Nat.blt t N with | true => allLt N l | false => false
theorem allLt_spec : ∀ {l : List Nat}, allLt N l = true → ∀ t ∈ l, t < N
  | [], _, t, h => by cases h
  | q :: l, h, t, ht => by
    unfold allLt at h
    split at h
    · rename_i hb
      rcases List.mem_cons.1 ht with rfl | ht
      · exact nb_lt hb
      · exact allLt_spec h t ht
    · cases h
/-- A place where ways meet: what is known there is written out. -/
theorem J_at {S0 : List (Nat × V)} {O0 : List (Nat × IObj)} {T0 : List It} (keep ids : List Nat) (hp : prune N keep ids c = some (S0, O0, T0)) (hl : allLt N keep = true) (hk : J r P N ds fin ⟨mkT S0, O0, T0⟩) : J r P N ds fin c := by
  refine ⟨hk.1, fun S wl M0 hH M ρ f w ha => ?_⟩
  unfold prune at hp
  split at hp
  · rename_i obs hkp hobs
    cases hp
    refine hk.2 S wl M0 hH M (rhoK ids ρ) f w ⟨ha.ow.prune (fun r o hb ho => keptH_spec hkp ho hb) hobs, mkT_ok _, mkT_rel hk.1 _ (fun t v hm => ?_)⟩
    obtain ⟨rfl, h2⟩ := keepS_mem hm
    have hlt := allLt_spec hl t h2
    refine ⟨hlt, ?_⟩
    have := pv_rel (ids := ids) ha.ow _ (evalV_rel (ds := ds) ha (.tmp t))
    rwa [ev (by simpa [Nat.blt_eq] using hlt) rfl] at this
  · cases hp

def putV (c : Cfg) (t : Nat) (v : V) : Cfg := ⟨c.sl.set 10 t v, c.ob, c.td⟩
theorem J_put {t : Nat} {v : V} (ht : Nat.blt t N = true) (hv : ∀ S wl M0 M ρ f w, Abs S wl M0 M ρ N c f w → RelV M ρ v (f t)) (hk : J r P N ds fin (putV c t v)) : J r P N ds fin c := by
  refine ⟨hk.1, fun S wl M0 hH M ρ f w ha => hk.2 S wl M0 hH M ρ f w ⟨ha.ow, Tri.set_ok _ _ _ _ ha.ok, fun q hq => ?_⟩⟩
  have h1 := hk.1
  have h2 := nb_lt ht
  by_cases e : q = t
  · subst e; simp only [putV]; rw [Tri.get_set_same]; exact hv S wl M0 M ρ f w ha
  · simp only [putV]; rw [Tri.get_set_ne _ _ _ _ _ ha.ok (by omega) (by omega) (fun e' => e e'.symm)]; exact ha.sl q hq
/-- The two ways of a bool. -/
theorem J_bool (t : Nat) {b : Bool} (hb : evalV N c.sl (.tmp t) = .d (.bool b)) (ht : b = true → J r P N ds fin (putV c t (.d (.bool true)))) (hf : b = false → J r P N ds fin (putV c t (.d (.bool false)))) : J r P N ds fin c := by
  have hlt : Nat.blt t N = true := by
    simp only [evalV] at hb
    split at hb
    · assumption
    · cases hb
  have key : ∀ S wl M0 M ρ f w, Abs S wl M0 M ρ N c f w → RelV M ρ (.d (.bool b)) (f t) := fun S wl M0 M ρ f w ha => by
    have := evalV_rel (ds := ds) ha (.tmp t)
    rwa [hb, ev hlt rfl] at this
  cases b with
  | true => exact J_put hlt key (ht rfl)
  | false => exact J_put hlt key (hf rfl)
/-- A bool that is known. -/
theorem J_known (t : Nat) {b v : Bool} (h : b = v) (hb : evalV N c.sl (.tmp t) = .d (.bool b)) (hk : J r P N ds fin (putV c t (.d (.bool v)))) : J r P N ds fin c := by
  subst h
  have hlt : Nat.blt t N = true := by
    simp only [evalV] at hb
    split at hb
    · assumption
    · cases hb
  exact J_put hlt (fun S wl M0 M ρ f w ha => by
    have := evalV_rel (ds := ds) ha (.tmp t)
    rwa [hb, ev hlt rfl] at this) hk
/-- A number that is known. -/
theorem J_eqI (t : Nat) {k : IntKind} {i j : Int} (h : i = j) (hb : evalV N c.sl (.tmp t) = .d (.int k i)) (hk : J r P N ds fin (putV c t (.d (.int k j)))) : J r P N ds fin c := by
  subst h
  have hlt : Nat.blt t N = true := by
    simp only [evalV] at hb
    split at hb
    · assumption
    · cases hb
  exact J_put hlt (fun S wl M0 M ρ f w ha => by
    have := evalV_rel (ds := ds) ha (.tmp t)
    rwa [hb, ev hlt rfl] at this) hk
/-- An empty slice without room as a datum. -/
theorem J_nil (t m : Nat) {n : Nat} (hb : evalV N c.sl (.tmp t) = .esl n) (hk : J r P N ds fin (putV c t (.d (.sl m [])))) : J r P N ds fin c := by
  have hlt : Nat.blt t N = true := by
    simp only [evalV] at hb
    split at hb
    · assumption
    · cases hb
  exact J_put hlt (fun S wl M0 M ρ f w ha => by
    have := evalV_rel (ds := ds) ha (.tmp t)
    rw [hb, ev hlt rfl] at this
    exact Re.esl _ _ _ _ _ this) hk
/-- An empty slice without room as a slice of our own. -/
theorem J_own (t d : Nat) (e sz : Nat) {n : Nat} (hb : evalV N c.sl (.tmp t) = .esl n) (hd : obGet c.ob d = none) (hk : J r P N ds fin ⟨c.sl.set 10 t (.suf d 0 0), obSet c.ob d (.buf 0 e sz []), c.td⟩) : J r P N ds fin c := by
  have hlt : Nat.blt t N = true := by
    simp only [evalV] at hb
    split at hb
    · assumption
    · cases hb
  refine ⟨hk.1, fun S wl M0 hH M ρ f w ha => ?_⟩
  have hv := evalV_rel (ds := ds) ha (.tmp t)
  rw [hb, ev hlt rfl] at hv
  simp only [RelV] at hv
  obtain ⟨p, hp⟩ := hv
  obtain ⟨h5, h6⟩ := ha.ow.ghost hd ⟨0, 0, 0, sz, 0, 0, false⟩ (.buf 0 e sz []) (fun _ => ⟨rfl, rfl, rfl, rfl, Nat.le_refl _, Nat.zero_le _, fun h => absurd h (Nat.lt_irrefl _)⟩) (fun h => absurd h (Nat.lt_irrefl _))
  have h1 := hk.1
  have h2 := nb_lt hlt
  refine hk.2 S wl M0 hH M _ f w ⟨by dsimp only; rw [obGet_set]; exact h6, Tri.set_ok _ _ _ _ ha.ok, fun q hq => ?_⟩
  by_cases e : q = t
  · subst e; dsimp only; rw [Tri.get_set_same, hp]
    exact mk_suf (i := ⟨0, 0, 0, sz, 0, 0, false⟩) (updO_same _ _ _) rfl (Nat.le_refl _) (fun h => absurd h (Nat.lt_irrefl _))
  · dsimp only; rw [Tri.get_set_ne _ _ _ _ _ ha.ok (by omega) (by omega) (fun e' => e e'.symm)]; exact RelV.mono h5 _ (ha.sl q hq)

/-- The same object, told otherwise. -/
theorem Ow.desc {S : Hand} {wl w : World} {M0 M : Mem} {ρ : Rho} {ob : Nat → Option IObj} (h : Ow S wl M0 M ρ ob w) {q : Nat} {o o' : IObj} (hq : ob q = some o) (hk : ∀ i, ρ q = some i → ObjOk S wl M ρ w i o → ObjOk S wl M ρ w i o') (hl : ∀ i, live i o' → live i o) : Ow S wl M0 M ρ (updO ob q o') w := by
  have key : ∀ {x : Nat} {y : IObj} {i : Inf}, updO ob q o' x = some y → ρ x = some i → live i y → ∃ y', ob x = some y' ∧ live i y' := fun {x y i} hy hi hly => by
    by_cases e : x = q
    · subst e; rw [updO_same] at hy; cases hy; exact ⟨o, hq, hl i hly⟩
    · rw [updO_ne _ _ e] at hy; exact ⟨y, hy, hly⟩
  refine ⟨h.size, h.os, h.tape, h.output, h.old, h.sits, h.le, h.gl, h.new, fun x y hy => ?_, fun x i hi => ?_, fun x x' y y' i i' h1 h2 h3 h4 l1 l2 hb => ?_, h.held⟩
  · by_cases e : x = q
    · subst e
      rw [updO_same] at hy; cases hy
      obtain ⟨i, hi, hok⟩ := h.own x o hq
      exact ⟨i, hi, hk i hi hok⟩
    · rw [updO_ne _ _ e] at hy; exact h.own x y hy
  · by_cases e : x = q
    · subst e; exact ⟨o', updO_same _ _ _⟩
    · rw [updO_ne _ _ e]; exact h.dom x i hi
  · obtain ⟨z, hz, lz⟩ := key h1 h3 l1
    obtain ⟨z', hz', lz'⟩ := key h2 h4 l2
    exact h.inj x x' z z' i i' hz hz' h3 h4 lz lz' hb
theorem RelVs.set {M : Mem} {ρ : Rho} {v v' : V} : ∀ {cs : List V} {us : List Value} {j : Nat}, RelVs M ρ cs us → cs[j]? = some v → (∀ u, RelV M ρ v u → RelV M ρ v' u) → RelVs M ρ (cs.set j v') us
  | [], _, _, _, h, _ => by cases h
  | c :: cs, us, 0, h, hj, hv => by
    simp only [RelVs] at h
    obtain ⟨u, us', rfl, h1, h2⟩ := h
    simp only [List.getElem?_cons_zero, Option.some.injEq] at hj
    subst hj
    simp only [List.set_cons_zero, RelVs]
    exact ⟨u, us', rfl, hv u h1, h2⟩
  | c :: cs, us, j + 1, h, hj, hv => by
    simp only [RelVs] at h
    obtain ⟨u, us', rfl, h1, h2⟩ := h
    simp only [List.getElem?_cons_succ] at hj
    simp only [List.set_cons_succ, RelVs]
    exact ⟨u, us', rfl, h1, RelVs.set h2 hj hv⟩
def cellOf (c : Cfg) (q j : Nat) : Option V := match obGet c.ob q with | some (.box te cs) => cs[j]? | _ => none
def putC (c : Cfg) (q j : Nat) (v : V) : Cfg := match obGet c.ob q with | some (.box te cs) => ⟨c.sl, obSet c.ob q (.box te (cs.set j v)), c.td⟩ | _ => c
theorem J_putC {q j : Nat} {v v' : V} (hc : cellOf c q j = some v) (hv : ∀ M ρ u, RelV M ρ v u → RelV M ρ v' u) (hk : J r P N ds fin (putC c q j v')) : J r P N ds fin c := by
  unfold cellOf at hc
  split at hc
  · rename_i cs hq
    refine ⟨hk.1, fun S wl M0 hH M ρ f w ha => ?_⟩
    have := hk.2 S wl M0 hH M ρ f w
    unfold putC at this
    rw [hq] at this
    refine this ⟨?_, ha.ok, ha.sl⟩
    dsimp only
    rw [obGet_set]
    refine ha.ow.desc hq (fun i hi hok => ?_) (fun i _ => trivial)
    obtain ⟨h0, h1, us, e, h2, h3, h4⟩ := hok
    exact ⟨h0, h1, us, e, h2, h3.set hc (hv M ρ), h4⟩
  · cases hc
/-- An empty slice without room, in a variable of ours, as a datum. -/
theorem J_nilc (q j m : Nat) {n : Nat} (hc : cellOf c q j = some (.esl n)) (hk : J r P N ds fin (putC c q j (.d (.sl m [])))) : J r P N ds fin c :=
  J_putC hc (fun _ _ _ h => Re.esl _ _ _ _ _ h) hk
/-- An empty slice without room, in a variable of ours, as a slice of our own. -/
theorem J_ownc (q j d : Nat) (e sz : Nat) {n : Nat} (hc : cellOf c q j = some (.esl n)) (hd : obGet c.ob d = none) (hk : J r P N ds fin (putC ⟨c.sl, obSet c.ob d (.buf 0 e sz []), c.td⟩ q j (.suf d 0 0))) : J r P N ds fin c := by
  unfold cellOf at hc
  split at hc
  · rename_i te cs hq
    have hne : q ≠ d := fun e => by subst e; rw [hq] at hd; cases hd
    refine ⟨hk.1, fun S wl M0 hH M ρ f w ha => ?_⟩
    obtain ⟨h5, h6⟩ := ha.ow.ghost hd ⟨0, 0, 0, sz, 0, 0, false⟩ (.buf 0 e sz []) (fun _ => ⟨rfl, rfl, rfl, rfl, Nat.le_refl _, Nat.zero_le _, fun h => absurd h (Nat.lt_irrefl _)⟩) (fun h => absurd h (Nat.lt_irrefl _))
    have := hk.2 S wl M0 hH M (updO ρ d ⟨0, 0, 0, sz, 0, 0, false⟩) f w
    unfold putC at this
    have hq' : obGet (obSet c.ob d (.buf 0 e sz [])) q = some (.box te cs) := by rw [obGet_set, updO_ne _ _ hne]; exact hq
    dsimp only at this
    rw [hq'] at this
    refine this ⟨?_, ha.ok, fun t ht => RelV.mono h5 _ (ha.sl t ht)⟩
    dsimp only
    rw [obGet_set, obGet_set]
    refine h6.desc (q := q) (o := .box te cs) (by rw [updO_ne _ _ hne]; exact hq) (fun i hi hok => ?_) (fun i _ => trivial)
    obtain ⟨h0, h1, us, e', h2, h3, h4⟩ := hok
    refine ⟨h0, h1, us, e', h2, h3.set hc (fun u hu => ?_), h4⟩
    simp only [RelV] at hu
    obtain ⟨p, hp⟩ := hu
    rw [hp]
    exact mk_suf (i := ⟨0, 0, 0, sz, 0, 0, false⟩) (updO_same _ _ _) rfl (Nat.le_refl _) (fun h => absurd h (Nat.lt_irrefl _))
  · cases hc

/-! ### Returns -/
def noBeg : List It → Bool
  | [] => true
  | .begR _ :: _ => false
  | _ :: k => noBeg k
theorem Wk_ret {fin' : Exit → Act → World → Prop} {a : Act} {w : World} : ∀ (k : List It), noBeg k = true → fin' .ret a w → Wk r P fin' k .ret a w
  | [], _, h => h
  | .begR _ :: _, hn, _ => by cases hn
  | .code _ :: k, hn, h => by simp only [Wk, Exit.then]; exact Wk_ret k hn h
  | .inBlock _ :: k, hn, h => by simp only [Wk, Exit.inBlock]; exact Wk_ret k hn h
  | .inLoop _ :: k, hn, h => by simp only [Wk, Exit.then]; exact Wk_ret k hn h
  | .inScope :: k, hn, h => by simp only [Wk, Exit.noGoto]; exact Wk_ret k hn h
  | .ops _ _ :: k, hn, h => by simp only [Wk, Exit.then]; exact Wk_ret k hn h
def RetD (wl : World) (M0 : Mem) (v : V) : Ending → World → Prop := fun e w' => ∃ u M', e = .returned u ∧ Ext M0 M' wl w' ∧ RelV M' noR v u
/-- A function that hands back data. -/
def finF (P : Program) (fn : Func) (v : V) : Fin := .mk (fun _ _ _ => True) fun S wl M0 e a w => (∀ b, ¬ S b) → bodyPost P fn (RetD wl M0 v) e a w
/-- The results, read at the return. -/
def retV (P : Program) (N : Nat) (c : Cfg) : List ResultVar → Option (List V)
  | [] => some []
  | .tmp t :: rs => match Nat.blt t N, retV P N c rs with | true, some vs => some (evalV N c.sl (.tmp t) :: vs) | _, _ => none
  | .cell t ty :: rs => match evalV N c.sl (.tmp t), szT P ty, retV P N c rs with
    | .ptr q k, some (n, ag), some vs => match obGet c.ob q with
      | some (.box te cs) => match Nat.ble (k + n) cs.length with | true => some (mkV ag ((cs.drop k).take n) :: vs) | false => none
      | _ => none
    | _, _, _ => none
theorem run_loadVar {t : TypeId} {b o : Nat} {vs : List Value} {agg : Bool} {w : World} (ht : aggT P t = some agg) (hs : sizeT P t = some vs.length) (h1 : agg = false → vs.length = 1)
    (hc : ∀ (j : Nat) v, vs[j]? = some v → w.cell? ⟨b, o + j, none⟩ = some v) : (loadVar t ⟨b, o, none⟩).run P w = .ok (mkv agg vs) w := by
  cases agg with
  | true =>
    have := run_loadCells_list (P := P) w ⟨b, o, none⟩ vs (fun j v hv => by rw [add_zero_off]; exact hc j v hv)
    simp [loadVar, run_aggT ht, run_sizeT hs, this, mkv]
  | false =>
    match vs, h1 rfl with
    | [v], _ =>
      have := hc 0 v rfl
      simp only [Nat.add_zero] at this
      simp [loadVar, run_aggT ht, this, mkv]
theorem retV_ok {S : Hand} {wl w : World} {M0 M : Mem} {ρ : Rho} {f : Nat → Value} (h : Abs S wl M0 M ρ N c f w) : ∀ {rs : List ResultVar} {vs : List V}, retV P N c rs = some vs → ∃ us, resOk P N f w rs us ∧ RelVs M ρ vs us
  | [], vs, hv => by simp only [retV, Option.some.injEq] at hv; subst hv; exact ⟨[], trivial, by simp only [RelVs]⟩
  | .tmp t :: rs, vs, hv => by
    unfold retV at hv
    split at hv
    · rename_i vs' hlt hvs
      cases hv
      obtain ⟨us, h1, h2⟩ := retV_ok h hvs
      have hr := evalV_rel (ds := []) h (.tmp t)
      rw [ev hlt rfl] at hr
      exact ⟨f t :: us, ⟨⟨hlt, rfl⟩, h1⟩, by simp only [RelVs]; exact ⟨_, _, rfl, hr, h2⟩⟩
    · cases hv
  | .cell t ty :: rs, vs, hv => by
    unfold retV at hv
    split at hv
    · rename_i q k n ag vs' hp hz hvs
      split at hv
      · rename_i cs hr
        split at hv
        · rename_i hl
          cases hv
          obtain ⟨us, h1, h2⟩ := retV_ok h hvs
          have hlt : Nat.blt t N = true := by
            simp only [evalV] at hp
            split at hp
            · assumption
            · cases hp
          have hrv := evalV_rel (ds := []) h (.tmp t)
          rw [hp, ev hlt rfl] at hrv
          obtain ⟨i, hi, hf, hpt⟩ := relV_ptr hrv
          obtain ⟨xs, e, hw, hrel, _⟩ := h.ow.box_heap hr hi
          obtain ⟨hs, ha, hone⟩ := szT_spec hz
          have hl := nb_le hl
          have hlen := hrel.len
          have hu : ((xs.drop k).take n).length = n := take_len (by omega)
          refine ⟨mkv ag ((xs.drop k).take n) :: us, ⟨⟨hlt, _, hpt, run_loadVar ha (by rw [hu]; exact hs) (fun e => by rw [hu]; exact hone e) (fun j v hj => ?_)⟩, h1⟩, by simp only [RelVs]; exact ⟨_, _, rfl, mkV_rel (n := n) ((hrel.drop k).take n) (fun e => by rw [hu]; exact hone e), h2⟩⟩
          have := get_slice rfl hj
          simp [World.cell?, hw, this]
        · cases hv
      · cases hv
    · cases hv
def tupV : List V → V
  | [v] => v
  | vs => .tup vs
theorem tupV_rel {M : Mem} {ρ : Rho} {vs : List V} {us : List Value} (h : RelVs M ρ vs us) : RelV M ρ (tupV vs) (tupv us) := by
  match vs, us, h with
  | [v], us, h =>
    simp only [RelVs] at h
    obtain ⟨u, us', rfl, h1, rfl⟩ := h
    exact h1
  | [], us, h => simp only [RelVs] at h; subst h; simp only [tupV, RelV, RelVs]; exact ⟨[], rfl, rfl⟩
  | v :: v' :: vs, us, h =>
    have hl := h.len
    match us, hl with
    | u :: u' :: us, _ => simp only [tupV, tupv, RelV]; exact ⟨_, rfl, h⟩
theorem ret_post {fn : Func} {v : V} {S : Hand} {wl w : World} {M0 M : Mem} {ρ : Rho} {f : Nat → Value} {rs : List ResultVar} {vs xs ys : List V} {wr : Wr} (h : Abs S wl M0 M ρ N c f w) (hfn : fn.results = rs.toArray) (hv : retV P N c rs = some vs) (hx : argsOf (obGet c.ob) vs = some (xs, wr)) (hre : Res' xs ys) (he : tupV ys = v) (hS : ∀ b, ¬ S b) :
    ∃ u, (results fn (fr N f []).tmps).run P w = .ok u w ∧ RetD wl M0 v (.returned u) w := by
  obtain ⟨us, h1, h2⟩ := retV_ok h hv
  obtain ⟨M', r1, o1, d1⟩ := argsOf_sound h.ow h2 hx
  refine ⟨tupv us, results_run hfn h1, tupv us, M', rfl, ⟨⟨o1.os, o1.tape, o1.output, o1.size, fun k hk => o1.old k hk (hS k)⟩, o1.le, o1.sits, fun b c hb hlt => (o1.new b c hb hlt).resolve_right (hS b)⟩, ?_⟩
  rw [← he]
  exact tupV_rel (hre.rel (d1 noR))
def atRet (c : Cfg) : Bool := match c.td with | .code .ret :: k => noBeg k | [] => true | _ => false
def retOf (P : Program) (N : Nat) (c : Cfg) (rs : List ResultVar) : Option (List V) := match atRet c with
  | true => match retV P N c rs with
    | some vs => match argsOf (obGet c.ob) vs with | some (xs, _) => some xs | none => none
    | none => none
  | false => none
theorem J_ret {fn : Func} {v : V} {rs : List ResultVar} {xs : List V} (ys : List V) (hfn : fn.results = rs.toArray) (hN : Nat.ble N 1024 = true) (hv : retOf P N c rs = some xs) (hre : Res' xs ys) (he : tupV ys = v) : J r P N [] (finF P fn v) c := by
  refine ⟨nb_le hN, fun S wl M0 hH M ρ f w h => ?_⟩
  unfold retOf at hv
  split at hv
  · rename_i hat
    split at hv
    · rename_i vs hvs
      split at hv
      · rename_i xs' wr hx
        cases hv
        have key := fun hS : ∀ b, ¬ S b => ret_post h hfn hvs hx hre he hS
        unfold atRet at hat
        split at hat
        · rename_i ht
          rw [ht]
          exact W_ret (Wk_ret _ hat (fun hS => ⟨rfl, key hS⟩))
        · rename_i ht
          rw [ht]
          exact fun hS => ⟨rfl, key hS⟩
        · cases hat
      · cases hv
    · cases hv
  · cases hv
def argT : Nat → List V → List (Nat × V)
  | _, [] => []
  | i, v :: l => (i, v) :: argT (i + 1) l
theorem argT_mem : ∀ {l : List V} {i t : Nat} {v : V}, (t, v) ∈ argT i l → i ≤ t ∧ l[t - i]? = some v
  | [], _, _, _, h => by cases h
  | x :: l, i, t, v, h => by
    unfold argT at h
    rcases List.mem_cons.1 h with e | h
    · cases e; exact ⟨Nat.le_refl _, by simp⟩
    · obtain ⟨h1, h2⟩ := argT_mem h
      refine ⟨by omega, ?_⟩
      obtain ⟨k, rfl⟩ : ∃ k, t = i + 1 + k := ⟨t - (i + 1), by omega⟩
      rw [show i + 1 + k - (i + 1) = k by omega] at h2
      rw [show i + 1 + k - i = k + 1 by omega]
      exact h2
/-- A contract out of the body's walk. -/
theorem callF_of {g : FuncId} {fn : Func} {b : Code} {args : List V} {v : V} (hf : P.funcs[g]? = some fn) (hb : fn.body = some b) (hN : fn.ntmps = N) (hv : Nat.ble args.length N = true) (h : J none P N [] (finF P fn v) ⟨mkT (argT 0 args), [], [.code b]⟩) : CallF P g args v := by
  intro M w vals hs hgl hr
  have hl := nb_le hv
  refine entry hf hb hN (by rw [hr.len]; exact hl) ?_
  refine W_mono (h.2 ⟨fun _ => False, noR⟩ w M trivial M noR (argf vals) w ⟨⟨Nat.le_refl _, rfl, rfl, rfl, fun _ _ _ => rfl, hs, M.le_refl, hgl.entry (fun _ _ _ h => h), fun _ _ h _ => .inl h, fun r o h => (by simp [obGet] at h), fun r i h => (by cases h), fun r r' o o' i i' h => (by simp [obGet] at h), fun r i _ h => (by cases h)⟩, mkT_ok _, mkT_rel h.1 _ (fun t v hm => ?_)⟩) (fun e a w hq => hq (fun _ h => h))
  obtain ⟨_, h2⟩ := argT_mem hm
  rw [Nat.sub_zero] at h2
  obtain ⟨u, h3, h4⟩ := hr.get h2
  exact ⟨Nat.lt_of_lt_of_le (List.getElem?_eq_some_iff.1 h2).1 hl, by unfold argf; rw [h3]; exact h4⟩
end
/-- A part of the code. -/
def cAt : Code → List Nat → Code
  | c, [] => c
  | .seq a b, i :: p => match i with | 0 => cAt a p | _ => cAt b p
  | .cond _ a b, i :: p => match i with | 0 => cAt a p | _ => cAt b p
  | .block _ b, _ :: p => cAt b p
  | .loop b, _ :: p => cAt b p
  | .scope b, _ :: p => cAt b p
  | .rangeFunc _ _ a b, i :: p => match i with | 0 => cAt a p | _ => cAt b p
  | c, _ => c
def opsOf : Code → List Oper
  | .region _ ops _ => ops.toList
  | _ => []
def bodyOf (fn : Func) : Code := match fn.body with | some b => b | none => .skip

/-! ### Lists of data -/
theorem gm {α β : Type} {l : List α} {f : α → β} {i : Int} {y : α} (h : geti l i = some y) : geti (l.map f) i = some (f y) := by
  obtain ⟨k, rfl, hk⟩ := geti_some h
  unfold geti
  simp [hk]
theorem am {α β : Type} {l m k : List α} {f : α → β} (h : app l m = some k) : app (l.map f) (m.map f) = some (k.map f) := by
  obtain ⟨rfl, hb⟩ := app_bound h
  unfold app
  simp [hb]
theorem sm {α β : Type} {l k : List α} {f : α → β} {lo hi : Int} (h : slc l lo hi = some k) : slc (l.map f) lo hi = some (k.map f) := by
  obtain ⟨h0, h1, h2, rfl⟩ := slc_some h
  unfold slc
  simp [h0, h1, h2, List.map_take, List.map_drop]
def mkL {α : Type} (l c : Int) (z : α) : Option (List α) := bif decide (0 ≤ l) && decide (l ≤ c) && decide (c ≤ 2147483648) then some (List.replicate l.toNat z) else none
theorem mm {α : Type} {l c : Int} {z : α} {f : α → List Dat} {k : List α} (h : mkL l c z = some k) : mk2 l c (f z) = some (k.map f) := by
  unfold mkL at h
  unfold mk2
  cases hb : (decide (0 ≤ l) && decide (l ≤ c) && decide (c ≤ 2147483648)) with
  | true => rw [hb] at h; cases h; simp
  | false => rw [hb] at h; cases h
/-- What is stored into an element. -/
theorem stm {α : Type} {l : List α} {f : α → List Dat} {j : Nat} {y z : α} {k : Nat} {xs : List Dat} (h : l[j]? = some y) (hz : setD (f y) k xs = f z) : (match (l.map f)[j]? with | some old => some ((l.map f).set j (setD old k xs)) | none => none) = some ((l.set j z).map f) := by
  simp [h, hz, List.map_set]
theorem gj {α : Type} {l : List α} {i : Int} {y : α} (h : geti l i = some y) : l[(0 + i.toNat)]? = some y := by
  rw [Nat.zero_add]; exact (geti_nat h).2
theorem gjm {α β : Type} {l : List α} {f : α → β} {j : Nat} {y : α} (h : l[j]? = some y) : (l.map f)[j]? = some (f y) := by simp [h]
theorem ck {b : Bool} (h : b = true) : chk b = some [] := by subst h; rfl
end Go.Proofs.YtilfjfpemjfalaaGreatDoor.Kx
