/- A pointer to an element, pinned: from here on the buffer is only appended to. -/
import Derived.Test.YtilfjfpemjfalaaGreatDoorRyb
import Derived.Laws.Externs
namespace Go.Proofs.YtilfjfpemjfalaaGreatDoor.Kx
open Go Go.RowKit

section
variable (q g : Nat)
mutual
def pinV : V → V
  | .suf r g' off => match Nat.beq r q, Nat.beq g' g with | true, true => .suf r (g + 1000000) off | _, _ => .suf r g' off
  | .osl r g' off len => match Nat.beq r q, Nat.beq g' g with | true, true => .osl r (g + 1000000) off len | _, _ => .osl r g' off len
  | .ept r g' j k => match Nat.beq r q with | true => .undef | false => .ept r g' j k
  | .fn f a b => .fn f (pinVs a) (pinVs b)
  | .agg cs => .agg (pinVs cs)
  | .tup vs => .tup (pinVs vs)
  | .d x => .d x
  | .rp cs k => .rp cs k
  | .ptr r k => .ptr r k
  | .esl n => .esl n
  | .mp r => .mp r
  | .yl r => .yl r
  | .undef => .undef
  | .un => .un
def pinVs : List V → List V
  | [] => []
  | v :: l => pinV v :: pinVs l
end
def pinO : IObj → IObj
  | .box te cs => .box te (pinVs q g cs)
  | .fzb cs => .fzb (pinVs q g cs)
  | o => o
end
section
variable {M : Mem} {ρ : Rho} {q g : Nat} {i : Inf}
def pinR (q g : Nat) (i : Inf) (ρ : Rho) : Rho := updO ρ q { i with g := g + 1000000 }
theorem pinR_le (hi : ρ q = some i) (hg : i.g = g) (hf : i.fix = false) : Rle M M ρ (pinR q g i ρ) := ⟨M.le_refl, fun r j hj => by
  by_cases e : r = q
  · subst e; rw [hi] at hj; cases hj
    exact ⟨_, updO_same _ _ _, by simp only; omega, fun e => by simp only at e; omega, fun e => by rw [hf] at e; cases e⟩
  · exact ⟨j, by unfold pinR; rw [updO_ne _ _ e]; exact hj, Ile.refl j⟩⟩
mutual
theorem pin_rel (hi : ρ q = some i) (hg : i.g = g) (hf : i.fix = false) : ∀ (v : V) {u : Value}, RelV M ρ v u → RelV M (pinR q g i ρ) (pinV q g v) u
  | .suf r g' off, u, hv => by
    simp only [pinV]
    split
    · rename_i h1 h2
      obtain rfl := Nat.eq_of_beq_eq_true h1
      obtain rfl := Nat.eq_of_beq_eq_true h2
      simp only [RelV] at hv ⊢
      obtain ⟨j, hj, a1, a2, a3⟩ := hv
      rw [hi] at hj; cases hj
      exact ⟨_, updO_same _ _ _, Nat.le_refl _, a2, fun _ => a3 hg.symm⟩
    · exact RelV.mono (pinR_le hi hg hf) _ hv
  | .osl r g' off len, u, hv => by
    simp only [pinV]
    split
    · rename_i h1 h2
      obtain rfl := Nat.eq_of_beq_eq_true h1
      obtain rfl := Nat.eq_of_beq_eq_true h2
      simp only [RelV] at hv ⊢
      obtain ⟨j, hj, a1, a2, a3⟩ := hv
      rw [hi] at hj; cases hj
      exact ⟨_, updO_same _ _ _, Nat.le_refl _, a2, fun _ => a3 hg.symm⟩
    · exact RelV.mono (pinR_le hi hg hf) _ hv
  | .ept r g' j k, u, hv => by
    simp only [pinV]
    split
    · exact relV_undef _
    · exact RelV.mono (pinR_le hi hg hf) _ hv
  | .fn f a b, u, hv => by
    simp only [pinV, RelV] at hv ⊢
    obtain ⟨fs, cs, e, h1, h2⟩ := hv
    exact ⟨fs, cs, e, pin_rels hi hg hf a h1, pin_rels hi hg hf b h2⟩
  | .agg cs, u, hv => by simp only [pinV, RelV] at hv ⊢; obtain ⟨us, e, h1⟩ := hv; exact ⟨us, e, pin_rels hi hg hf cs h1⟩
  | .tup cs, u, hv => by simp only [pinV, RelV] at hv ⊢; obtain ⟨us, e, h1⟩ := hv; exact ⟨us, e, pin_rels hi hg hf cs h1⟩
  | .d x, u, hv => by simp only [pinV]; exact RelV.mono (pinR_le hi hg hf) _ hv
  | .rp cs k, u, hv => by simp only [pinV]; exact RelV.mono (pinR_le hi hg hf) _ hv
  | .ptr r k, u, hv => by simp only [pinV]; exact RelV.mono (pinR_le hi hg hf) _ hv
  | .esl n, u, hv => by simp only [pinV]; exact RelV.mono (pinR_le hi hg hf) _ hv
  | .mp r, u, hv => by simp only [pinV]; exact RelV.mono (pinR_le hi hg hf) _ hv
  | .yl r, u, hv => by simp only [pinV]; exact RelV.mono (pinR_le hi hg hf) _ hv
  | .undef, u, _ => by simp only [pinV]; exact relV_undef _
  | .un, u, hv => by simp only [pinV]; exact RelV.mono (pinR_le hi hg hf) _ hv
theorem pin_rels (hi : ρ q = some i) (hg : i.g = g) (hf : i.fix = false) : ∀ (vs : List V) {us : List Value}, RelVs M ρ vs us → RelVs M (pinR q g i ρ) (pinVs q g vs) us
  | [], us, hv => by simp only [pinVs, RelVs] at hv ⊢; exact hv
  | v :: l, us, hv => by
    simp only [pinVs, RelVs] at hv ⊢
    obtain ⟨u, us', e, h1, h2⟩ := hv
    exact ⟨u, us', e, pin_rel hi hg hf v h1, pin_rels hi hg hf l h2⟩
end
end
section
variable {S : Hand} {wl w : World} {M0 M : Mem} {ρ : Rho} {ob : Nat → Option IObj} {q g sz : Nat} {e : TypeId} {es : List (List Dat)}
def pinOb (q g : Nat) (e : TypeId) (sz : Nat) (es : List (List Dat)) (ob : Nat → Option IObj) : Nat → Option IObj := fun r => match Nat.beq r q with
  | true => some (.buf (g + 1000000) e sz es)
  | false => match ob r with | some o => some (pinO q g o) | none => none
theorem pinO_live {i : Inf} {o : IObj} : live i (pinO q g o) = live i o := by cases o <;> rfl
/-- The buffer is marked. -/
theorem Ow.pin (h : Ow S wl M0 M ρ ob w) (hq : ob q = some (.buf g e sz es)) {i : Inf} (hi : ρ q = some i) : Ow S wl M0 M (pinR q g i ρ) (pinOb q g e sz es ob) w := by
  obtain ⟨hf, hg, hsz, hn, ht, hx, hh⟩ := h.buf_heap hq hi
  have hr : Rle M M ρ (pinR q g i ρ) := pinR_le hi hg hf
  have at_ : ∀ r, r ≠ q → pinOb q g e sz es ob r = match ob r with | some o => some (pinO q g o) | none => none := fun r hr => by unfold pinOb; rw [beq_false hr]
  have same : pinOb q g e sz es ob q = some (.buf (g + 1000000) e sz es) := by unfold pinOb; rw [Nat.beq_refl]
  have rne : ∀ r, r ≠ q → pinR q g i ρ r = ρ r := fun r hr => updO_ne _ _ hr
  have back : ∀ r o, pinOb q g e sz es ob r = some o → ∃ x, ob r = some x ∧ (∀ j, live j o = live j x) ∧ (r ≠ q → o = pinO q g x) := fun r o ho => by
    by_cases er : r = q
    · subst er; rw [same] at ho; cases ho; exact ⟨_, hq, fun _ => rfl, fun h => absurd rfl h⟩
    · rw [at_ r er] at ho
      split at ho
      · rename_i x hx; cases ho; exact ⟨x, hx, fun _ => pinO_live, fun _ => rfl⟩
      · cases ho
  have blk : ∀ r j, pinR q g i ρ r = some j → ∃ j0, ρ r = some j0 ∧ j.b = j0.b ∧ j.tot = j0.tot := fun r j hj => by
    by_cases er : r = q
    · subst er; unfold pinR at hj; rw [updO_same] at hj; cases hj; exact ⟨i, hi, rfl, rfl⟩
    · rw [rne r er] at hj; exact ⟨j, hj, rfl, rfl⟩
  have lv : ∀ (j j0 : Inf) (o : IObj), j.tot = j0.tot → live j o → live j0 o := fun j j0 o e hl => by
    cases o <;> simp only [live] at hl ⊢ <;> first | exact hl | (rw [← e]; exact hl)
  refine ⟨h.size, h.os, h.tape, h.output, h.old, h.sits, h.le, h.gl, h.new, fun r o ho => ?_, fun r j hj => ?_, fun r r' o o' j j' h1 h2 h3 h4 l1 l2 hb => ?_, fun r j hb hj => ?_⟩
  · by_cases er : r = q
    · subst er
      rw [same] at ho; cases ho
      refine ⟨_, updO_same _ _ _, hf, rfl, hsz, hn, ht, hx, fun hp => ?_⟩
      obtain ⟨m, rest⟩ := hh hp
      exact ⟨⟨m.1, fun hg' => absurd hg' (by simp [Nat.blt_eq]), m.2.2⟩, rest⟩
    · obtain ⟨x, hx', _, hpo⟩ := back r o ho
      obtain rfl := hpo er
      obtain ⟨j, h1, h2⟩ := h.own r x hx'
      refine ⟨j, by rw [rne r er]; exact h1, ?_⟩
      have h3 := h2.mono hr (fun _ => rfl) (fun _ => rfl)
      cases x with
      | box te cs => obtain ⟨a0, a1, us, e', a2, a3, a4⟩ := h2; exact ⟨a0, a1, us, e', a2, pin_rels hi hg hf cs a3, a4⟩
      | fzb cs => obtain ⟨a0, c, us, a1, a2, a3, a4⟩ := h2; exact ⟨a0, c, us, a1, a2, pin_rels hi hg hf cs a3, a4⟩
      | buf g1 e1 sz1 es1 => exact h3
      | fzs g1 sz1 es1 => exact h3
      | mapo a b c d => exact h3
      | raw a b => exact h3
      | frn a => exact h3
  · obtain ⟨j0, h1, _⟩ := blk r j hj
    obtain ⟨o, ho⟩ := h.dom r j0 h1
    by_cases er : r = q
    · subst er; exact ⟨_, same⟩
    · exact ⟨pinO q g o, by rw [at_ r er, ho]⟩
  · obtain ⟨x, a1, a2, _⟩ := back r o h1
    obtain ⟨x', b1, b2, _⟩ := back r' o' h2
    obtain ⟨j0, a3, a4, a5⟩ := blk r j h3
    obtain ⟨j0', b3, b4, b5⟩ := blk r' j' h4
    refine h.inj r r' x x' j0 j0' a1 b1 a3 b3 (lv j j0 x a5 (by rw [← a2]; exact l1)) (lv j' j0' x' b5 (by rw [← b2]; exact l2)) (by rw [← a4, ← b4]; exact hb)
  · obtain ⟨k, h1, h2⟩ := h.held r j hb hj
    obtain ⟨k', h3, h4⟩ := hr.ext r k h1
    exact ⟨k', h3, h2.trans h4⟩
/-- What a marked buffer holds is held for good. -/
theorem Ow.hold (h : Ow S wl M0 M ρ ob w) (hq : ob q = some (.buf g e sz es)) (hg : Nat.blt g 1000000 = false) {i : Inf} (hi : ρ q = some i) (hp : 0 < i.tot) :
    ∃ M' c pre us, Rle M M' ρ ρ ∧ Ow S wl M0 M' ρ ob w ∧ M' i.b = some c ∧ Pre (pre ++ us).toArray c ∧ pre.length = i.base * sz ∧ rL (rDs sz) M' us es := by
  obtain ⟨hf, hgg, hsz, hn, ht, hx, hh⟩ := h.buf_heap hq hi
  obtain ⟨hm, pre, us, sp, hw, hpre, hl, hrel⟩ := hh hp
  have hul : us.length = es.length * sz := (rL_len hrel)
  let M' : Mem := fun b => if b = i.b then some (pre ++ us).toArray else M b
  have hMi : M' i.b = some (pre ++ us).toArray := if_pos rfl
  have hPr : Pre (pre ++ us).toArray (pre ++ (us ++ sp)).toArray := fun j v hj => by
    have hlt := (Array.getElem?_eq_some_iff.1 hj).1
    simp only [List.getElem?_toArray] at hj ⊢
    rw [← List.append_assoc, List.getElem?_append_left (by simpa using hlt)]; exact hj
  have hle : M.le M' := fun b c hc => by
    by_cases eb : b = i.b
    · subst eb
      refine ⟨_, hMi, fun j v hj => ?_⟩
      obtain ⟨c', e', z', h1, h2⟩ := h.sits _ c hc
      rw [hw] at h1; cases h1
      have h3 := h2 j v hj
      have h4 := (Array.getElem?_eq_some_iff.1 hj).1
      have h5 := hm.2.2 c hc
      simp only [List.getElem?_toArray] at h3 ⊢
      rw [← List.append_assoc, List.getElem?_append_left (by rw [List.length_append, hpre, hul, ← hn, ← Nat.add_mul, ← hsz]; omega)] at h3
      exact h3
    · exact ⟨c, by simp only [M', if_neg eb]; exact hc, Pre.refl c⟩
  have hR : Rle M M' ρ ρ := ⟨hle, fun _ j hj => ⟨j, hj, Ile.refl j⟩⟩
  refine ⟨M', _, pre, us, hR, ⟨h.size, h.os, h.tape, h.output, h.old, fun b c hc => ?_, Mem.le_trans h.le hle, h.gl.mono hle, fun b c hc hlt => ?_, fun z y hy => ?_, h.dom, h.inj, h.held⟩, hMi, Pre.refl _, hpre, rL_mono hle hrel⟩
  · by_cases eb : b = i.b
    · subst eb; rw [hMi] at hc; cases hc; exact ⟨_, _, _, hw, hPr⟩
    · simp only [M', if_neg eb] at hc; exact h.sits b c hc
  · by_cases eb : b = i.b
    · subst eb
      rcases hm.1 with hs | hs
      · exact .inr hs
      · omega
    · simp only [M', if_neg eb] at hc; exact h.new b c hc hlt
  · obtain ⟨j, h1, h2⟩ := h.own z y hy
    by_cases ez : z = q
    · subst ez
      rw [hi] at h1; cases h1
      rw [hq] at hy; cases hy
      refine ⟨i, hi, hf, hgg, hsz, hn, ht, hx, fun _ => ⟨⟨hm.1, fun hb => (by rw [hg] at hb; cases hb), fun c hc => ?_⟩, pre, us, sp, hw, hpre, hl, rL_mono hle hrel⟩⟩
      rw [hMi] at hc; cases hc
      simp only [List.size_toArray, List.length_append]
      rw [hpre, hul, ← hn, ← Nat.add_mul, hsz]; exact Nat.le_refl _
    · refine ⟨j, h1, h2.mono hR (fun hl' => ?_) (fun _ => rfl)⟩
      by_cases eb : j.b = i.b
      · exact absurd (h.inj z q y _ j i hy hq h1 hi hl' hp eb) ez
      · simp only [M', if_neg eb]
end
def pinL (q g : Nat) (e : TypeId) (sz : Nat) (es : List (List Dat)) : List (Nat × IObj) → List (Nat × IObj)
  | [] => []
  | (r, o) :: l => (r, match Nat.beq r q with | true => .buf (g + 1000000) e sz es | false => pinO q g o) :: pinL q g e sz es l
theorem pinL_get {q g : Nat} {e : TypeId} {sz : Nat} {es : List (List Dat)} : ∀ (l : List (Nat × IObj)) (r : Nat), (r = q → ∃ o, obGet l q = some o) → obGet (pinL q g e sz es l) r = pinOb q g e sz es (obGet l) r
  | [], r, h => by
    unfold pinOb
    cases hb : Nat.beq r q with
    | true => obtain ⟨o, ho⟩ := h (Nat.eq_of_beq_eq_true hb); cases ho
    | false => rfl
  | (s, o) :: l, r, h => by
    simp only [pinL, obGet]
    cases hs : Nat.beq r s with
    | true =>
      obtain rfl := Nat.eq_of_beq_eq_true hs
      unfold pinOb
      cases hb : Nat.beq r q with
      | true => rfl
      | false => simp only [obGet, Nat.beq_refl]
    | false =>
      dsimp only
      rw [pinL_get l r (fun e => by
        obtain ⟨x, hx⟩ := h e
        subst e
        simp only [obGet, hs] at hx
        exact ⟨x, hx⟩)]
      unfold pinOb
      cases hb : Nat.beq r q with
      | true => rfl
      | false => simp only [obGet, hs]
section
variable {r : Option Nat} {P : Program} {N : Nat} {ds : List Deferred} {fin : Fin} {c : Cfg}
/-- Slot t points to an element of the buffer q; from here on the buffer is only appended to. -/
theorem J_pin (q g t j k : Nat) (e : TypeId) (sz : Nat) (es : List (List Dat)) (cs : List Dat) (hq : obGet c.ob q = some (.buf g e sz es)) (ht : Nat.blt t N = true) (hv : c.sl.get 10 t = .ept q g j k) (hj : es[j]? = some cs)
    (hk : J r P N ds fin ⟨(mapTri (pinV q g) c.sl).set 10 t (.rp cs k), pinL q g e sz es c.ob, c.td⟩) : J r P N ds fin c := by
  refine ⟨hk.1, fun S wl M0 hH M ρ f w ha => ?_⟩
  have hN := hk.1
  have ht := nb_lt ht
  have hjl : j < es.length := (List.getElem?_eq_some_iff.1 hj).1
  obtain ⟨i, hi, hok⟩ := ha.ow.own q _ hq
  obtain ⟨hf, hg, hsz, hn, htt, hx, hh⟩ := ha.ow.buf_heap hq hi
  have o1 := ha.ow.pin hq hi
  have hp : 0 < i.tot := by omega
  have hq1 : pinOb q g e sz es (obGet c.ob) q = some (.buf (g + 1000000) e sz es) := by unfold pinOb; rw [Nat.beq_refl]
  have hi1 : pinR q g i ρ q = some { i with g := g + 1000000 } := updO_same _ _ _
  obtain ⟨M', cc, pre, us, r1, o2, hM, hP, hpre, hrel⟩ := o1.hold hq1 (by
    cases hb : Nat.blt (g + 1000000) 1000000 with
    | false => rfl
    | true => exact absurd (nb_lt hb) (by omega)) hi1 hp
  rw [← funext (fun r => pinL_get (q := q) (g := g) (e := e) (sz := sz) (es := es) c.ob r (fun _ => ⟨_, hq⟩))] at o2
  refine hk.2 S wl M0 hH M' (pinR q g i ρ) f w ⟨o2, Tri.set_ok _ _ _ _ (mapTri_ok 10 _ ha.ok), fun s hs => ?_⟩
  by_cases es' : s = t
  · subst es'
    dsimp only
    rw [Tri.get_set_same]
    have h1 := ha.sl s hs
    rw [hv] at h1
    obtain ⟨i2, hi2, _, h2⟩ := relV_ept h1
    rw [hi] at hi2; cases hi2
    obtain ⟨_, hu⟩ := h2 hg.symm
    obtain ⟨p1, p2, p3⟩ := rL_piece hrel hj
    simp only [RelV]
    refine ⟨i.b, (i.base + j) * i.sz, (us.drop (j * sz)).take sz, hu, ⟨cc, hM, fun z hz => ?_⟩, p3⟩
    have hz' := hz
    simp only [List.length_take, List.length_drop] at hz
    have key : (pre ++ us).toArray[(i.base + j) * i.sz + z]? = ((us.drop (j * sz)).take sz)[z]? := by
      rw [List.getElem?_take_of_lt (by omega), List.getElem?_drop]
      have hpre' : pre.length = i.base * sz := hpre
      have e2 : (i.base + j) * i.sz + z = pre.length + (j * sz + z) := by rw [hpre', hsz, Nat.add_mul]; omega
      simp only [List.getElem?_toArray, e2]
      rw [List.getElem?_append_right (by omega), Nat.add_sub_cancel_left]
    rw [List.getElem?_eq_getElem hz'] at key ⊢
    exact hP _ _ key
  · dsimp only
    rw [Tri.get_set_ne _ _ _ _ _ (mapTri_ok 10 _ ha.ok) (by omega) (by omega) (fun e' => es' e'.symm), mapTri_get rfl]
    exact RelV.mono r1 _ (pin_rel hi hg hf _ (ha.sl s hs))
/-- What slot t holds will not be written again. -/
theorem J_frzS (t : Nat) (ht : Nat.blt t N = true) (hx : (xsOf c [c.sl.get 10 t]).isSome = true) (hk : J r P N ds fin ⟨c.sl, obR c [c.sl.get 10 t], c.td⟩) : J r P N ds fin c := by
  refine ⟨hk.1, fun S wl M0 hH M ρ f w ha => ?_⟩
  have hu : RelVs M ρ [c.sl.get 10 t] [f t] := by
    simp only [RelVs]
    exact ⟨_, _, rfl, ha.sl t (nb_lt ht), rfl⟩
  cases hx' : argsOf (obGet c.ob) [c.sl.get 10 t] with
  | none => simp [xsOf, hx'] at hx
  | some p =>
    obtain ⟨xs, wr⟩ := p
    obtain ⟨M', r0, o0, _⟩ := argsOf_sound ha.ow hu hx'
    rw [wrO_of] at o0
    have e : obR c [c.sl.get 10 t] = obWr c.ob wr := by unfold obR; rw [hx']
    rw [e] at hk
    exact hk.2 S wl M0 hH M' ρ f w ⟨o0, ha.ok, fun t ht => RelV.mono r0 _ (ha.sl t ht)⟩
end
/-! ### Bytes -/
def toI (b : UInt8) : Int := (b.toNat : Int)
theorem map_byteD {f : Int → List Dat} (hf : ∀ x, f x = [.int .u8 x]) (s : List UInt8) : (s.map toI).map f = s.map byteD := by
  rw [List.map_map]
  refine List.map_congr_left fun b _ => ?_
  simp only [Function.comp, hf]
  rfl
theorem ams {f : Int → List Dat} (hf : ∀ x, f x = [.int .u8 x]) {l k : List Int} {s : List UInt8} (h : app l (s.map toI) = some k) : app (l.map f) (s.map byteD) = some (k.map f) := by
  rw [← map_byteD hf]; exact am h
theorem amsd {f : Int → List Dat} (hf : ∀ x, f x = [.int .u8 x]) {l k : List Int} {s : List UInt8} {n : Nat} (h : app (l.drop n) (s.map toI) = some k) : app ((l.map f).drop n) (s.map byteD) = some (k.map f) := by
  rw [← map_byteD hf]; exact amd h
def ustr (l : List Int) (j : Nat) (m : Int) : Option (List UInt8) := bif decide (0 < m) && decide (j + m.toNat ≤ l.length) && decide (m ≤ 2147483648) then some (((l.drop j).take m.toNat).map fun x => x.toNat.toUInt8) else none
theorem strD_map {f : Int → List Dat} (hf : ∀ x, f x = [.int .u8 x]) : ∀ (l : List Int), strD (l.map f) = some (l.map fun x => x.toNat.toUInt8)
  | [] => rfl
  | x :: l => by rw [List.map_cons, hf, strD, strD_map hf l]; rfl
theorem usm {f : Int → List Dat} (hf : ∀ x, f x = [.int .u8 x]) {l : List Int} {j : Nat} {m : Int} {s : List UInt8} (h : ustr l j m = some s) : usd (l.map f) j m = some [.str s] := by
  unfold ustr at h
  unfold usd
  rw [List.length_map]
  cases hb : (decide (0 < m) && decide (j + m.toNat ≤ l.length) && decide (m ≤ 2147483648)) with
  | false => rw [hb] at h; cases h
  | true =>
    rw [hb, cond_true] at h
    cases h
    rw [cond_true, ← List.map_drop, ← List.map_take, strD_map hf]
theorem callX_noEscape {P : Program} {g : FuncId} {fn : Func} (hf : P.funcs[g]? = some fn) (hn : (fn.name == "runtime.NumGoroutine") = false) (hb : fn.body.isNone = true) (hx : (Extern.findNext fn).isNone = true) (he : Extern.find fn = some Extern.AbiNoEscape.same) (v : V) : CallX P g [v] v := by
  intro M ρ vals hr
  simp only [RelVs] at hr
  obtain ⟨u, us, rfl, h1, rfl⟩ := hr
  have hx' : Extern.findNext fn = none := by simpa using hx
  refine ⟨u, h1, fun w => ?_⟩
  rw [run_callFunc_extern hf hn hb hx' he]
  rfl
end Go.Proofs.YtilfjfpemjfalaaGreatDoor.Kx
