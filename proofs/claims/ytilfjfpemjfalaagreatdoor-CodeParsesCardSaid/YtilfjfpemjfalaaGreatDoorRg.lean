/- The evaluator is sound: own slices, frozen ones. -/
import Derived.Test.YtilfjfpemjfalaaGreatDoorRf
namespace Go.Proofs.YtilfjfpemjfalaaGreatDoor.Kx
open Go Go.RowKit
section
variable {r : Option Nat} {P : Program} {a : Act} {w wl : World} {S : Hand} {M0 M : Mem} {ρ : Rho} {ob : Nat → Option IObj} {ev : Operand → V} {d : Nat} {ty : TypeId} {op : Op}

theorem rL_piece {sz : Nat} {us : List Value} {es : List (List Dat)} (h : rL (rDs sz) M us es) {j : Nat} {cs : List Dat} (hj : es[j]? = some cs) :
    cs.length = sz ∧ ((us.drop (j * sz)).take sz).length = sz ∧ RelDs M cs ((us.drop (j * sz)).take sz) := by
  obtain ⟨u, hu, hc⟩ := rL_get h hj
  have hul : u.length = sz := (rDs sz).len hu
  have e1 : (rDs sz).n = sz := rfl
  rw [e1] at hc
  have : (us.drop (j * sz)).take sz = u := by
    apply List.ext_getElem?
    intro q
    by_cases hq : q < sz
    · rw [List.getElem?_take_of_lt hq, List.getElem?_drop, hc q (by omega)]
    · rw [List.getElem?_eq_none (by simp; omega), List.getElem?_eq_none (by omega)]
  rw [this]
  exact ⟨hu.1, hul, hu.2⟩

theorem relD_nil {sz : Nat} {p : Option Addr} {cap : Nat} : RelD M (.sl sz []) (.slice p 0 cap) :=
  .sl sz [] p cap 0 0 (fun _ => []) (Nat.zero_le _) (fun h => absurd rfl h) (fun i hi => absurd hi (by simp)) (fun i cs h => by simp at h) (fun i j cs c u h => by simp at h)
theorem relD_of {b base sz off : Nat} {pre us sp : List Value} {es es' : List (List Dat)} {p : Option Addr} {cap : Nat} {c : Array Value} (hM : M b = some c) (hP : Pre (pre ++ (us ++ sp)).toArray c) (hp : pre.length = base * sz) (hr : rL (rDs sz) M us es)
    (hcap : es'.length ≤ cap) (ha : es' ≠ [] → p = some ⟨b, (base + off) * sz, none⟩) (he : ∀ j, j < es'.length → es'[j]? = es[off + j]?) : RelD M (.sl sz es') (.slice p es'.length cap) := by
  have get : ∀ j cs, es'[j]? = some cs → es[off + j]? = some cs := fun j cs hj => by rw [← he j (List.getElem?_eq_some_iff.1 hj).1]; exact hj
  refine .sl sz es' p cap b ((base + off) * sz) (fun j => (us.drop ((off + j) * sz)).take sz) hcap ha (fun j hj => ⟨_, hM, fun q hq => ?_⟩) (fun j cs hj => ?_) (fun j q cs c u hj hc hu => ?_)
  · have hq' := hq
    simp only [List.length_take, List.length_drop] at hq
    have key : (pre ++ (us ++ sp)).toArray[(base + off) * sz + j * sz + q]? = ((us.drop ((off + j) * sz)).take sz)[q]? := by
      rw [List.getElem?_take_of_lt (by omega), List.getElem?_drop]
      have e2 : (base + off) * sz + j * sz + q = pre.length + ((off + j) * sz + q) := by rw [hp]; simp only [Nat.add_mul]; omega
      simp only [List.getElem?_toArray, e2]
      rw [List.getElem?_append_right (by omega), Nat.add_sub_cancel_left, List.getElem?_append_left (by omega)]
    rw [List.getElem?_eq_getElem hq'] at key ⊢
    exact hP _ _ key
  · have := rL_piece hr (get j cs hj); exact ⟨this.1, this.2.1⟩
  · exact (rL_piece hr (get j cs hj)).2.2.get hc hu

theorem Ow.freeze (h : Ow S wl M0 M ρ ob w) {q g e sz : Nat} {es : List (List Dat)} (hr : ob q = some (.buf g e sz es)) : ∃ M', Rle M M' ρ ρ ∧ Ow S wl M0 M' ρ (updO ob q (.fzs g sz es)) w := by
  obtain ⟨i, hi, hok⟩ := h.own q _ hr
  obtain ⟨hf, hg, hs, hn, ht, hx, hh⟩ := hok
  have same : ∀ (M' : Mem) (hle : M.le M') (hsit : Sits M' w) (hnew : ∀ b c, M' b = some c → b < wl.heap.size → M0 b = some c ∨ S b)
      (hother : ∀ b, M' b ≠ M b → 0 < i.tot ∧ b = i.b) (hq : ObjOk S wl M' ρ w i (.fzs g sz es)), Rle M M' ρ ρ ∧ Ow S wl M0 M' ρ (updO ob q (.fzs g sz es)) w := fun M' hle hsit hnew hother hq => by
    have hR : Rle M M' ρ ρ := ⟨hle, fun _ j hj => ⟨j, hj, Nat.le_refl _, fun _ => rfl, fun _ => rfl⟩⟩
    refine ⟨hR, h.size, h.os, h.tape, h.output, h.old, hsit, Mem.le_trans h.le hle, h.gl.mono hle, hnew, ?_, ?_, ?_, h.held⟩
    · intro z y hy
      by_cases ez : z = q
      · subst ez; rw [updO_same] at hy; cases hy; exact ⟨i, hi, hq⟩
      · rw [updO_ne _ _ ez] at hy
        obtain ⟨j, h1, h2⟩ := h.own z y hy
        refine ⟨j, h1, h2.mono hR (fun hl => ?_) (fun _ => rfl)⟩
        by_cases hb : M' j.b = M j.b
        · exact hb
        · obtain ⟨h3, h4⟩ := hother _ hb
          exact absurd (h.inj z q y _ j i hy hr h1 hi hl h3 h4) ez
    · intro z j hj
      by_cases ez : z = q
      · subst ez; exact ⟨_, updO_same _ _ _⟩
      · rw [updO_ne _ _ ez]; exact h.dom z j hj
    · intro z z' y y' j j' h1 h2 h3 h4 l1 l2 hb
      have n1 : z ≠ q := fun ez => by subst ez; rw [updO_same] at h1; cases h1; exact l1.elim
      have n2 : z' ≠ q := fun ez => by subst ez; rw [updO_same] at h2; cases h2; exact l2.elim
      rw [updO_ne _ _ n1] at h1; rw [updO_ne _ _ n2] at h2
      exact h.inj z z' y y' j j' h1 h2 h3 h4 l1 l2 hb
  by_cases hp : 0 < i.tot
  · obtain ⟨hm, pre, us, sp, hw, hpre, hl, hrel⟩ := hh hp
    let M' : Mem := fun b => if b = i.b then some (pre ++ (us ++ sp)).toArray else M b
    have hMi : M' i.b = some (pre ++ (us ++ sp)).toArray := if_pos rfl
    have hle : M.le M' := fun b c hc => by
      by_cases e : b = i.b
      · subst e
        obtain ⟨c', e', z', h1, h2⟩ := h.sits _ c hc
        rw [hw] at h1; cases h1
        exact ⟨_, hMi, h2⟩
      · exact ⟨c, by simp only [M', if_neg e]; exact hc, Pre.refl c⟩
    refine ⟨M', same M' hle ?_ ?_ ?_ ⟨hf, hg, hs, hn, ht, fun _ => ⟨_, pre, us, sp, hMi, Pre.refl _, hpre, rL_mono hle hrel⟩⟩⟩
    · intro b c hc
      by_cases e : b = i.b
      · subst e; rw [hMi] at hc; cases hc; exact ⟨_, _, _, hw, Pre.refl _⟩
      · simp only [M', if_neg e] at hc; exact h.sits b c hc
    · intro b c hc hlt
      by_cases e : b = i.b
      · subst e
        rcases hm.1 with hs | hs
        · exact .inr hs
        · omega
      · simp only [M', if_neg e] at hc; exact h.new b c hc hlt
    · intro b hb
      by_cases e : b = i.b
      · exact ⟨hp, e⟩
      · simp only [M', if_neg e] at hb; exact absurd rfl hb
  · exact ⟨M, same M M.le_refl h.sits h.new (fun b hb => absurd rfl hb) ⟨hf, hg, hs, hn, ht, fun h' => absurd h' hp⟩⟩

theorem relV_suf {q g off : Nat} {u : Value} (h : RelV M ρ (.suf q g off) u) : ∃ i, ρ q = some i ∧ g ≤ i.g ∧ (g = i.g → off ≤ i.n ∧ ∃ p, u = .slice p (i.n - off) (i.tot - off) ∧ (off < i.tot → p = some ⟨i.b, (i.base + off) * i.sz, none⟩)) := by
  simp only [RelV] at h; obtain ⟨i, h1, h2, _, h3⟩ := h; exact ⟨i, h1, h2, h3⟩
theorem relV_osl {q g off len : Nat} {u : Value} (h : RelV M ρ (.osl q g off len) u) : ∃ i, ρ q = some i ∧ g ≤ i.g ∧ (g = i.g → off + len ≤ i.n ∧ ∃ p, u = .slice p len (i.tot - off) ∧ (off < i.tot → p = some ⟨i.b, (i.base + off) * i.sz, none⟩)) := by
  simp only [RelV] at h; obtain ⟨i, h1, h2, _, h3⟩ := h; exact ⟨i, h1, h2, h3⟩
theorem Ow.fzs_at (h : Ow S wl M0 M ρ ob w) {q g sz : Nat} {es : List (List Dat)} (hr : ob q = some (.fzs g sz es)) {i : Inf} (hi : ρ q = some i) :
    i.g = g ∧ i.sz = sz ∧ i.n = es.length ∧ i.n ≤ i.tot ∧ (0 < i.tot → ∃ c pre us sp, M i.b = some c ∧ Pre (pre ++ (us ++ sp)).toArray c ∧ pre.length = i.base * sz ∧ rL (rDs sz) M us es) := by
  obtain ⟨j, h1, h2⟩ := h.own q _ hr
  rw [hi] at h1; cases h1
  exact h2.2
/-- A frozen own slice is a datum. -/
theorem fz_suf (h : Ow S wl M0 M ρ ob w) {q g off sz : Nat} {es : List (List Dat)} {u : Value} (hr : ob q = some (.fzs g sz es)) (hv : RelV M ρ (.suf q g off) u) : RelD M (.sl sz (es.drop off)) u := by
  obtain ⟨i, hi, _, hu⟩ := relV_suf hv
  obtain ⟨hg, hsz, hn, ht, hh⟩ := h.fzs_at hr hi
  obtain ⟨ho, p, rfl, hp⟩ := hu hg.symm
  have hl : i.n - off = (es.drop off).length := by rw [List.length_drop, hn]
  rw [hl]
  by_cases h0 : 0 < i.tot
  · obtain ⟨c, pre, us, sp, hM, hP, hpre, hrel⟩ := hh h0
    refine relD_of (off := off) hM hP hpre hrel (by rw [List.length_drop]; omega) (fun hne => ?_) (fun j _ => by rw [List.getElem?_drop])
    have : 0 < (es.drop off).length := List.length_pos_iff.2 hne
    rw [hp (by omega), hsz]
  · have : es = [] := List.eq_nil_of_length_eq_zero (by omega)
    subst this
    simp only [List.drop_nil, List.length_nil]
    exact relD_nil
theorem fz_osl (h : Ow S wl M0 M ρ ob w) {q g off len sz : Nat} {es : List (List Dat)} {u : Value} (hr : ob q = some (.fzs g sz es)) (hv : RelV M ρ (.osl q g off len) u) : RelD M (.sl sz ((es.drop off).take len)) u := by
  obtain ⟨i, hi, _, hu⟩ := relV_osl hv
  obtain ⟨hg, hsz, hn, ht, hh⟩ := h.fzs_at hr hi
  obtain ⟨ho, p, rfl, hp⟩ := hu hg.symm
  have hl : ((es.drop off).take len).length = len := by rw [List.length_take, List.length_drop]; omega
  by_cases h0 : 0 < i.tot
  · obtain ⟨c, pre, us, sp, hM, hP, hpre, hrel⟩ := hh h0
    have := relD_of (es' := (es.drop off).take len) (p := p) (cap := i.tot - off) (off := off) hM hP hpre hrel (by rw [hl]; omega) (fun hne => ?_) (fun j hj => by rw [List.getElem?_take_of_lt (by rw [hl] at hj; exact hj), List.getElem?_drop])
    · rwa [hl] at this
    · have : 0 < ((es.drop off).take len).length := List.length_pos_iff.2 hne
      rw [hp (by omega), hsz]
  · have : es = [] := List.eq_nil_of_length_eq_zero (by omega)
    subst this
    have : len = 0 := by simp at hl; omega
    subst this
    simp only [List.drop_nil, List.take_nil]
    exact relD_nil

theorem datOf_sound (h : Ow S wl M0 M ρ ob w) {v : V} {u : Value} {x : Dat} {wr : Wr} (hv : RelV M ρ v u) (hd : datOf ob v = some (x, wr)) : ∃ M', Rle M M' ρ ρ ∧ Ow S wl M0 M' ρ (wrO ob wr) w ∧ RelD M' x u := by
  have triv : ∀ {x : Dat}, RelD M x u → ∃ M', Rle M M' ρ ρ ∧ Ow S wl M0 M' ρ (wrO ob []) w ∧ RelD M' x u := fun hx => ⟨M, Rle.refl _ _, h, hx⟩
  unfold datOf at hd
  split at hd
  · cases hd; exact triv (relV_d hv)
  · cases hd
    simp only [RelV] at hv
    obtain ⟨a, rfl⟩ := hv
    exact triv relD_nil
  · split at hd
    · rename_i q g off g' e sz es hr
      split at hd
      · rename_i hg
        cases hd
        obtain rfl := Nat.eq_of_beq_eq_true hg
        obtain ⟨M', h1, h2⟩ := h.freeze hr
        exact ⟨M', h1, h2, fz_suf h2 (updO_same _ _ _) (RelV.mono h1 _ hv)⟩
      · cases hd
    · rename_i q g off g' sz es hr
      split at hd
      · rename_i hg
        cases hd
        obtain rfl := Nat.eq_of_beq_eq_true hg
        exact triv (fz_suf h hr hv)
      · cases hd
    · cases hd
  · split at hd
    · rename_i q g off len g' e sz es hr
      split at hd
      · rename_i hg
        cases hd
        obtain rfl := Nat.eq_of_beq_eq_true hg
        obtain ⟨M', h1, h2⟩ := h.freeze hr
        exact ⟨M', h1, h2, fz_osl h2 (updO_same _ _ _) (RelV.mono h1 _ hv)⟩
      · cases hd
    · rename_i q g off len g' sz es hr
      split at hd
      · rename_i hg
        cases hd
        obtain rfl := Nat.eq_of_beq_eq_true hg
        exact triv (fz_osl h hr hv)
      · cases hd
    · cases hd
  · cases hd
    simp only [RelV, RelVs] at hv
    obtain ⟨fs, cs, rfl, rfl, rfl⟩ := hv
    exact triv (.fnc _)
  · cases hd

theorem Rle.trans {A B C : Mem} {ρ1 ρ2 ρ3 : Rho} (h : Rle A B ρ1 ρ2) (k : Rle B C ρ2 ρ3) : Rle A C ρ1 ρ3 :=
  ⟨Mem.le_trans h.le k.le, fun r i hi => by
    obtain ⟨j, h1, h2⟩ := h.ext r i hi
    obtain ⟨l, k1, k2⟩ := k.ext r j h1
    exact ⟨l, k1, h2.trans k2⟩⟩
theorem wrO_append (ob : Nat → Option IObj) : ∀ (x y : Wr), wrO ob (x ++ y) = wrO (wrO ob x) y
  | [], _ => rfl
  | (d, o) :: x, y => wrO_append (updO ob d o) x y
theorem datsOf_sound : ∀ {vs : List V} {ob : Nat → Option IObj} {M : Mem} (h : Ow S wl M0 M ρ ob w) {us : List Value} {xs : List Dat} {wr : Wr}, RelVs M ρ vs us → datsOf ob vs = some (xs, wr) → ∃ M', Rle M M' ρ ρ ∧ Ow S wl M0 M' ρ (wrO ob wr) w ∧ RelDs M' xs us
  | [], ob, M, h, us, xs, wr, hv, hd => by
    simp only [datsOf, Option.some.injEq, Prod.mk.injEq] at hd
    obtain ⟨rfl, rfl⟩ := hd
    simp only [RelVs] at hv
    subst hv
    exact ⟨M, Rle.refl _ _, h, rfl⟩
  | v :: vs, ob, M, h, us, xs, wr, hv, hd => by
    simp only [RelVs] at hv
    obtain ⟨u, us', rfl, h1, h2⟩ := hv
    unfold datsOf at hd
    split at hd
    · rename_i x wr1 he
      obtain ⟨M1, a1, a2, a3⟩ := datOf_sound h h1 he
      split at hd
      · rename_i ys wr2 hs
        cases hd
        obtain ⟨M2, b1, b2, b3⟩ := datsOf_sound a2 (RelVs.mono a1 _ h2) hs
        exact ⟨M2, a1.trans b1, by rw [wrO_append]; exact b2, u, us', rfl, a3.mono b1.le, b3⟩
      · cases hd
    · cases hd
theorem Ow.freezeBox {te : TypeId} (h : Ow S wl M0 M ρ ob w) {q : Nat} {cs : List V} (hr : ob q = some (.box te cs)) : ∃ M', Rle M M' ρ ρ ∧ Ow S wl M0 M' ρ (updO ob q (.fzb cs)) w := by
  obtain ⟨i, hi, hok⟩ := h.own q _ hr
  obtain ⟨hf, hm, us, e, hw, hrel, h1, _⟩ := hok
  let M' : Mem := fun b => if b = i.b then some us.toArray else M b
  have hMi : M' i.b = some us.toArray := if_pos rfl
  have hle : M.le M' := fun b c hc => by
    have : b ≠ i.b := fun e => by rw [e, hm.2] at hc; cases hc
    exact ⟨c, by simp only [M', if_neg this]; exact hc, Pre.refl c⟩
  have hR : Rle M M' ρ ρ := ⟨hle, fun _ j hj => ⟨j, hj, Nat.le_refl _, fun _ => rfl, fun _ => rfl⟩⟩
  refine ⟨M', hR, h.size, h.os, h.tape, h.output, h.old, ?_, Mem.le_trans h.le hle, h.gl.mono hle, ?_, ?_, ?_, ?_, h.held⟩
  · intro b c hc
    by_cases e : b = i.b
    · subst e; rw [hMi] at hc; cases hc; exact ⟨_, _, _, hw, Pre.refl _⟩
    · simp only [M', if_neg e] at hc; exact h.sits b c hc
  · intro b c hc hlt
    by_cases e : b = i.b
    · subst e
      rcases hm.1 with hs | hs
      · exact .inr hs
      · omega
    · simp only [M', if_neg e] at hc; exact h.new b c hc hlt
  · intro z y hy
    by_cases ez : z = q
    · subst ez; rw [updO_same] at hy; cases hy; exact ⟨i, hi, hf, _, us, hMi, Pre.refl _, RelVs.mono hR _ hrel, h1⟩
    · rw [updO_ne _ _ ez] at hy
      obtain ⟨j, h1, h2⟩ := h.own z y hy
      refine ⟨j, h1, h2.mono hR (fun hl => ?_) (fun _ => rfl)⟩
      by_cases hb : j.b = i.b
      · exact absurd (h.inj z q y _ j i hy hr h1 hi hl trivial hb) ez
      · simp only [M', if_neg hb]
  · intro z j hj
    by_cases ez : z = q
    · subst ez; exact ⟨_, updO_same _ _ _⟩
    · rw [updO_ne _ _ ez]; exact h.dom z j hj
  · intro z z' y y' j j' h1 h2 h3 h4 l1 l2 hb
    have n1 : z ≠ q := fun ez => by subst ez; rw [updO_same] at h1; cases h1; exact l1.elim
    have n2 : z' ≠ q := fun ez => by subst ez; rw [updO_same] at h2; cases h2; exact l2.elim
    rw [updO_ne _ _ n1] at h1; rw [updO_ne _ _ n2] at h2
    exact h.inj z z' y y' j j' h1 h2 h3 h4 l1 l2 hb
theorem maskDs_sound : ∀ {vs : List V} {ob : Nat → Option IObj} {M : Mem} (_h : Ow S wl M0 M ρ ob w) {us : List Value}, RelVs M ρ vs us → (∀ u ∈ us, u.oneCell' = true) → ∃ M', Rle M M' ρ ρ ∧ Ow S wl M0 M' ρ (wrO ob (maskDs ob vs).2) w ∧ RelDs M' (maskDs ob vs).1 us
  | [], ob, M, h, us, hv, _ => by
    simp only [RelVs] at hv
    subst hv
    exact ⟨M, Rle.refl _ _, h, rfl⟩
  | v :: vs, ob, M, h, us, hv, h1 => by
    simp only [RelVs] at hv
    obtain ⟨u, us', rfl, h2, h3⟩ := hv
    have h4 : ∀ u ∈ us', u.oneCell' = true := fun x hx => h1 x (List.mem_cons_of_mem _ hx)
    unfold maskDs
    split
    · rename_i x wr hd
      obtain ⟨M1, a1, a2, a3⟩ := datOf_sound h h2 hd
      obtain ⟨M2, b1, b2, b3⟩ := maskDs_sound a2 (RelVs.mono a1 _ h3) h4
      exact ⟨M2, a1.trans b1, by rw [wrO_append]; exact b2, u, us', rfl, a3.mono b1.le, b3⟩
    · obtain ⟨M2, b1, b2, b3⟩ := maskDs_sound h h3 h4
      exact ⟨M2, b1, b2, u, us', rfl, .any _ (h1 u List.mem_cons_self), b3⟩
theorem argC_sound (h : Ow S wl M0 M ρ ob w) {v x : V} {u : Value} {wr : Wr} (hv : RelV M ρ v u) (hd : argC ob v = some (x, wr)) : ∃ M', Rle M M' ρ ρ ∧ Ow S wl M0 M' ρ (wrO ob wr) w ∧ ∀ ρ', RelV M' ρ' x u := by
  have dat : ∀ (z : Option (Dat × Wr)), datOf ob v = z → (match z with | some (x, wr) => some (V.d x, wr) | none => none) = some (x, wr) → ∃ M', Rle M M' ρ ρ ∧ Ow S wl M0 M' ρ (wrO ob wr) w ∧ ∀ ρ', RelV M' ρ' x u := fun z hz hd => by
    cases z with
    | none => cases hd
    | some p => obtain ⟨y, wr1⟩ := p; cases hd; obtain ⟨M', h1, h2, h3⟩ := datOf_sound h hv hz; exact ⟨M', h1, h2, fun ρ' => by simp only [RelV]; exact h3⟩
  unfold argC at hd
  split at hd
  · rename_i cs
    split at hd
    · rename_i xs wr1 he
      cases hd
      obtain ⟨us, rfl, hr⟩ := relV_agg hv
      obtain ⟨M', h1, h2, h3⟩ := datsOf_sound h hr he
      exact ⟨M', h1, h2, fun ρ' => mk_agg (RelVs.dV h3)⟩
    · cases hd
  · cases hd
    obtain ⟨b, o, us, h1, h2, h3⟩ := relV_rp hv
    exact ⟨M, Rle.refl _ _, h, fun ρ' => by simp only [RelV]; exact ⟨b, o, us, h1, h2, h3⟩⟩
  · rename_i rr k
    obtain ⟨i, hi, _, rfl⟩ := relV_ptr hv
    have fin : ∀ {M1 : Mem} {ob1 : Nat → Option IObj} {cs : List V} {wr0 : Wr}, Rle M M1 ρ ρ → Ow S wl M0 M1 ρ ob1 w → ob1 rr = some (.fzb cs) → ob1 = wrO ob wr0 → ∃ M', Rle M M' ρ ρ ∧ Ow S wl M0 M' ρ (wrO ob (wr0 ++ (maskDs ob1 cs).2)) w ∧ ∀ ρ', RelV M' ρ' (.rp (maskDs ob1 cs).1 k) (.pointer (some ⟨i.b, k, none⟩)) := fun {M1 ob1 cs wr0} r1 o1 hr e0 => by
      obtain ⟨j, hj, _, c0, us, hM, hP, hrel, h1⟩ := o1.own rr _ hr
      rw [hi] at hj; cases hj
      obtain ⟨M2, b1, b2, b3⟩ := maskDs_sound o1 hrel h1
      refine ⟨M2, r1.trans b1, by rw [wrO_append, ← e0]; exact b2, fun ρ' => ?_⟩
      simp only [RelV]
      obtain ⟨c', hM', hP'⟩ := b1.le _ _ hM
      exact ⟨i.b, 0, us, by simp, ⟨c', hM', fun j hj => by rw [List.getElem?_eq_getElem hj]; exact hP' _ _ (hP _ _ (by simp [hj]))⟩, b3⟩
    split at hd
    · rename_i cs hr
      cases hd
      have := fin (wr0 := []) (Rle.refl _ _) h hr rfl
      simpa using this
    · rename_i cs hr
      cases hd
      obtain ⟨M1, r1, o1⟩ := h.freezeBox hr
      exact fin (wr0 := [(rr, .fzb cs)]) r1 o1 (updO_same _ _ _) rfl
    · cases hd
  · exact dat _ rfl hd
theorem argCs_sound : ∀ {vs : List V} {ob : Nat → Option IObj} {M : Mem} (_h : Ow S wl M0 M ρ ob w) {us : List Value} {xs : List V} {wr : Wr}, RelVs M ρ vs us → argCs ob vs = some (xs, wr) → ∃ M', Rle M M' ρ ρ ∧ Ow S wl M0 M' ρ (wrO ob wr) w ∧ ∀ ρ', RelVs M' ρ' xs us
  | [], ob, M, h, us, xs, wr, hv, hd => by
    simp only [argCs, Option.some.injEq, Prod.mk.injEq] at hd
    obtain ⟨rfl, rfl⟩ := hd
    simp only [RelVs] at hv
    subst hv
    exact ⟨M, Rle.refl _ _, h, fun _ => by simp only [RelVs]⟩
  | v :: vs, ob, M, h, us, xs, wr, hv, hd => by
    simp only [RelVs] at hv
    obtain ⟨u, us', rfl, h1, h2⟩ := hv
    unfold argCs at hd
    split at hd
    · rename_i x wr1 he
      obtain ⟨M1, a1, a2, a3⟩ := argC_sound h h1 he
      split at hd
      · rename_i ys wr2 hs
        cases hd
        obtain ⟨M2, b1, b2, b3⟩ := argCs_sound a2 (RelVs.mono a1 _ h2) hs
        exact ⟨M2, a1.trans b1, by rw [wrO_append]; exact b2, fun ρ' => by
          simp only [RelVs]
          exact ⟨u, us', rfl, RelV.mono (ρ' := ρ') (ρ := ρ') ⟨b1.le, fun _ j hj => ⟨j, hj, Nat.le_refl _, fun _ => rfl, fun _ => rfl⟩⟩ _ (a3 ρ'), b3 ρ'⟩⟩
      · cases hd
    · cases hd
theorem argOf_sound (h : Ow S wl M0 M ρ ob w) {v x : V} {u : Value} {wr : Wr} (hv : RelV M ρ v u) (hd : argOf ob v = some (x, wr)) : ∃ M', Rle M M' ρ ρ ∧ Ow S wl M0 M' ρ (wrO ob wr) w ∧ ∀ ρ', RelV M' ρ' x u := by
  unfold argOf at hd
  split at hd
  · rename_i f first cap
    simp only [RelV] at hv
    obtain ⟨fs, cs, rfl, hf, hc⟩ := hv
    split at hd
    · cases hd
      simp only [RelVs] at hf hc
      subst hf; subst hc
      exact ⟨M, Rle.refl _ _, h, fun ρ' => by simp only [RelV]; exact .fnc _⟩
    · split at hd
      · rename_i xs wr1 he
        split at hd
        · rename_i ys wr2 he2
          cases hd
          obtain ⟨M1, a1, a2, a3⟩ := argCs_sound h hf he
          obtain ⟨M2, b1, b2, b3⟩ := argCs_sound a2 (RelVs.mono a1 _ hc) he2
          refine ⟨M2, a1.trans b1, by rw [wrO_append]; exact b2, fun ρ' => ?_⟩
          simp only [RelV]
          exact ⟨fs, cs, rfl, RelVs.mono (ρ' := ρ') (ρ := ρ') ⟨b1.le, fun _ j hj => ⟨j, hj, Nat.le_refl _, fun _ => rfl, fun _ => rfl⟩⟩ _ (a3 ρ'), b3 ρ'⟩
        · cases hd
      · cases hd
  · exact argC_sound h hv hd
theorem argsOf_sound : ∀ {vs : List V} {ob : Nat → Option IObj} {M : Mem} (h : Ow S wl M0 M ρ ob w) {us : List Value} {xs : List V} {wr : Wr}, RelVs M ρ vs us → argsOf ob vs = some (xs, wr) → ∃ M', Rle M M' ρ ρ ∧ Ow S wl M0 M' ρ (wrO ob wr) w ∧ ∀ ρ', RelVs M' ρ' xs us
  | [], ob, M, h, us, xs, wr, hv, hd => by
    simp only [argsOf, Option.some.injEq, Prod.mk.injEq] at hd
    obtain ⟨rfl, rfl⟩ := hd
    simp only [RelVs] at hv
    subst hv
    exact ⟨M, Rle.refl _ _, h, fun _ => by simp only [RelVs]⟩
  | v :: vs, ob, M, h, us, xs, wr, hv, hd => by
    simp only [RelVs] at hv
    obtain ⟨u, us', rfl, h1, h2⟩ := hv
    unfold argsOf at hd
    split at hd
    · rename_i x wr1 he
      obtain ⟨M1, a1, a2, a3⟩ := argOf_sound h h1 he
      split at hd
      · rename_i ys wr2 hs
        cases hd
        obtain ⟨M2, b1, b2, b3⟩ := argsOf_sound a2 (RelVs.mono a1 _ h2) hs
        exact ⟨M2, a1.trans b1, by rw [wrO_append]; exact b2, fun ρ' => by
          simp only [RelVs]
          exact ⟨u, us', rfl, RelV.mono (ρ' := ρ') (ρ := ρ') ⟨b1.le, fun _ j hj => ⟨j, hj, Nat.le_refl _, fun _ => rfl, fun _ => rfl⟩⟩ _ (a3 ρ'), b3 ρ'⟩⟩
      · cases hd
    · cases hd
end
end Go.Proofs.YtilfjfpemjfalaaGreatDoor.Kx
