/- The evaluator is sound: append, make, literals of slices, stores into elements, indices of values; all operations. -/
import Derived.Test.YtilfjfpemjfalaaGreatDoorRi
namespace Go.Proofs.YtilfjfpemjfalaaGreatDoor.Kx
open Go Go.RowKit
section
variable {r : Option Nat} {P : Program} {a : Act} {w wl : World} {S : Hand} {M0 M : Mem} {ρ : Rho} {ob : Nat → Option IObj} {ev : Operand → V} {d : Nat} {ty : TypeId} {op : Op}

/-! ### append -/
theorem app_grow (t t2 e : TypeId) (i : TypeInfo) (z : Value) (ht : P.underlying t = some (.slice e)) (ht2 : P.underlying t2 = some (.slice e) ∨ P.underlying t2 = some .string) (hi : P.info? e = some i) (hz : i.zero = some z) {p : Option Addr} {xv : Value} {n cap m : Nat} {olds news : List Value} {w : World} (hxl : Builtin.lenOf xv = pure m)
    (hfo : (Builtin.firstCells i.size n (.slice p n cap)).run P w.drew = .ok olds.toArray w.drew) (hf : (Builtin.firstCells i.size m xv).run P w.drew = .ok news.toArray w.drew)
    (hg : cap < n + m) (h63 : ((n + m : Nat) : Int) ≤ 9223372036854775807) (hfit : Builtin.nextslicecap (n + m) cap * i.bytes ≤ 281474976710656) :
    (Builtin.append_ #[t, t2] ty #[.slice p n cap, xv]).run P w =
      .ok (.slice (some ⟨w.heap.size, 0, none⟩) (n + m) (grownCap w (n + m) cap e)) (w.drew.alloc (.cells ([] ++ ((olds ++ news) ++ (Builtin.zeroCells z.cells (grownCap w (n + m) cap e - (n + m))).toList)).toArray e)) := by
  have hn : ¬ (n + m ≤ cap) := by omega
  have h63' : ¬ (9223372036854775807 < ((n : Int) + (m : Int))) := by omega
  have h48' : ¬ (281474976710656 < Builtin.nextslicecap (n + m) cap * i.bytes) := by omega
  rcases ht2 with ht2 | ht2
  · simp [Builtin.append_, run_underlying ht, run_underlying ht2, sizeOf, typeInfo, zeroValue, hi, hz, hxl, hn, h63', h48', Question.forced, hf, hfo, newRow, grownCap]
    congr 2
    apply Array.ext'
    simp
  · simp [Builtin.append_, run_underlying ht, run_underlying ht2, sizeOf, typeInfo, zeroValue, hi, hz, hxl, hn, h63', h48', Question.forced, hf, hfo, newRow, grownCap]
    congr 2
    apply Array.ext'
    simp
theorem app_room (t t2 e : TypeId) (i : TypeInfo) (ht : P.underlying t = some (.slice e)) (ht2 : P.underlying t2 = some (.slice e) ∨ P.underlying t2 = some .string) (hi : P.info? e = some i) {xv : Value} {b o n cap m : Nat} {news : List Value} {cur : Array Value} {w : World} (hw : w.heap[b]? = some (.cells cur e (0, 0)))
    (hxl : Builtin.lenOf xv = pure m) (hf : (Builtin.firstCells i.size m xv).run P w = .ok news.toArray w) (h1 : ∀ u ∈ news, u.oneCell' = true) (hg : n + m ≤ cap) (hl : o + n * i.size + news.length ≤ cur.size) :
    (Builtin.append_ #[t, t2] ty #[.slice (some ⟨b, o, none⟩) n cap, xv]).run P w = .ok (.slice (some ⟨b, o, none⟩) (n + m) cap) (w.setRow b (setAt cur.toList (o + n * i.size) news).toArray) := by
  have hst := run_storeCells_at P b (o + n * i.size) e news 0 cur w hw (by omega) h1
  simp only [Nat.add_zero] at hst
  rcases ht2 with ht2 | ht2 <;> simp [Builtin.append_, run_underlying ht, run_underlying ht2, sizeOf, typeInfo, hi, hxl, hg, hf, add_zero_off, hst, setAt]
theorem app_none (t t2 e : TypeId) (i : TypeInfo) (ht : P.underlying t = some (.slice e)) (ht2 : P.underlying t2 = some (.slice e) ∨ P.underlying t2 = some .string) (hi : P.info? e = some i) {p : Option Addr} {xv : Value} {n cap : Nat} {w : World} (hxl : Builtin.lenOf xv = pure 0) (hf : (Builtin.firstCells i.size 0 xv).run P w = .ok (List.toArray []) w) (hg : n ≤ cap) :
    (Builtin.append_ #[t, t2] ty #[.slice p n cap, xv]).run P w = .ok (.slice p n cap) w := by
  rcases ht2 with ht2 | ht2 <;> cases p <;> simp [Builtin.append_, run_underlying ht, run_underlying ht2, sizeOf, typeInfo, hi, hxl, hg, hf, storeCells]

/-- The cells of a frozen slice. -/
theorem firstCells_ro {n : Nat} {es : List (List Dat)} {u : Value} (hs : Sits M w) (h : RelD M (.sl n es) u) : ∃ q c news, u = .slice q es.length c ∧ es.length ≤ c ∧ (∀ w', w'.heap = w.heap → (Builtin.firstCells n es.length (.slice q es.length c)).run P w' = .ok (List.toArray news) w') ∧ rL (rDs n) M news es := by
  cases h with
  | sl _ _ q c b o us hcap ha hc hss hr =>
    have key : ∀ (k : Nat) (es' : List (List Dat)), (∀ i cs, es'[i]? = some cs → es[k + i]? = some cs) → k + es'.length = es.length →
        ∃ news : List Value, news.length = es'.length * n ∧ rL (rDs n) M news es' ∧ ∀ j u, news[j]? = some u → w.cell? ⟨b, o + k * n + j, none⟩ = some u := by
      intro k es' 
      induction es' generalizing k with
      | nil => intro _ _; exact ⟨[], by simp, rL_nil, fun j u h => by simp at h⟩
      | cons x xs ih =>
        intro hx hk
        have h0 := hx 0 x rfl
        simp only [List.length_cons, Nat.add_zero] at hk h0
        obtain ⟨l1, l2⟩ := hss _ _ h0
        obtain ⟨news, e1, e2, e3⟩ := ih (k + 1) (fun i cs hi => by rw [Nat.add_assoc, Nat.add_comm 1]; exact hx (i + 1) cs (by simpa using hi)) (by omega)
        have hrel : RelDs M x (us k) := RelDs.of_get (by omega) (fun q c u h1 h2 => hr _ q x c u h0 h1 h2)
        refine ⟨us k ++ news, by rw [List.length_append, e1, l2, List.length_cons, Nat.add_mul]; omega, ⟨us k, news, rfl, ⟨l1, hrel⟩, e2⟩, fun j u hj => ?_⟩
        rcases Nat.lt_or_ge j (us k).length with hjl | hjl
        · rw [List.getElem?_append_left hjl] at hj
          exact (hc k (by omega)).cell hs hj
        · rw [List.getElem?_append_right hjl] at hj
          have := e3 _ u hj
          rw [Nat.add_mul] at this
          rw [← this]
          congr 2
          omega
    obtain ⟨news, e1, e2, e3⟩ := key 0 es (fun i cs hi => by simpa using hi) (by simp)
    refine ⟨q, c, news, rfl, hcap, fun w' hw' => ?_, e2⟩
    by_cases hne : es = []
    · subst hne
      have : news = [] := List.eq_nil_of_length_eq_zero (by simpa using e1)
      subst this
      cases q <;> simp [Builtin.firstCells, loadCells, loadCellsFrom]
    · rw [ha hne]
      refine run_firstCells_some (P := P) w' n es.length ⟨b, o, none⟩ es.length c news e1 (fun j v hj => ?_)
      have := e3 j v hj
      rw [add_zero_off]
      simp only [Nat.zero_mul, Nat.add_zero] at this
      rw [← this]
      unfold World.cell?
      rw [hw']

theorem run_appendOp {s x : Operand} {t t2 : TypeId} {vs vx : Value} (hs : a.eval s = vs) (hx : a.eval x = vx) {u : Value} {w' : World} (hr : ∀ ty, (Builtin.append_ #[t, t2] ty #[vs, vx]).run P w = .ok u w') :
    Run P a (.call { callee := .builtin .append, args := #[s, x], argTypes := #[t, t2] }) w u w' := by
  intro d ty pos aft g
  simp [execOp, resolve, invoke, builtin, hs, hx, hr]
theorem rL_split {n : Nat} {us : List Value} {es : List (List Dat)} (h : rL (rDs n) M us es) (k : Nat) : rL (rDs n) M (us.drop (k * n)) (es.drop k) := rL_drop h k
theorem grown_cells (i : TypeInfo) {z : Value} {n m g : Nat} (hzs : z.cells.size = n) : (Builtin.zeroCells z.cells (g - m)).toList.length = (g - m) * n := by
  rw [Array.length_toList, size_zeroCells, hzs]
/-- A new buffer after an append that did not find room. -/
theorem buf_grown {e : TypeId} {n m G : Nat} {us : List Value} {es : List (List Dat)} {zs : List Value} {g b : Nat} (hr : rL (rDs n) M us es) (hz : zs.length = (G - m) * n) (hm : es.length = m) (hG : m ≤ G) (hmax : G ≤ maxLen) (hb : S b ∨ wl.heap.size ≤ b) (hM : M b = none) {w' : World}
    (hw : w'.heap[b]? = some (.cells ([] ++ (us ++ zs)).toArray e (0, 0))) : ObjOk S wl M ρ w' ⟨b, 0, G, n, m, g, false⟩ (.buf g e n es) := by
  refine ⟨rfl, rfl, rfl, hm.symm, hG, hmax, fun _ => ⟨⟨hb, fun _ => hM, fun c hc => by rw [show M b = none from hM] at hc; cases hc⟩, [], us, zs, hw, by simp, ?_, hr⟩⟩
  rw [List.length_append, rL_len hr, hz, hm]
  have e1 : (rDs n).n = n := rfl
  rw [e1, ← Nat.add_mul]
  congr 1
  show m + (G - m) = G
  omega
theorem app_bound {α : Type} {x y z : List α} (h : app x y = some z) : x ++ y = z ∧ x.length + y.length ≤ 2147483648 := by
  unfold app at h
  cases hb : decide (x.length + y.length ≤ 2147483648) with
  | true => rw [hb] at h; cases h; exact ⟨rfl, of_decide_eq_true hb⟩
  | false => rw [hb] at h; cases h

theorem info_of {e : TypeId} {n by_ : Nat} {zs : List Value} (hsz : sizeT P e = some n) (hby : bytesT P e = some by_) (hzt : zeroT P e = some zs) : ∃ i, P.info? e = some i ∧ i.size = n ∧ i.bytes = by_ ∧ ∃ z, i.zero = some z ∧ z.cells.toList = zs := by
  unfold sizeT at hsz
  unfold bytesT at hby
  unfold zeroT at hzt
  cases hi : P.info? e with
  | none => rw [hi] at hsz; cases hsz
  | some i =>
    rw [hi] at hsz hby hzt
    simp at hsz hby
    cases hz : i.zero with
    | none => simp [hz] at hzt
    | some z => simp [hz] at hzt; exact ⟨i, rfl, hsz, hby, z, hz, hzt⟩
/-- An object that has no block yet. -/
theorem Ow.ghost (h : Ow S wl M0 M ρ ob w) {d : Nat} (hd : ob d = none) (i : Inf) (x : IObj) (hx : ∀ ρ', ObjOk S wl M ρ' w i x) (hl : ¬ live i x) :
    Rle M M ρ (updO ρ d i) ∧ Ow S wl M0 M (updO ρ d i) (updO ob d x) w := by
  have hρ := h.ob_none hd
  have hr : Rle M M ρ (updO ρ d i) := ⟨M.le_refl, fun r j hj => by
    have : r ≠ d := fun e => by rw [e, hρ] at hj; cases hj
    exact ⟨j, by rw [updO_ne _ _ this]; exact hj, Nat.le_refl _, fun _ => rfl, fun _ => rfl⟩⟩
  refine ⟨hr, h.size, h.os, h.tape, h.output, h.old, h.sits, h.le, h.gl, h.new, ?_, ?_, ?_, fun r i hb hi => by obtain ⟨j, h1, h2⟩ := h.held r i hb hi; obtain ⟨k, h3, h4⟩ := hr.ext r j h1; exact ⟨k, h3, h2.trans h4⟩⟩
  · intro r y hy
    by_cases e : r = d
    · subst e
      rw [updO_same] at hy; cases hy
      exact ⟨i, updO_same _ _ _, hx _⟩
    · rw [updO_ne _ _ e] at hy
      obtain ⟨j, h1, h2⟩ := h.own r y hy
      exact ⟨j, by rw [updO_ne _ _ e]; exact h1, h2.mono hr (fun _ => rfl) (fun _ => rfl)⟩
  · intro r j hj
    by_cases e : r = d
    · subst e; exact ⟨x, updO_same _ _ _⟩
    · rw [updO_ne _ _ e] at hj ⊢; exact h.dom r j hj
  · intro r r' y y' j j' h1 h2 h3 h4 l1 l2 hbb
    have n1 : r ≠ d := fun e => by subst e; rw [updO_same] at h1 h3; cases h1; cases h3; exact hl l1
    have n2 : r' ≠ d := fun e => by subst e; rw [updO_same] at h2 h4; cases h2; cases h4; exact hl l2
    rw [updO_ne _ _ n1] at h1 h3; rw [updO_ne _ _ n2] at h2 h4
    exact h.inj r r' y y' j j' h1 h2 h3 h4 l1 l2 hbb
theorem mk_suf {q g off : Nat} {i : Inf} {p : Option Addr} (hi : ρ q = some i) (hg : i.g = g) (ho : off ≤ i.n) (hp : off < i.tot → p = some ⟨i.b, (i.base + off) * i.sz, none⟩) : RelV M ρ (.suf q g off) (.slice p (i.n - off) (i.tot - off)) := by
  simp only [RelV]
  exact ⟨i, hi, by omega, rfl, fun _ => ⟨ho, p, rfl, hp⟩⟩
section
variable {t t2 e : TypeId} {i : TypeInfo} {z : Value} {s x : Operand} {es2 : List (List Dat)} {xv : Value} {news : List Value}
theorem app_fits {i : TypeInfo} (hb : i.bytes ≤ 4096) {k cap : Nat} (hk : k ≤ 2147483648) (hc : cap < k) : Builtin.nextslicecap k cap * i.bytes ≤ 281474976710656 := by
  have := nextslicecap_le hc
  have : Builtin.nextslicecap k cap * i.bytes ≤ 4294967296 * 4096 := Nat.mul_le_mul (by omega) hb
  omega
theorem rL_nil_eq {n : Nat} {us : List Value} (h : rL (rDs n) M us []) : us = [] := h
theorem app_new (h : Ow S wl M0 M ρ ob w) (ht : P.underlying t = some (.slice e)) (hi : P.info? e = some i) (hz : i.zero = some z) (hzs : z.cells.size = i.size) (hb : i.bytes ≤ 4096) {p : Option Addr} (hp : a.eval s = .slice p 0 0)
    (ht2 : P.underlying t2 = some (.slice e) ∨ P.underlying t2 = some .string) (hxe : a.eval x = xv) (hxl : Builtin.lenOf xv = pure es2.length) (hfc : ∀ w', w'.heap = w.heap → (Builtin.firstCells i.size es2.length xv).run P w' = .ok (List.toArray news) w') (hrn : rL (rDs i.size) M news es2) (hd : ob d = none) (hbnd : es2.length ≤ 2147483648) :
    EffV r P a (.call { callee := .builtin .append, args := #[s, x], argTypes := #[t, t2] }) S wl M0 M ρ ob w (.suf d 0 0) [(d, .buf 0 e i.size es2)] := by
  by_cases h0 : es2.length = 0
  · have hnil : es2 = [] := List.eq_nil_of_length_eq_zero h0
    subst hnil
    obtain ⟨h5, h6⟩ := h.ghost hd ⟨0, 0, 0, i.size, 0, 0, false⟩ (.buf 0 e i.size []) (fun _ => ⟨rfl, rfl, rfl, rfl, Nat.le_refl _, Nat.zero_le _, fun h => absurd h (Nat.lt_irrefl _)⟩) (fun h => absurd h (Nat.lt_irrefl _))
    refine Eff.of_run (run_appendOp hp hxe (fun ty => app_none t t2 e i ht ht2 hi hxl (by have := hfc w rfl; rw [rL_nil_eq hrn] at this; exact this) (Nat.le_refl 0))) rfl ⟨M, _, h5, h6, ?_⟩
    exact mk_suf (i := ⟨0, 0, 0, i.size, 0, 0, false⟩) (updO_same _ _ _) rfl (Nat.le_refl _) (fun h => absurd h (Nat.lt_irrefl _))
  · have hgr : ∀ ty, _ := fun ty => app_grow (ty := ty) (P := P) t t2 e i z ht ht2 hi hz (p := p) (xv := xv) (n := 0) (cap := 0) (m := es2.length) (olds := []) (news := news) (w := w) hxl (by cases p <;> simp [Builtin.firstCells, loadCells, loadCellsFrom]) (hfc _ rfl) (by omega) (by omega) (by rw [Nat.zero_add]; exact app_fits hb hbnd (by omega))
    have hG := grownCap_ge w (0 + es2.length) 0 e
    have hm : grownCap w (0 + es2.length) 0 e ≤ maxLen := grownCap_le_maxLen w _ _ _ (by unfold maxLen; omega)
    obtain ⟨h5, h6⟩ := h.drew.alloc hd _ ⟨w.heap.size, 0, grownCap w (0 + es2.length) 0 e, i.size, 0 + es2.length, 0, false⟩ (.buf 0 e i.size es2) (by simp) (fun ρ' _ hM => buf_grown (e := e) (us := [] ++ news) (by simpa using hrn) (grown_cells i hzs) (by omega) hG hm (.inr h.size) (by simpa using hM) (World.alloc_heap_new w.drew _))
    refine Eff.of_run (run_appendOp hp hxe hgr) rfl ⟨M, _, h5, h6, ?_⟩
    have := mk_suf (M := M) (p := some ⟨w.heap.size, 0, none⟩) (off := 0) (updO_same ρ d ⟨w.heap.size, 0, grownCap w (0 + es2.length) 0 e, i.size, 0 + es2.length, 0, false⟩) rfl (Nat.zero_le _) (fun _ => by simp)
    simpa using this

theorem pre_len {n : Nat} {us : List Value} {es : List (List Dat)} (h : rL (rDs n) M us es) {off : Nat} (ho : off ≤ es.length) : us.length = es.length * n ∧ off * n ≤ us.length := by
  have := rL_len h
  have e1 : (rDs n).n = n := rfl
  rw [e1] at this
  exact ⟨this, by rw [this]; exact Nat.mul_le_mul_right _ ho⟩
theorem mineB_next {S : Hand} {wl : World} {M : Mem} {i i' : Inf} {g sz : Nat} (h : MineB S wl M i g) (hs : i.sz = sz) (hn : i.base + i.n ≤ i'.base + i'.n) (hb : i'.b = i.b := by rfl) (hz : i'.sz = i.sz := by rfl) : MineB S wl M i' (g + 1) := by
  unfold MineB
  rw [hb, hz]
  refine ⟨h.1, fun hg => h.2.1 (by simp only [Nat.blt_eq] at hg ⊢; omega), fun c hc => Nat.le_trans (h.2.2 c hc) (Nat.mul_le_mul_right _ hn)⟩
theorem app_own (h : Ow S wl M0 M ρ ob w) (ht : P.underlying t = some (.slice e)) (hi : P.info? e = some i) (hz : i.zero = some z) (hzs : z.cells.size = i.size) (h1 : 1 ≤ i.size) (hb : i.bytes ≤ 4096) {rr g off : Nat} {es : List (List Dat)} (hr : ob rr = some (.buf g e i.size es)) (hs : RelV M ρ (.suf rr g off) (a.eval s))
    (ht2 : P.underlying t2 = some (.slice e) ∨ P.underlying t2 = some .string) (hxe : a.eval x = xv) (hxl : Builtin.lenOf xv = pure es2.length) (hfc : ∀ w', w'.heap = w.heap → (Builtin.firstCells i.size es2.length xv).run P w' = .ok (List.toArray news) w') (hrn : rL (rDs i.size) M news es2) (hbnd : (es.drop off).length + es2.length ≤ 2147483648) :
    EffV r P a (.call { callee := .builtin .append, args := #[s, x], argTypes := #[t, t2] }) S wl M0 M ρ ob w (.suf rr (g + 1) 0) [(rr, .buf (g + 1) e i.size (es.drop off ++ es2))] := by
  obtain ⟨f, hf, _, hu⟩ := relV_suf hs
  obtain ⟨hfix, hgg, hsz2, hn, htot, hmax, hh⟩ := h.buf_heap hr hf
  obtain ⟨ho, p, hu, hp⟩ := hu hgg.symm
  rw [List.length_drop] at hbnd
  have hnl : news.length = es2.length * i.size := by rw [rL_len hrn]; rfl
  by_cases h0 : es2.length = 0
  · have hnil : es2 = [] := List.eq_nil_of_length_eq_zero h0
    subst hnil
    obtain ⟨h5, h6⟩ := h.turn (w' := w) hr hf ⟨f.b, f.base + off, f.tot - off, f.sz, f.n - off, g + 1, false⟩ (.buf (g + 1) e i.size (es.drop off)) (fun _ _ _ => rfl) (Nat.le_refl _) rfl rfl rfl (fun _ c hc => h.sits _ c hc) ⟨by simp only; omega, fun e => by simp only at e; omega, fun e => by rw [hfix] at e; cases e⟩ (fun hl => .inl ⟨by simp only [live] at hl ⊢; omega, rfl⟩) (fun ρ' hle _ => by
      refine ⟨rfl, rfl, hsz2, by rw [List.length_drop, hn], by simp only; omega, by simp only; omega, fun hp0 => ?_⟩
      obtain ⟨hm, pre, us, sp, hw, hpre, hl, hrel⟩ := hh (by simp only at hp0; omega)
      obtain ⟨e1, e2⟩ := pre_len hrel (off := off) (by omega)
      refine ⟨mineB_next hm hsz2 (by simp only; omega), pre ++ us.take (off * i.size), us.drop (off * i.size), sp, ?_, ?_, ?_, rL_drop hrel off⟩
      · rw [List.append_assoc, ← List.append_assoc (us.take _), List.take_append_drop]; exact hw
      · rw [List.length_append, List.length_take, hpre, Nat.min_eq_left e2, ← Nat.add_mul]
      · rw [List.length_append, List.length_drop]
        rw [List.length_append] at hl
        rw [Nat.sub_mul]; omega)
    refine Eff.of_run (run_appendOp hu hxe (fun ty => app_none t t2 e i ht ht2 hi hxl (by have := hfc w rfl; rw [rL_nil_eq hrn] at this; exact this) (by omega))) rfl ⟨M, _, h5, by simpa [wrO] using h6, ?_⟩
    have := mk_suf (M := M) (p := p) (off := 0) (updO_same ρ rr ⟨f.b, f.base + off, f.tot - off, f.sz, f.n - off, g + 1, false⟩) rfl (Nat.zero_le _) (fun hlt => by simp only at hlt ⊢; rw [hp (by omega), Nat.add_zero])
    simpa using this
  · by_cases hroom : f.n - off + es2.length ≤ f.tot - off
    · obtain ⟨hm, pre, us, sp, hw, hpre, hl, hrel⟩ := hh (by omega)
      obtain ⟨e1, e2⟩ := pre_len hrel (off := off) (by omega)
      have hp := hp (by omega)
      subst hp
      have e3 : (f.base + off) * f.sz + (f.n - off) * i.size = (pre ++ us).length := by rw [List.length_append, hpre, e1, ← hn, hsz2, ← Nat.add_mul, ← Nat.add_mul]; congr 1; omega
      have e4 : news.length ≤ sp.length := by
        rw [List.length_append, e1, ← hn] at hl
        have : (f.n + es2.length) * i.size ≤ f.tot * i.size := Nat.mul_le_mul_right _ (by omega)
        rw [Nat.add_mul] at this
        omega
      have hrun : ∀ ty, _ := fun ty => app_room (ty := ty) (P := P) t t2 e i ht ht2 hi (xv := xv) (m := es2.length) hw hxl (hfc w rfl) (rL_plain hrn) hroom (o := (f.base + off) * f.sz) (by rw [e3]; simp; omega)
      have e5 : setAt (pre ++ (us ++ sp)).toArray.toList ((f.base + off) * f.sz + (f.n - off) * i.size) news = (pre ++ us.take (off * i.size)) ++ ((us.drop (off * i.size) ++ news) ++ sp.drop news.length) := by
        rw [e3]
        unfold setAt
        simp only [List.toList_toArray]
        rw [← List.append_assoc pre us sp, List.take_left, ← List.drop_drop, List.drop_left]
        simp only [List.append_assoc]
        rw [← List.append_assoc (us.take _), List.take_append_drop]
      obtain ⟨h5, h6⟩ := h.turn (w' := w.setRow f.b (setAt (pre ++ (us ++ sp)).toArray.toList ((f.base + off) * f.sz + (f.n - off) * i.size) news).toArray) hr hf ⟨f.b, f.base + off, f.tot - off, f.sz, f.n - off + es2.length, g + 1, false⟩ (.buf (g + 1) e i.size (es.drop off ++ es2))
        (fun k _ hk => setRow_other w f.b k _ (hk (by simp only [live]; omega))) (by simp) rfl rfl rfl (fun _ c hc => by
          obtain ⟨c', e', z', q1, q2⟩ := h.sits _ c hc
          rw [hw] at q1; cases q1
          refine ⟨_, e, (0, 0), setRow_heap w f.b _ _ e _ hw, fun j v hj => ?_⟩
          have hjc : j < c.size := (Array.getElem?_eq_some_iff.1 hj).1
          have hb1 := hm.2.2 c hc
          have hjl : j < (pre ++ us).length := by rw [List.length_append, hpre, e1, ← hn, ← Nat.add_mul, ← hsz2]; omega
          have hold := q2 j v hj
          rw [e5, ← List.append_assoc, ← List.append_assoc, List.append_assoc pre, List.take_append_drop]
          simp only [List.getElem?_toArray] at hold ⊢
          rw [← List.append_assoc, List.getElem?_append_left hjl] at hold
          rw [List.append_assoc, List.getElem?_append_left hjl]
          exact hold) ⟨by simp only; omega, fun e => by simp only at e; omega, fun e => by rw [hfix] at e; cases e⟩ (fun hl => .inl ⟨by simp only [live] at hl ⊢; omega, rfl⟩) (fun ρ' hle _ => by
        refine ⟨rfl, rfl, hsz2, by rw [List.length_append, List.length_drop, hn], by simp only; omega, by simp only; omega, fun hp0 => ?_⟩
        refine ⟨mineB_next hm hsz2 (by simp only; omega), pre ++ us.take (off * i.size), us.drop (off * i.size) ++ news, sp.drop news.length, ?_, ?_, ?_, rL_append (rL_drop hrel off) hrn⟩
        · rw [← e5]; exact setRow_heap w f.b _ _ e _ hw
        · rw [List.length_append, List.length_take, hpre, Nat.min_eq_left e2, ← Nat.add_mul]
        · simp only [List.length_append, List.length_drop]
          rw [List.length_append] at hl
          rw [Nat.sub_mul]; omega)
      refine Eff.of_run (run_appendOp hu hxe hrun) rfl ⟨M, _, h5, by simpa [wrO] using h6, ?_⟩
      have := mk_suf (M := M) (p := some ⟨f.b, (f.base + off) * f.sz, none⟩) (off := 0) (updO_same ρ rr ⟨f.b, f.base + off, f.tot - off, f.sz, f.n - off + es2.length, g + 1, false⟩) rfl (Nat.zero_le _) (fun hlt => by simp only [Nat.add_zero])
      simpa using this
    · have hold : ∀ w', w'.heap = w.heap → ∃ olds, (Builtin.firstCells i.size (f.n - off) (.slice p (f.n - off) (f.tot - off))).run P w' = .ok (List.toArray olds) w' ∧ rL (rDs i.size) M olds (es.drop off) := fun w' hw' => by
        by_cases hlt : off < f.n
        · obtain ⟨hm, pre, us, sp, hw, hpre, hl, hrel⟩ := hh (by omega)
          obtain ⟨e1, e2⟩ := pre_len hrel (off := off) (by omega)
          rw [hp (by omega)]
          refine ⟨us.drop (off * i.size), run_firstCells_some (P := P) w' i.size (f.n - off) _ _ _ _ (by rw [List.length_drop, e1, ← hn, Nat.sub_mul]) (fun j v hj => ?_), rL_drop hrel off⟩
          rw [add_zero_off]
          unfold World.cell?
          rw [hw', hw]
          rw [List.getElem?_drop] at hj
          have hjl := (List.getElem?_eq_some_iff.1 hj).1
          have e6 : (f.base + off) * f.sz + j = pre.length + (off * i.size + j) := by rw [hpre, hsz2, Nat.add_mul]; omega
          simp only [Option.isSome_none, Bool.false_eq_true, if_false, List.getElem?_toArray]
          rw [e6, List.getElem?_append_right (by omega), Nat.add_sub_cancel_left, List.getElem?_append_left hjl]
          exact hj
        · have : es.drop off = [] := List.drop_of_length_le (by omega)
          rw [this]
          refine ⟨[], ?_, rL_nil⟩
          have e7 : f.n - off = 0 := by omega
          rw [e7]
          cases p <;> simp [Builtin.firstCells, loadCells, loadCellsFrom]
      obtain ⟨olds, ho1, ho2⟩ := hold w.drew rfl
      have hgr : ∀ ty, _ := fun ty => app_grow (ty := ty) (P := P) t t2 e i z ht ht2 hi hz (p := p) (xv := xv) (n := f.n - off) (cap := f.tot - off) (m := es2.length) (olds := olds) (news := news) (w := w) hxl ho1 (hfc _ rfl) (by omega) (by omega) (app_fits hb (by omega) (by omega))
      have hG := grownCap_ge w (f.n - off + es2.length) (f.tot - off) e
      have hm : grownCap w (f.n - off + es2.length) (f.tot - off) e ≤ maxLen := grownCap_le_maxLen w _ _ _ (by unfold maxLen; omega)
      obtain ⟨h5, h6⟩ := h.drew.turn (w' := w.drew.alloc (.cells ([] ++ ((olds ++ news) ++ (Builtin.zeroCells z.cells (grownCap w (f.n - off + es2.length) (f.tot - off) e - (f.n - off + es2.length))).toList)).toArray e)) hr hf ⟨w.heap.size, 0, grownCap w (f.n - off + es2.length) (f.tot - off) e, i.size, f.n - off + es2.length, g + 1, false⟩ (.buf (g + 1) e i.size (es.drop off ++ es2))
        (fun k hk _ => Below.heap_alloc _ _ _ hk) (by simp) rfl rfl rfl (fun _ c hc => by
          have := h.sits.lt hc
          rw [show (w.drew.alloc _).heap[f.b]? = w.drew.heap[f.b]? from Below.heap_alloc _ _ _ this]
          exact h.sits _ c hc) ⟨by simp only; omega, fun e => by simp only at e; omega, fun e => by rw [hfix] at e; cases e⟩ (fun _ => .inr (Nat.le_refl _)) (fun ρ' _ hM =>
          buf_grown (rL_append ho2 hrn) (grown_cells i hzs) (by rw [List.length_append, List.length_drop, hn]) hG hm (.inr h.size) (hM _ (Nat.le_refl _)) (World.alloc_heap_new w.drew _))
      refine Eff.of_run (run_appendOp hu hxe hgr) rfl ⟨M, _, h5, by simpa [wrO] using h6, ?_⟩
      have := mk_suf (M := M) (p := some ⟨w.heap.size, 0, none⟩) (off := 0) (updO_same ρ rr ⟨w.heap.size, 0, grownCap w (f.n - off + es2.length) (f.tot - off) e, i.size, f.n - off + es2.length, g + 1, false⟩) rfl (Nat.zero_le _) (fun _ => by simp)
      simpa using this
end

theorem bytes_rel (s : List UInt8) : rL (rDs 1) M (s.map fun b => Value.int .u8 b.toNat) (s.map byteD) := by
  induction s with
  | nil => exact rL_nil
  | cons b s ih =>
    refine ⟨[.int .u8 b.toNat], _, rfl, ⟨rfl, ?_⟩, ih⟩
    exact ⟨_, _, rfl, .int _ _, rfl⟩
theorem news_rel {n : Nat} {t t2 e : TypeId} {vx : V} {u : Value} {es2 : List (List Dat)} {wr : Wr} (h : Ow S wl M0 M ρ ob w) (ht : P.underlying t = some (.slice e)) (hx : RelV M ρ vx u) (hnew : newsOf P ob n t t2 vx = some (es2, wr)) :
    ∃ M1 news, Rle M M1 ρ ρ ∧ Ow S wl M0 M1 ρ (wrO ob wr) w ∧ (P.underlying t2 = some (.slice e) ∨ P.underlying t2 = some .string) ∧ Builtin.lenOf u = pure es2.length ∧ (∀ w', w'.heap = w.heap → (Builtin.firstCells n es2.length u).run P w' = .ok (List.toArray news) w') ∧ rL (rDs n) M1 news es2 := by
  unfold newsOf at hnew
  split at hnew
  · rename_i htt
    obtain rfl := Nat.eq_of_beq_eq_true htt
    split at hnew
    · rename_i sz es wr' hd
      split at hnew
      · rename_i hsz'; cases hnew
        obtain rfl := Nat.eq_of_beq_eq_true hsz'
        obtain ⟨M1, r1, o1, d1⟩ := datOf_sound h hx hd
        obtain ⟨q, c, news, hxe, hcap, hfc, hrn⟩ := firstCells_ro (P := P) o1.sits d1
        subst hxe
        exact ⟨M1, news, r1, o1, .inl ht, rfl, hfc, hrn⟩
      · cases hnew
    · cases hnew
  · split at hnew
    · rename_i s hs
      split at hnew
      · rename_i hn; cases hnew
        obtain rfl := Nat.eq_of_beq_eq_true hn
        obtain rfl := relV_str hx
        refine ⟨M, _, Rle.refl _ _, h, .inr hs, by simp [strv, Builtin.lenOf]; rfl, fun w' _ => ?_, bytes_rel s⟩
        simp [strv, Builtin.firstCells]
      · cases hnew
    · cases hnew
theorem eff_append {c : Call} {s x : Operand} {t t2 : TypeId} (h : Ow S wl M0 M ρ ob w) (hev : ∀ x, RelV M ρ (ev x) (a.eval x)) (hc : c = { callee := .builtin .append, args := #[s, x], argTypes := #[t, t2] }) :
    (evAppend P ob d t t2 (ev s) (ev x)).Good (EffV r P a (.call c) S wl M0 M ρ ob w) := by
  subst hc
  have hs0 := hev s
  have hx := hev x
  generalize ev s = vs at *
  generalize ev x = vx at *
  unfold evAppend
  split
  · rename_i e he
    have ht := elemT_spec he
    split
    · rename_i n by_ zs hsz hby hzt
      split
      · rename_i es2 wr hnew h1 hb h3
        have h1 := nb_le h1; have hb := nb_le hb; have h3 := Nat.eq_of_beq_eq_true h3
        obtain ⟨i, hi, hsize, hbytes, z, hz, hzc⟩ := info_of hsz hby hzt
        have hzs : z.cells.size = n := by rw [← Array.length_toList, hzc, h3]
        subst hsize; subst hbytes
        obtain ⟨M1, news, r1, o1, ht2, hxl, hfc, hrn⟩ := news_rel h ht hx hnew
        split
        · split
          · rename_i hd
            intro es' hes
            obtain ⟨he', hbnd⟩ := app_bound hes
            rw [List.nil_append] at he'
            subst he'
            simp only [RelV] at hs0
            obtain ⟨p, hp⟩ := hs0
            exact EffV.after r1 (app_new o1 ht hi hz hzs hb hp ht2 rfl hxl hfc hrn hd (by simpa using hbnd))
          · trivial
        · split
          · rename_i g' e' sz es hr
            split
            · rename_i hg hszz hee
              obtain rfl := Nat.eq_of_beq_eq_true hg
              obtain rfl := Nat.eq_of_beq_eq_true hszz
              obtain rfl := Nat.eq_of_beq_eq_true hee
              intro es' hes
              obtain ⟨he', hbnd⟩ := app_bound hes
              subst he'
              exact EffV.after r1 (app_own o1 ht hi hz hzs h1 hb hr (RelV.mono r1 _ hs0) ht2 rfl hxl hfc hrn hbnd)
            · trivial
          · trivial
        · trivial
      · trivial
    · trivial
  · trivial
end
end Go.Proofs.YtilfjfpemjfalaaGreatDoor.Kx
