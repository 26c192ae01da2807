/- How values read: what a list of cells says, in a memory that is held for good. -/
import Derived.Test.YtilfjfpemjfalaaGreatDoorKc
namespace Go.Proofs.YtilfjfpemjfalaaGreatDoor.Kx
open Go Go.RowKit

def Cells (M : Mem) (b o : Nat) (vs : List Value) : Prop := ∃ c, M b = some c ∧ ∀ j, j < vs.length → c[o + j]? = vs[j]?
theorem Cells.mono {M M' : Mem} (h : M.le M') {b o : Nat} {vs : List Value} (x : Cells M b o vs) : Cells M' b o vs := by
  obtain ⟨c, hc, hj⟩ := x
  obtain ⟨c', h1, h2⟩ := h b c hc
  refine ⟨c', h1, fun j hlt => ?_⟩
  have := hj j hlt
  rw [List.getElem?_eq_getElem hlt] at this ⊢
  exact h2 _ _ this
theorem Cells.cell {M : Mem} {w : World} (h : Sits M w) {b o j : Nat} {vs : List Value} (x : Cells M b o vs) {v : Value} (hv : vs[j]? = some v) : w.cell? ⟨b, o + j, none⟩ = some v := by
  obtain ⟨c, hc, hj⟩ := x
  have hlt : j < vs.length := (List.getElem?_eq_some_iff.1 hv).1
  exact h.cell hc (by rw [hj j hlt, hv])

/-- A way to read a value as a datum. -/
structure Rep (α : Type) where
  n : Nat
  agg : Bool
  r : Mem → List Value → α → Prop
  len : ∀ {M vs d}, r M vs d → vs.length = n
  mono : ∀ {M M' vs d}, Mem.le M M' → r M vs d → r M' vs d
  plain : ∀ {M vs d}, r M vs d → ∀ v ∈ vs, v.oneCell' = true
  one : agg = false → n = 1

def mkv (agg : Bool) (vs : List Value) : Value := match agg with
  | true => .agg vs.toArray
  | false => vs.headD undef

def Rep.v {α : Type} (R : Rep α) (M : Mem) (v : Value) (d : α) : Prop := ∃ vs, v = mkv R.agg vs ∧ R.r M vs d

theorem Rep.v_mono {α : Type} {R : Rep α} {M M' : Mem} (h : M.le M') {v : Value} {d : α} (x : R.v M v d) : R.v M' v d := by
  obtain ⟨vs, hv, hr⟩ := x
  exact ⟨vs, hv, R.mono h hr⟩

theorem oneCell_cells {v : Value} (h : v.oneCell' = true) : v.cells = #[v] := by
  cases v <;> first | rfl | (simp [Value.oneCell'] at h)

theorem mkv_cells {α : Type} {R : Rep α} {M : Mem} {vs : List Value} {d : α} (h : R.r M vs d) : (mkv R.agg vs).cells = vs.toArray := by
  cases ha : R.agg with
  | true => rfl
  | false =>
    have h1 := R.len h
    rw [R.one ha] at h1
    match vs, h1 with
    | [v], _ => exact oneCell_cells (R.plain h v (by simp))
theorem mkv_one {agg : Bool} {vs : List Value} {n : Nat} (ha : agg = false) (hn : n = 1) (h : vs.length = n) : vs = [mkv agg vs] := by
  subst ha; subst hn
  match vs, h with
  | [v], _ => rfl

def rInt (k : IntKind) : Rep Int where
  n := 1
  agg := false
  r := fun _ vs d => vs = [.int k d]
  len := fun h => by rw [h]; rfl
  mono := fun _ h => h
  plain := fun h v hv => by rw [h] at hv; simp at hv; subst hv; rfl
  one := fun _ => rfl
def rBool : Rep Bool where
  n := 1
  agg := false
  r := fun _ vs d => vs = [.bool d]
  len := fun h => by rw [h]; rfl
  mono := fun _ h => h
  plain := fun h v hv => by rw [h] at hv; simp at hv; subst hv; rfl
  one := fun _ => rfl
def strv (d : List UInt8) : Value := .string ⟨d.toArray⟩
def rStr : Rep (List UInt8) where
  n := 1
  agg := false
  r := fun _ vs d => vs = [strv d]
  len := fun h => by rw [h]; rfl
  mono := fun _ h => h
  plain := fun h v hv => by rw [h] at hv; simp at hv; subst hv; rfl
  one := fun _ => rfl

theorem rInt_r {k : IntKind} {M : Mem} {vs : List Value} {d : Int} (h : (rInt k).r M vs d) : vs = [.int k d] := h
theorem rBool_r {M : Mem} {vs : List Value} {d : Bool} (h : rBool.r M vs d) : vs = [.bool d] := h
theorem rStr_r {M : Mem} {vs : List Value} {d : List UInt8} (h : rStr.r M vs d) : vs = [strv d] := h
theorem rInt_v {k : IntKind} {M : Mem} {v : Value} {d : Int} (h : (rInt k).v M v d) : v = .int k d := by
  obtain ⟨vs, rfl, rfl⟩ := h; rfl
theorem rBool_v {M : Mem} {v : Value} {d : Bool} (h : rBool.v M v d) : v = .bool d := by
  obtain ⟨vs, rfl, rfl⟩ := h; rfl
theorem rStr_v {M : Mem} {v : Value} {d : List UInt8} (h : rStr.v M v d) : v = strv d := by
  obtain ⟨vs, rfl, rfl⟩ := h; rfl
theorem mk_rInt {k : IntKind} {M : Mem} {d : Int} : (rInt k).r M [.int k d] d := rfl
theorem mk_rBool {M : Mem} {d : Bool} : rBool.r M [.bool d] d := rfl
theorem mk_rStr {M : Mem} {d : List UInt8} : rStr.r M [strv d] d := rfl

/-- A field of a struct. -/
structure FRep (α : Type) where
  n : Nat
  r : Mem → List Value → α → Prop
  len : ∀ {M vs d}, r M vs d → vs.length = n
  mono : ∀ {M M' vs d}, Mem.le M M' → r M vs d → r M' vs d
  plain : ∀ {M vs d}, r M vs d → ∀ v ∈ vs, v.oneCell' = true
def Rep.fld {α β : Type} (R : Rep β) (p : α → β) : FRep α := ⟨R.n, fun M vs d => R.r M vs (p d), fun h => R.len h, fun h x => R.mono h x, fun h => R.plain h⟩

def rF {α : Type} : List (FRep α) → Mem → List Value → α → Prop
  | [], _, vs, _ => vs = []
  | F :: fs, M, vs, d => ∃ v1 v2, vs = v1 ++ v2 ∧ F.r M v1 d ∧ rF fs M v2 d
theorem rF_len {α : Type} : ∀ (fs : List (FRep α)) {M : Mem} {vs : List Value} {d : α}, rF fs M vs d → vs.length = (fs.map FRep.n).sum
  | [], _, _, _, h => by rw [h]; rfl
  | F :: fs, _, _, _, ⟨v1, v2, h, h1, h2⟩ => by rw [h, List.length_append, F.len h1, rF_len fs h2]; simp
theorem rF_mono {α : Type} : ∀ (fs : List (FRep α)) {M M' : Mem} {vs : List Value} {d : α}, M.le M' → rF fs M vs d → rF fs M' vs d
  | [], _, _, _, _, _, h => h
  | F :: fs, _, _, _, _, hm, ⟨v1, v2, h, h1, h2⟩ => ⟨v1, v2, h, F.mono hm h1, rF_mono fs hm h2⟩
theorem rF_plain {α : Type} : ∀ (fs : List (FRep α)) {M : Mem} {vs : List Value} {d : α}, rF fs M vs d → ∀ v ∈ vs, v.oneCell' = true
  | [], _, _, _, h, v, hv => by rw [h] at hv; cases hv
  | F :: fs, _, _, _, ⟨v1, v2, h, h1, h2⟩, v, hv => by
    rw [h] at hv
    rcases List.mem_append.1 hv with hv | hv
    · exact F.plain h1 v hv
    · exact rF_plain fs h2 v hv
def rStruct {α : Type} (fs : List (FRep α)) : Rep α where
  n := (fs.map FRep.n).sum
  agg := true
  r := rF fs
  len := fun h => rF_len fs h
  mono := fun h x => rF_mono fs h x
  plain := fun h => rF_plain fs h
  one := fun h => by cases h

/-- A row of elements. -/
def rL {α : Type} (R : Rep α) (M : Mem) : List Value → List α → Prop
  | vs, [] => vs = []
  | vs, y :: d => ∃ v1 v2, vs = v1 ++ v2 ∧ R.r M v1 y ∧ rL R M v2 d
theorem rL_len {α : Type} {R : Rep α} {M : Mem} : ∀ {d : List α} {vs : List Value}, rL R M vs d → vs.length = d.length * R.n
  | [], _, h => by simp only [rL] at h; rw [h]; simp
  | y :: d, _, h => by
    simp only [rL] at h
    obtain ⟨v1, v2, h, h1, h2⟩ := h
    rw [h, List.length_append, R.len h1, rL_len h2, List.length_cons, Nat.add_mul, Nat.one_mul, Nat.add_comm]
theorem rL_mono {α : Type} {R : Rep α} {M M' : Mem} (hm : M.le M') : ∀ {d : List α} {vs : List Value}, rL R M vs d → rL R M' vs d
  | [], _, h => by simpa [rL] using h
  | y :: d, _, h => by
    simp only [rL] at h ⊢
    obtain ⟨v1, v2, h, h1, h2⟩ := h
    exact ⟨v1, v2, h, R.mono hm h1, rL_mono hm h2⟩
theorem rL_plain {α : Type} {R : Rep α} {M : Mem} : ∀ {d : List α} {vs : List Value}, rL R M vs d → ∀ v ∈ vs, v.oneCell' = true
  | [], _, h, v, hv => by simp only [rL] at h; rw [h] at hv; cases hv
  | y :: d, _, h, v, hv => by
    simp only [rL] at h
    obtain ⟨v1, v2, h, h1, h2⟩ := h
    rw [h] at hv
    rcases List.mem_append.1 hv with hv | hv
    · exact R.plain h1 v hv
    · exact rL_plain h2 v hv
theorem rL_nil {α : Type} {R : Rep α} {M : Mem} : rL R M [] [] := rfl
theorem rL_one {α : Type} {R : Rep α} {M : Mem} {vs : List Value} {y : α} (h : R.r M vs y) : rL R M vs [y] := ⟨vs, [], by simp, h, rfl⟩
theorem rL_append {α : Type} {R : Rep α} {M : Mem} : ∀ {d d' : List α} {vs vs' : List Value}, rL R M vs d → rL R M vs' d' → rL R M (vs ++ vs') (d ++ d')
  | [], _, _, _, h, h' => by simp only [rL] at h; subst h; simpa using h'
  | y :: d, _, _, _, h, h' => by
    simp only [rL] at h
    obtain ⟨v1, v2, rfl, h1, h2⟩ := h
    exact ⟨v1, v2 ++ _, by simp, h1, rL_append h2 h'⟩
/-- The element at i: its cells. -/
theorem rL_get {α : Type} {R : Rep α} {M : Mem} : ∀ {d : List α} {vs : List Value}, rL R M vs d → ∀ {i : Nat} {y : α}, d[i]? = some y → ∃ u, R.r M u y ∧ ∀ j, j < u.length → vs[i * R.n + j]? = u[j]?
  | [], _, _, _, _, hy => by cases hy
  | y :: d, _, h, i, z, hy => by
    simp only [rL] at h
    obtain ⟨v1, v2, rfl, h1, h2⟩ := h
    cases i with
    | zero =>
      simp at hy; subst hy
      exact ⟨v1, h1, fun j hj => by rw [Nat.zero_mul, Nat.zero_add, List.getElem?_append_left hj]⟩
    | succ i =>
      simp only [List.getElem?_cons_succ] at hy
      obtain ⟨u, hu, hj⟩ := rL_get h2 hy
      refine ⟨u, hu, fun j hlt => ?_⟩
      rw [← hj j hlt, List.getElem?_append_right (by rw [R.len h1, Nat.add_mul]; omega), R.len h1, Nat.add_mul]
      congr 1; omega
theorem rL_take {α : Type} {R : Rep α} {M : Mem} : ∀ {d : List α} {vs : List Value}, rL R M vs d → ∀ (k : Nat), rL R M (vs.take (k * R.n)) (d.take k)
  | _, _, _, 0 => by simp [rL]
  | [], _, h, k + 1 => by simp only [rL] at h; subst h; simp [rL]
  | y :: d, _, h, k + 1 => by
    simp only [rL] at h
    obtain ⟨v1, v2, rfl, h1, h2⟩ := h
    refine ⟨v1, v2.take (k * R.n), ?_, h1, rL_take h2 k⟩
    rw [List.take_append, R.len h1, Nat.add_mul, Nat.one_mul, Nat.add_sub_cancel, List.take_of_length_le (by rw [R.len h1]; omega)]
theorem rL_drop {α : Type} {R : Rep α} {M : Mem} : ∀ {d : List α} {vs : List Value}, rL R M vs d → ∀ (k : Nat), rL R M (vs.drop (k * R.n)) (d.drop k)
  | _, _, h, 0 => by simpa using h
  | [], _, h, k + 1 => by simp only [rL] at h; subst h; simp [rL]
  | y :: d, _, h, k + 1 => by
    simp only [rL] at h
    obtain ⟨v1, v2, rfl, h1, h2⟩ := h
    have := rL_drop h2 k
    rw [List.drop_append, R.len h1, Nat.add_mul, Nat.one_mul, Nat.add_sub_cancel, List.drop_of_length_le (by rw [R.len h1]; omega)]
    simpa using this
/-- One element is put in another's place. -/
def setAt (vs : List Value) (o : Nat) (u : List Value) : List Value := vs.take o ++ u ++ vs.drop (o + u.length)
theorem setAt_length (vs : List Value) (o : Nat) (u : List Value) (h : o + u.length ≤ vs.length) : (setAt vs o u).length = vs.length := by
  simp [setAt]; omega
theorem rL_set {α : Type} {R : Rep α} {M : Mem} {d : List α} {vs : List Value} (h : rL R M vs d) {i : Nat} (hi : i < d.length) {u : List Value} {z : α} (hu : R.r M u z) : rL R M (setAt vs (i * R.n) u) (d.set i z) := by
  rw [List.set_eq_take_append_cons_drop, if_pos hi]
  unfold setAt
  rw [List.append_assoc]
  refine rL_append (rL_take h i) ⟨u, _, rfl, hu, ?_⟩
  have := rL_drop h (i + 1)
  rw [Nat.add_mul, Nat.one_mul] at this
  rw [R.len hu]; exact this

/-- An array. -/
def rArr {α : Type} (k : Nat) (R : Rep α) : Rep (List α) where
  n := k * R.n
  agg := true
  r := fun M vs d => d.length = k ∧ rL R M vs d
  len := fun h => by rw [rL_len h.2, h.1]
  mono := fun h x => ⟨x.1, rL_mono h x.2⟩
  plain := fun h => rL_plain h.2
  one := fun h => by cases h

/-- A slice that is only read. -/
def rSl {α : Type} (R : Rep α) : Rep (List α) where
  n := 1
  agg := false
  r := fun M vs d => ∃ a cap, vs = [.slice a d.length cap] ∧ d.length ≤ cap ∧ (d ≠ [] → ∃ b o, a = some ⟨b, o, none⟩ ∧ ∀ i y, d[i]? = some y → ∃ u, R.r M u y ∧ Cells M b (o + i * R.n) u)
  len := fun ⟨_, _, h, _⟩ => by rw [h]; rfl
  mono := fun hm ⟨a, cap, h, h1, h3⟩ => ⟨a, cap, h, h1, fun hd => let ⟨b, o, ha, hi⟩ := h3 hd; ⟨b, o, ha, fun i y hy => let ⟨u, hu, hc⟩ := hi i y hy; ⟨u, R.mono hm hu, hc.mono hm⟩⟩⟩
  plain := fun ⟨_, _, h, _⟩ v hv => by rw [h] at hv; simp at hv; subst hv; rfl
  one := fun _ => rfl
theorem rSl_v {α : Type} {R : Rep α} {M : Mem} {v : Value} {d : List α} (h : (rSl R).v M v d) :
    ∃ a cap, v = .slice a d.length cap ∧ d.length ≤ cap ∧ (d ≠ [] → ∃ b o, a = some ⟨b, o, none⟩ ∧ ∀ i y, d[i]? = some y → ∃ u, R.r M u y ∧ Cells M b (o + i * R.n) u) := by
  obtain ⟨vs, rfl, a, cap, rfl, h⟩ := h
  exact ⟨a, cap, rfl, h⟩
theorem mk_rSl {α : Type} {R : Rep α} {M : Mem} {a : Option Addr} {cap : Nat} {d : List α} (h1 : d.length ≤ cap) (h3 : d ≠ [] → ∃ b o, a = some ⟨b, o, none⟩ ∧ ∀ i y, d[i]? = some y → ∃ u, R.r M u y ∧ Cells M b (o + i * R.n) u) : (rSl R).v M (.slice a d.length cap) d :=
  ⟨_, rfl, a, cap, rfl, h1, h3⟩
theorem rSl_nil {α : Type} {R : Rep α} {M : Mem} : (rSl R).v M (.slice none 0 0) [] := ⟨_, rfl, none, 0, rfl, by simp, fun h => absurd rfl h⟩
theorem rSl_r {α : Type} {R : Rep α} {M : Mem} {vs : List Value} {d : List α} (h : (rSl R).r M vs d) : ∃ a cap, vs = [.slice a d.length cap] ∧ (rSl R).v M (.slice a d.length cap) d := by
  obtain ⟨a, cap, rfl, h1⟩ := h
  exact ⟨a, cap, rfl, _, rfl, a, cap, rfl, h1⟩
theorem mk_slr {α : Type} {R : Rep α} {M : Mem} {a : Option Addr} {n cap : Nat} {d : List α} (h : (rSl R).v M (.slice a n cap) d) : (rSl R).r M [.slice a n cap] d := by
  obtain ⟨vs, hv, a', cap', rfl, h1⟩ := h
  simp only [rSl, mkv, List.headD_cons] at hv
  exact ⟨a', cap', by rw [hv], h1⟩
theorem mk_v1 {α : Type} {R : Rep α} {M : Mem} {v : Value} {d : α} (ha : R.agg = false) (h : R.r M [v] d) : R.v M v d := ⟨[v], by rw [ha]; rfl, h⟩
theorem mk_vn {α : Type} {R : Rep α} {M : Mem} {vs : List Value} {d : α} (ha : R.agg = true) (h : R.r M vs d) : R.v M (.agg vs.toArray) d := ⟨vs, by rw [ha]; rfl, h⟩
theorem v_r {α : Type} {R : Rep α} {M : Mem} {v : Value} {d : α} (h : R.v M v d) : ∃ vs, v = mkv R.agg vs ∧ R.r M vs d := h
end Go.Proofs.YtilfjfpemjfalaaGreatDoor.Kx
