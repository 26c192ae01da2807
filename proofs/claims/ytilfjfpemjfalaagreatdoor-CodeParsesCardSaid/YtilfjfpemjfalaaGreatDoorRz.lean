/- Arguments, as they came in: their data. -/
import Derived.Test.YtilfjfpemjfalaaGreatDoorRy
import GoSem.ClaimChange
import GoSem.ClaimWide
namespace Go.Proofs.YtilfjfpemjfalaaGreatDoor.Kx
open Go Go.RowKit

/-- All that lies in memory. -/
def HeapM (W : World) : Mem := fun b => match W.heap[b]? with | some (.cells c _ _) => some c | _ => none
theorem HeapM_sits (W : World) : Sits (HeapM W) W := fun b c h => by
  unfold HeapM at h
  split at h
  · rename_i c' e z hh; cases h; exact ⟨_, e, z, hh, Pre.refl _⟩
  · cases h
theorem cell_at {W : World} {a : Addr} {v : Value} (h : W.cell? a = some v) : ∃ c, HeapM W a.block = some c ∧ a.spot = none ∧ c[a.off]? = some v := by
  unfold World.cell? at h
  split at h
  · rename_i c e z hh
    split at h
    · cases h
    · rename_i hs
      exact ⟨c, by unfold HeapM; rw [hh], by simpa using hs, h⟩
  · cases h
theorem mapM_get {α β : Type} {f : α → Option β} : ∀ {l : List α} {us : List β}, l.mapM f = some us → us.length = l.length ∧ ∀ (i : Nat) (x : α), l[i]? = some x → ∃ y, us[i]? = some y ∧ f x = some y
  | [], us, h => by simp at h; subst h; exact ⟨rfl, fun i x h => by simp at h⟩
  | a :: l, us, h => by
    rw [List.mapM_cons] at h
    simp only [Option.bind_eq_bind, Option.bind_eq_some_iff, Option.pure_def, Option.some.injEq] at h
    obtain ⟨y, hy, ys, hys, rfl⟩ := h
    obtain ⟨h1, h2⟩ := mapM_get hys
    refine ⟨by simp [h1], fun i x hi => ?_⟩
    cases i with
    | zero => simp at hi; subst hi; exact ⟨y, by simp, hy⟩
    | succ i => simpa using h2 i x (by simpa using hi)
theorem cells_at {W : World} {a : Addr} {n : Nat} {us : List Value} (h : W.cells? 0 a n = some us) : us.length = n ∧ ∀ i, i < n → W.cell? (a.add i) = us[i]? := by
  unfold World.cells? at h
  rw [if_pos (Nat.zero_le _)] at h
  obtain ⟨h1, h2⟩ := mapM_get h
  refine ⟨by simpa using h1, fun i hi => ?_⟩
  obtain ⟨y, hy, hf⟩ := h2 i i (by simp [hi])
  rw [hf, hy]
theorem add_off {a : Addr} (hs : a.spot = none) (n : Nat) : a.add n = ⟨a.block, a.off + n, none⟩ := by
  unfold Addr.add
  split
  · rename_i h; subst h; cases a; simp at hs ⊢; exact hs
  · rfl
theorem add_zero' (a : Addr) : a.add 0 = a := by simp [Addr.add]

/-! ### The shape of data -/
def FitS (F : TypeId → List Dat → Prop) : List Field → List Dat → Prop
  | [], ds => ds = []
  | f :: fs, ds => ∃ x y, ds = x ++ y ∧ F f.type x ∧ FitS F fs y
def FitA (F : List Dat → Prop) : Nat → List Dat → Prop
  | 0, ds => ds = []
  | n + 1, ds => ∃ x y, ds = x ++ y ∧ F x ∧ FitA F n y
def Fit (P : Program) : Nat → TypeId → List Dat → Prop
  | 0, _, _ => False
  | n + 1, t, ds => match P.underlying t with
    | some .bool => ∃ b, ds = [.bool b]
    | some (.int k) => ∃ m, ds = [.int k m] ∧ (Lit.int k m).wf = true
    | some .string => ∃ s, ds = [.str s] ∧ s.length ≤ maxLen
    | some (.slice e) => ∃ es, ds = [.sl (P.cellsOf e) es] ∧ es.length ≤ maxLen ∧ ∀ x ∈ es, Fit P n e x
    | some (.struct fs) => FitS (Fit P n) fs.toList ds
    | some (.array k e) => FitA (Fit P n e) k ds
    | _ => False
def contig (P : Program) (okT : TypeId → Bool) : List Field → Nat → Nat → Bool
  | [], o, tot => Nat.beq o tot
  | f :: fs, o, tot => match Nat.beq f.offset o, okT f.type with | true, true => contig P okT fs (o + P.cellsOf f.type) tot | _, _ => false
/-- Types that are read so. -/
def okT (P : Program) : Nat → TypeId → Bool
  | 0, _ => false
  | n + 1, t => match P.underlying t with
    | some .bool => true
    | some (.int _) => true
    | some .string => true
    | some (.slice e) => match Nat.ble 1 (P.cellsOf e) with | true => okT P n e | false => false
    | some (.struct fs) => contig P (okT P n) fs.toList 0 (P.cellsOf t)
    | some (.array k e) => match Nat.beq (k * P.cellsOf e) (P.cellsOf t) with | true => okT P n e | false => false
    | _ => false
section
variable {H : Type} {enc : TypeId × Value → H} {P : Program} {W : World}
theorem RelDs.split {M : Mem} {a b : List Dat} {us vs : List Value} (h : RelDs M a us) (k : RelDs M b vs) : RelDs M (a ++ b) (us ++ vs) := h.append k
theorem trod_struct {G : TypeId → List Value → Option (DataW H × List MemPlace)} {F : TypeId → List Dat → Prop} {okt : TypeId → Bool} (hG : ∀ t cs x, okt t = true → G t cs = some x → ∃ ds, RelDs (HeapM W) ds cs ∧ F t ds) :
    ∀ (fs : List Field) (o : Nat) (cs : List Value) (xs : List (DataW H × List MemPlace)), contig P okt fs o cs.length = true → fs.mapM (fun f => G f.type ((cs.drop f.offset).take (P.cellsOf f.type))) = some xs → o ≤ cs.length → ∃ ds, RelDs (HeapM W) ds (cs.drop o) ∧ FitS F fs ds
  | [], o, cs, xs, hc, _, _ => by
    have : o = cs.length := Nat.eq_of_beq_eq_true hc
    rw [List.drop_eq_nil_of_le (by omega)]
    exact ⟨[], by simp [RelDs], rfl⟩
  | f :: fs, o, cs, xs, hc, hm, ho => by
    unfold contig at hc
    split at hc
    · rename_i hb hok
      have hb := Nat.eq_of_beq_eq_true hb
      rw [List.mapM_cons] at hm
      simp only [Option.bind_eq_bind, Option.bind_eq_some_iff, Option.pure_def, Option.some.injEq] at hm
      obtain ⟨y, hy, ys, hys, _⟩ := hm
      rw [hb] at hy
      obtain ⟨d1, r1, f1⟩ := hG _ _ _ hok hy
      have hle : o + P.cellsOf f.type ≤ cs.length := by
        have key : ∀ (fs : List Field) (o tot : Nat), contig P okt fs o tot = true → o ≤ tot := fun fs => by
          induction fs with
          | nil => intro o tot h; have := Nat.eq_of_beq_eq_true h; omega
          | cons g gs ih =>
            intro o tot h
            unfold contig at h
            split at h
            · have := ih _ _ h; omega
            · cases h
        exact key fs _ _ hc
      obtain ⟨d2, r2, f2⟩ := trod_struct hG fs (o + P.cellsOf f.type) cs ys hc hys hle
      refine ⟨d1 ++ d2, ?_, d1, d2, rfl, f1, f2⟩
      have e : cs.drop o = (cs.drop o).take (P.cellsOf f.type) ++ cs.drop (o + P.cellsOf f.type) := by
        rw [← List.drop_drop, List.take_append_drop]
      rw [e]
      exact r1.append r2
    · cases hc
theorem trod_array {G : List Value → Option (DataW H × List MemPlace)} {F : List Dat → Prop} {sz : Nat} (hG : ∀ cs x, G cs = some x → ∃ ds, RelDs (HeapM W) ds cs ∧ F ds) :
    ∀ (n j : Nat) (cs : List Value), cs.length = (j + n) * sz → (∀ i, i < n → ∃ x, G ((cs.drop ((j + i) * sz)).take sz) = some x) → ∃ ds, RelDs (HeapM W) ds (cs.drop (j * sz)) ∧ FitA F n ds
  | 0, j, cs, hl, _ => ⟨[], by rw [List.drop_eq_nil_of_le (by rw [hl]; simp)]; simp [RelDs], rfl⟩
  | n + 1, j, cs, hl, h => by
    obtain ⟨x, hx⟩ := h 0 (by omega)
    obtain ⟨d1, r1, f1⟩ := hG _ _ hx
    obtain ⟨d2, r2, f2⟩ := trod_array hG n (j + 1) cs (by rw [hl]; congr 1; omega) (fun i hi => by obtain ⟨y, hy⟩ := h (i + 1) (by omega); exact ⟨y, by rw [show j + 1 + i = j + (i + 1) by omega]; exact hy⟩)
    refine ⟨d1 ++ d2, ?_, d1, d2, rfl, f1, f2⟩
    have e : cs.drop (j * sz) = (cs.drop ((j + 0) * sz)).take sz ++ cs.drop ((j + 1) * sz) := by
      rw [Nat.add_zero, Nat.add_mul, Nat.one_mul, ← List.drop_drop, List.take_append_drop]
    rw [e]
    exact r1.append r2
/-- What was read is data. -/
theorem trod_rel : ∀ (m : Nat) (t : TypeId) (n : Nat) (cs : List Value) (x : DataW H × List MemPlace), okT P m t = true → DataW.trod enc P W 0 (fun _ => true) true n t cs = some x → ∃ ds, RelDs (HeapM W) ds cs ∧ Fit P m t ds
  | 0, _, _, _, _, h, _ => by cases h
  | m + 1, t, 0, cs, x, _, h => by cases h
  | m + 1, t, n + 1, cs, x, hk, h => by
    unfold okT at hk
    split at hk
    · rename_i hu
      unfold DataW.trod at h
      rw [hu] at h
      split at h <;> first | (exfalso; simp_all; done) | skip
      rename_i b he
      exact ⟨[.bool b], ⟨_, [], rfl, .bool b, rfl⟩, by unfold Fit; rw [hu]; exact ⟨b, rfl⟩⟩
    · rename_i k hu
      unfold DataW.trod at h
      rw [hu] at h
      split at h <;> first | (exfalso; simp_all; done) | skip
      rename_i k1 k2 q he
      cases he
      split at h
      · rename_i hkk
        obtain ⟨rfl, hwf⟩ := hkk
        exact ⟨[.int _ q], ⟨_, [], rfl, .int _ q, rfl⟩, by unfold Fit; rw [hu]; exact ⟨q, rfl, hwf⟩⟩
      · cases h
    · rename_i hu
      unfold DataW.trod at h
      rw [hu] at h
      split at h <;> first | (exfalso; simp_all; done) | skip
      rename_i s he
      split at h
      · rename_i hs
        refine ⟨[.str s.data.toList], ⟨_, [], rfl, ?_, rfl⟩, by unfold Fit; rw [hu]; exact ⟨_, rfl, by simpa using hs⟩⟩
        have : strv s.data.toList = .string s := by simp [strv]
        rw [← this]
        exact .str _
      · cases h
    · rename_i e hu
      split at hk
      · rename_i hsz
        have hsz := Nat.le_of_ble_eq_true hsz
        unfold DataW.trod at h
        rw [hu] at h
        split at h <;> first | (exfalso; simp_all; done) | skip
        · exact ⟨[.sl (P.cellsOf e) []], ⟨_, [], rfl, .sl _ [] none 0 0 0 (fun _ => []) (Nat.le_refl _) (fun h => absurd rfl h) (fun i hi => by simp at hi) (fun i cs hi => by simp at hi) (fun i j cs c u hi => by simp at hi), rfl⟩, by unfold Fit; rw [hu]; exact ⟨[], rfl, Nat.zero_le _, fun x hx => by cases hx⟩⟩
        · rename_i e' a len cap he
          cases he
          split at h
          · rename_i hle
            obtain ⟨_, hlc, hcap⟩ := hle
            simp only [Option.bind_eq_some_iff] at h
            obtain ⟨elems, hel, _⟩ := h
            obtain ⟨hlen, hget⟩ := mapM_get hel
            rw [List.length_range] at hlen
            have hone : ∀ i, i < len → ∃ us ds, W.cells? 0 (a.add (i * P.cellsOf e)) (P.cellsOf e) = some us ∧ RelDs (HeapM W) ds us ∧ Fit P m e ds := fun i hi => by
              obtain ⟨y, _, hy⟩ := hget i i (by simp [hi])
              simp only [Option.bind_eq_some_iff] at hy
              obtain ⟨us, h1, h2⟩ := hy
              obtain ⟨ds, h3, h4⟩ := trod_rel m e n us y hk h2
              exact ⟨us, ds, h1, h3, h4⟩
            have hch : ∃ es : List (List Dat), es.length = len ∧ ∀ i d, es[i]? = some d → ∃ us, W.cells? 0 (a.add (i * P.cellsOf e)) (P.cellsOf e) = some us ∧ RelDs (HeapM W) d us ∧ Fit P m e d := by
              have build : ∀ k, k ≤ len → ∃ es : List (List Dat), es.length = k ∧ ∀ i d, es[i]? = some d → ∃ us, W.cells? 0 (a.add (i * P.cellsOf e)) (P.cellsOf e) = some us ∧ RelDs (HeapM W) d us ∧ Fit P m e d := fun k => by
                induction k with
                | zero => exact fun _ => ⟨[], rfl, fun i d h => by simp at h⟩
                | succ k ih =>
                  intro hk'
                  obtain ⟨es, h1, h2⟩ := ih (by omega)
                  obtain ⟨us, ds, h3, h4, h5⟩ := hone k (by omega)
                  refine ⟨es ++ [ds], by simp [h1], fun i d hi => ?_⟩
                  by_cases hik : i < es.length
                  · rw [List.getElem?_append_left hik] at hi; exact h2 i d hi
                  · rw [List.getElem?_append_right (by omega)] at hi
                    have : i - es.length = 0 := by
                      cases hz : i - es.length with
                      | zero => rfl
                      | succ z => rw [hz] at hi; simp at hi
                    rw [this] at hi
                    simp at hi
                    subst hi
                    have : i = k := by omega
                    subst this
                    exact ⟨us, h3, h4, h5⟩
              exact build len (Nat.le_refl _)
            obtain ⟨es, hes, hall⟩ := hch
            have hspot : 0 < len → a.spot = none := fun h0 => by
              obtain ⟨us, ds, h1, _⟩ := hone 0 h0
              obtain ⟨h2, h3⟩ := cells_at h1
              have h4 := h3 0 (by omega)
              rw [Nat.zero_mul, add_zero', add_zero'] at h4
              rw [List.getElem?_eq_getElem (by omega)] at h4
              obtain ⟨c, _, h5, _⟩ := cell_at h4
              exact h5
            refine ⟨[.sl (P.cellsOf e) es], ⟨_, [], rfl, ?_, rfl⟩, by unfold Fit; rw [hu]; exact ⟨es, rfl, by omega, fun x hx => by obtain ⟨i, hi⟩ := List.mem_iff_getElem?.1 hx; obtain ⟨us, _, _, h⟩ := hall i x hi; exact h⟩⟩
            have hus : ∃ us : Nat → List Value, ∀ i d, es[i]? = some d → W.cells? 0 (a.add (i * P.cellsOf e)) (P.cellsOf e) = some (us i) ∧ RelDs (HeapM W) d (us i) := by
              refine ⟨fun i => (W.cells? 0 (a.add (i * P.cellsOf e)) (P.cellsOf e)).getD [], fun i d hi => ?_⟩
              obtain ⟨us, h1, h2, _⟩ := hall i d hi
              dsimp only
              rw [h1]
              exact ⟨rfl, h2⟩
            obtain ⟨us, hus⟩ := hus
            rw [← hes]
            refine .sl _ es (some a) cap a.block a.off us (by omega) (fun hne => ?_) (fun i hi => ?_) (fun i d hi => ?_) (fun i j d c u hi hj hu => ?_)
            · have : 0 < es.length := List.length_pos_iff.2 hne
              have := hspot (by omega)
              cases a; simp at this ⊢; exact this
            · obtain ⟨h1, h2⟩ := hus i es[i] (List.getElem?_eq_getElem hi)
              obtain ⟨h3, h4⟩ := cells_at h1
              have hs := hspot (by omega)
              have h40 := h4 0 (by omega)
              rw [List.getElem?_eq_getElem (show 0 < (us i).length by omega)] at h40
              obtain ⟨c, h5, _, _⟩ := cell_at h40
              rw [add_off hs, add_off rfl] at h5
              refine ⟨c, h5, fun j hj => ?_⟩
              have h4j := h4 j (by omega)
              rw [List.getElem?_eq_getElem hj] at h4j
              obtain ⟨c', h6, _, h7⟩ := cell_at h4j
              rw [add_off hs, add_off rfl] at h6 h7
              rw [h5] at h6
              cases h6
              rw [List.getElem?_eq_getElem hj]
              exact h7
            · obtain ⟨h1, h2⟩ := hus i d hi
              have := (cells_at h1).1
              have := h2.len
              omega
            · exact (hus i d hi).2.get hj hu
          · cases h
      · cases hk
    · rename_i fs hu
      unfold DataW.trod at h
      rw [hu] at h
      split at h <;> first | (exfalso; simp_all; done) | skip
      rename_i fs' cs' he
      cases he
      split at h
      · rename_i hlen
        simp only [Option.map_eq_some_iff] at h
        obtain ⟨xs, hxs, _⟩ := h
        obtain ⟨ds, h1, h2⟩ := trod_struct (P := P) (W := W) (G := fun t cs => DataW.trod enc P W 0 (fun _ => true) true n t cs) (F := Fit P m) (okt := okT P m) (fun t cs x h1 h2 => trod_rel m t n cs x h1 h2) fs.toList 0 _ xs (by rw [hlen]; exact hk) hxs (Nat.zero_le _)
        exact ⟨ds, by simpa using h1, by unfold Fit; rw [hu]; exact h2⟩
      · cases h
    · rename_i k e hu
      split at hk
      · rename_i hsz
        have hsz := Nat.eq_of_beq_eq_true hsz
        unfold DataW.trod at h
        rw [hu] at h
        split at h <;> first | (exfalso; simp_all; done) | skip
        rename_i k' e' cs' he
        cases he
        split at h
        · rename_i hlen
          simp only [Option.map_eq_some_iff] at h
          obtain ⟨xs, hxs, _⟩ := h
          obtain ⟨_, hget⟩ := mapM_get hxs
          obtain ⟨ds, h1, h2⟩ := trod_array (W := W) (G := fun cs => DataW.trod enc P W 0 (fun _ => true) true n e cs) (F := Fit P m e) (sz := P.cellsOf e) (fun cs x h => trod_rel m e n cs x hk h) k 0 _ (by rw [hlen, ← hsz, Nat.zero_add]) (fun i hi => by
            obtain ⟨y, _, hy⟩ := hget i i (by simp [hi])
            exact ⟨y, by rw [Nat.zero_add]; exact hy⟩)
          exact ⟨ds, by simpa using h1, by unfold Fit; rw [hu]; exact h2⟩
        · cases h
      · cases hk
    · cases hk
section
variable {P : Program} {n : Nat} {t : TypeId} {ds : List Dat}
theorem Fit_bool (hu : P.underlying t = some .bool) (h : Fit P (n + 1) t ds) : ∃ b, ds = [.bool b] := by unfold Fit at h; rw [hu] at h; exact h
theorem Fit_int {k : IntKind} (hu : P.underlying t = some (.int k)) (h : Fit P (n + 1) t ds) : ∃ m, ds = [.int k m] ∧ (Lit.int k m).wf = true := by unfold Fit at h; rw [hu] at h; exact h
theorem Fit_str (hu : P.underlying t = some .string) (h : Fit P (n + 1) t ds) : ∃ s, ds = [.str s] ∧ s.length ≤ maxLen := by unfold Fit at h; rw [hu] at h; exact h
theorem Fit_slice {e : TypeId} (hu : P.underlying t = some (.slice e)) {sz : Nat} (hs : P.cellsOf e = sz) (h : Fit P (n + 1) t ds) : ∃ es, ds = [.sl sz es] ∧ es.length ≤ maxLen ∧ ∀ x ∈ es, Fit P n e x := by unfold Fit at h; rw [hu] at h; subst hs; exact h
theorem Fit_struct {fs : Array Field} (hu : P.underlying t = some (.struct fs)) (h : Fit P (n + 1) t ds) : FitS (Fit P n) fs.toList ds := by unfold Fit at h; rw [hu] at h; exact h
theorem Fit_array {k : Nat} {e : TypeId} (hu : P.underlying t = some (.array k e)) (h : Fit P (n + 1) t ds) : FitA (Fit P n e) k ds := by unfold Fit at h; rw [hu] at h; exact h
theorem Fit_list {α : Type} {en : α → List Dat} {Q : α → Prop} {F : List Dat → Prop} (h : ∀ x, F x → ∃ y, x = en y ∧ Q y) : ∀ (es : List (List Dat)), (∀ x ∈ es, F x) → ∃ l : List α, es = l.map en ∧ ∀ y ∈ l, Q y
  | [], _ => ⟨[], rfl, fun y h => by cases h⟩
  | x :: es, hx => by
    obtain ⟨y, rfl, hy⟩ := h x (hx x List.mem_cons_self)
    obtain ⟨l, rfl, hl⟩ := Fit_list h es (fun x h => hx x (List.mem_cons_of_mem _ h))
    exact ⟨y :: l, rfl, fun z hz => by rcases List.mem_cons.1 hz with rfl | hz; exact hy; exact hl z hz⟩
theorem okAggS {W : World} {r : Reach} {base : Nat} {v : Value} {fs : Array Field} (hu : P.underlying t = some (.struct fs)) (h : Value.okWide P W r base t v) : ∃ cs, v = .agg cs := by
  unfold Value.okWide at h; rw [hu] at h; obtain ⟨cs, e, _⟩ := h; exact ⟨cs, e⟩
theorem okAggA {W : World} {r : Reach} {base : Nat} {v : Value} {k : Nat} {e : TypeId} (hu : P.underlying t = some (.array k e)) (h : Value.okWide P W r base t v) : ∃ cs, v = .agg cs := by
  unfold Value.okWide at h; rw [hu] at h; obtain ⟨cs, e, _⟩ := h; exact ⟨cs, e⟩
theorem relV_agg' {M : Mem} {cs : Array Value} (h : RelDs M ds cs.toList) : RelV M noR (.agg (dV ds)) (.agg cs) := by
  simp only [RelV]
  exact ⟨cs.toList, by simp, RelVs.dV h⟩
theorem relV_one {M : Mem} {d : Dat} {v : Value} (h : RelDs M [d] [v]) : RelV M noR (.d d) v := by
  obtain ⟨u, us, e, h1, _⟩ := h
  cases e
  simp only [RelV]
  exact h1
end
end
end Go.Proofs.YtilfjfpemjfalaaGreatDoor.Kx
