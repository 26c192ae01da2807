/- Plain law: the reference's fewest rules; RulesShortest. -/
import Derived.Test.YtljkgnjmigmcgaaP8
import Derived.Test.YtljkgnjmigmcgaaFSho
namespace Go.Proofs.Ytljkgnjmigmcgaa
open Go Go.RowKit Kx

theorem F42_eq (a b d : Int) : F42 a b d = some (decide (b ≤ a) && decide (a ≤ d)) := by
  unfold F42
  by_cases h : b ≤ a
  · simp [h]
  · simp [h]
/-! ### equal -/
theorem bit_i {s i : Nat} (hi : i < 62) : (Int.tmod (Int.fdiv (s : Int) (2 ^ (min (Int.toNat (i : Int)) IntKind.i64.bits))) 2 == 1) = s.testBit i := by
  have h1 : Int.fdiv (s : Int) (2 ^ (min (Int.toNat (i : Int)) IntKind.i64.bits)) = ((s / 2 ^ i : Nat) : Int) := by
    have : min (Int.toNat (i : Int)) IntKind.i64.bits = i := by simp [IntKind.bits]; omega
    rw [this, Int.fdiv_eq_ediv_of_nonneg _ (by exact_mod_cast Nat.zero_le _)]
    norm_cast
  rw [h1]
  have h2 : Int.tmod ((s / 2 ^ i : Nat) : Int) 2 = ((s / 2 ^ i % 2 : Nat) : Int) := by
    rw [Int.tmod_eq_emod_of_nonneg (Int.natCast_nonneg _)]; norm_cast
  rw [h2, tb_div]
  cases s.testBit i <;> rfl
def eqL (s : Nat) : List Int → Nat → Int → Bool
  | [], _, _ => true
  | x :: l, i, v => bif s.testBit i then (bif decide (v ≥ 0) && x != v then false else eqL s l (i + 1) x) else eqL s l (i + 1) v
theorem F54_L_eq {c : List Int} {s : Nat} (hn : c.length ≤ 61) : ∀ (k i : Nat) (v : Int), c.length + 1 ≤ k + i → i ≤ c.length → F54_L1 c s k v i = some (eqL s (c.drop i) i v)
  | 0, i, _, h, h' => by omega
  | k + 1, i, v, h, h' => by
    rw [F54_L1]
    by_cases hi : i < c.length
    · have hd : c.drop i = c[i] :: c.drop (i + 1) := List.drop_eq_getElem_cons hi
      have ih := F54_L_eq (s := s) hn k (i + 1)
      rw [show decide ((i : Int) < ((c.map e_i64).length : Int)) = true from decide_eq_true (by rw [List.length_map]; omega), cond_true, ass_t (decide_eq_true (by omega)), bit_i (by omega), geti_k, List.getElem?_eq_getElem hi, hd]
      unfold eqL F54_A2
      rw [wi i (by omega)]
      cases s.testBit i with
      | false => rw [cond_false, cond_false]; exact ih v (by omega) (by omega)
      | true =>
        rw [cond_true, cond_true]
        cases hv : decide (v ≥ 0) with
        | true =>
          simp only [cond_true, Option.bind_some, Bool.true_and]
          cases (c[i] != v) with
          | true => rfl
          | false => exact ih _ (by omega) (by omega)
        | false =>
          simp only [cond_false, Option.bind_some, Bool.false_and]
          exact ih _ (by omega) (by omega)
    · rw [show decide ((i : Int) < ((c.map e_i64).length : Int)) = false from decide_eq_false (by rw [List.length_map]; omega), cond_false, List.drop_eq_nil_of_le (by omega)]
      rfl
theorem eqL_one {s : Nat} : ∀ (l : List Int) (i : Nat) (v v' : Int) (b : Bool), (∀ x ∈ l, 0 ≤ x) → (b = true → 0 ≤ v ∧ v' = v) → (b = false → v < 0) → eqL s l i v = (oneL s l i v' b).2
  | [], _, _, _, _, _, _, _ => rfl
  | x :: l, i, v, v', b, hl, hb, hb' => by
    unfold eqL oneL
    have hx := hl x List.mem_cons_self
    have hl' : ∀ y ∈ l, 0 ≤ y := fun y hy => hl y (List.mem_cons_of_mem _ hy)
    cases s.testBit i with
    | false => rw [cond_false, cond_false]; exact eqL_one l (i + 1) v v' b hl' hb hb'
    | true =>
      rw [cond_true, cond_true]
      cases b with
      | true =>
        obtain ⟨h0, hvv⟩ := hb rfl
        rw [hvv, show decide (v ≥ 0) = true from decide_eq_true h0, Bool.true_and]
        try rw [Bool.true_and]
        cases (x != v) with
        | true => rfl
        | false => exact eqL_one l (i + 1) x x true hl' (fun _ => ⟨hx, rfl⟩) (fun e => by cases e)
      | false =>
        rw [show decide (v ≥ 0) = false from decide_eq_false (by have := hb' rfl; omega), Bool.false_and, Bool.false_and]
        exact eqL_one l (i + 1) x x true hl' (fun _ => ⟨hx, rfl⟩) (fun e => by cases e)
section
variable {t : List (List Int)} {c : List Int} {w : Nat}
theorem F54_eq (h : Tab t c w) {fuel : Nat} (hf : 20 ≤ fuel) (s : Nat) : F54 fuel c s = some (ok c s) := by
  have hc : c.length ≤ 12 := by have := h.n12; have := h.len; omega
  have := F54_L_eq (c := c) (s := s) (by omega) fuel 0 (-1) (by omega) (by omega)
  have h1 : F54 fuel c s = _ := this
  rw [h1, List.drop_zero, eqL_one c 0 (-1) 0 false (fun x hx => (h.chs x hx).1) (fun e => by cases e) (fun _ => by omega)]
  rfl

/-! ### firsts -/
theorem F31_eq {r : T_api_Rule} {row : List Int} (h : Fair row.length r) : F31 r row = some (pas r row) := by
  obtain ⟨⟨v, hv, hlt⟩, ht⟩ := h
  unfold F31 pas
  have hg : geti row r.Var = some row[v] := by rw [hv, geti_k]; exact List.getElem?_eq_getElem hlt
  have hg2 : row[r.Var.toNat]? = some row[v] := by rw [hv, Int.toNat_natCast]; exact List.getElem?_eq_getElem hlt
  rw [hg, hg2, Option.bind_some]
  rcases ht with h | h | h <;> rw [h]
  · cases hb : (row[v] == r.Val) <;> simp [hb]
  · cases hb : decide (row[v] ≤ r.Val) <;> simp [hb]
  · simp
theorem F53_L7_eq {l : List Nat} {kd : Nat} {g : Nat} {rc : Int → List Int → Option (List Int)} (hl : l.length < 100000) (hk : kd < 1000) : ∀ (k i : Nat) (b : Bool), l.length + 1 ≤ k + i → i ≤ l.length → F53_L7 (l.map (fun x : Nat => (x : Int))) kd g rc k b i = rc ((kd + 1 : Nat) : Int) ((bif b || (l.drop i).any (fun x => x == g) then l else l ++ [g]).map (fun x : Nat => (x : Int)))
  | 0, i, _, h, h' => by omega
  | k + 1, i, b, h, h' => by
    rw [F53_L7, List.length_map, List.length_map]
    by_cases hi : i < l.length
    · have hd : l.drop i = l[i] :: l.drop (i + 1) := List.drop_eq_getElem_cons hi
      have hg : geti (l.map (fun x : Nat => (x : Int))) (i : Int) = some (l[i] : Int) := by rw [geti_k, List.getElem?_map, List.getElem?_eq_getElem hi]; rfl
      have ih := F53_L7_eq (l := l) (g := g) (rc := rc) hl hk k (i + 1)
      rw [show decide ((i : Int) < (l.length : Int)) = true from decide_eq_true (by omega), cond_true, hg, hd, List.any_cons, wi i (by omega)]
      cases b with
      | true => rw [cond_true, Option.bind_some, ih _ (by omega) (by omega)]; rfl
      | false =>
        rw [cond_false, Option.bind_some, Option.bind_some, ih _ (by omega) (by omega)]
        have : ((l[i] : Int) == (g : Int)) = (l[i] == g) := by
          rw [Bool.eq_iff_iff, beq_iff_eq, beq_iff_eq]; omega
        rw [this, Bool.false_or]
    · rw [show decide ((i : Int) < (l.length : Int)) = false from decide_eq_false (by omega), cond_false, List.drop_eq_nil_of_le (by omega), List.any_nil, Bool.or_false]
      unfold F53_A4
      rw [wi kd (by omega)]
      cases b with
      | true => rfl
      | false =>
        rw [Bool.not_false, cond_true, app_1 _ _ (by simp; omega), Option.bind_some, cond_false]
        simp
theorem pow_i {i : Nat} (hi : i < 61) : IntKind.i64.wrap (1 * 2 ^ (min (Int.toNat (i : Int)) IntKind.i64.bits)) = ((2 ^ i : Nat) : Int) := by
  have : min (Int.toNat (i : Int)) IntKind.i64.bits = i := by simp [IntKind.bits]; omega
  rw [this]
  have h : (2 ^ i : Nat) ≤ 2 ^ 61 := Nat.pow_le_pow_right (by omega) (by omega)
  have e : (1 * 2 ^ i : Int) = ((2 ^ i : Nat) : Int) := by simp
  have h61 : (2 : Nat) ^ 61 = 2305843009213693952 := by decide
  rw [e]
  generalize (2 ^ i : Nat) = p at h
  exact w64 (by omega) (by omega)
theorem or_add {v i : Nat} (hv : v < 2 ^ i) : v + 2 ^ i = v ||| 2 ^ i := by
  have := Nat.two_pow_add_eq_or_of_lt hv 1
  rw [Nat.mul_one, Nat.or_comm] at this
  omega
/-- The sets of rows that a candidate takes. -/
def Fst (t : List (List Int)) (c : List Int) (s g : Nat) (r : T_api_Rule) : Prop := ok c g = true ∧ g ≠ 0 ∧ psd t r s = g
theorem F53_L5_eq (h : Tab t c w) {fuel : Nat} (hf : 5000 ≤ fuel) {s : Nat} (hs : s < 2 ^ t.length) {v ri kd : Nat} (hv : v < w) (hri : ri < t.length) (hkd : 1 ≤ kd ∧ kd ≤ 3) {l : List Nat} (hl : l.length ≤ 4500) {rc : Int → List Int → Option (List Int)} {x : Int} (hx : t[ri]? >>= (fun row => row[v]?) = some x) :
    ∀ (k i a : Nat), t.length + 1 ≤ k + i → i ≤ t.length → a < 2 ^ i → F53_L5 fuel t c s (l.map (fun x : Nat => (x : Int))) v ri kd rc k a i = (let g := pasL ⟨v, kd, x, 0⟩ s (t.drop i) i a
      rc ((kd + 1 : Nat) : Int) ((bif (decide (g = 0) || !ok c g) || l.any (fun x => x == g) then l else l ++ [g]).map (fun x : Nat => (x : Int))))
  | 0, i, _, h1, h2, _ => by omega
  | k + 1, i, a, h1, h2, ha => by
    have h12 := h.n12
    have hfair : ∀ row ∈ t, Fair row.length (⟨v, kd, x, 0⟩ : T_api_Rule) := fun row hr => ⟨⟨v, rfl, by rw [h.row row hr]; exact hv⟩, by show ((kd : Int) = 1 ∨ (kd : Int) = 2 ∨ (kd : Int) = 3); omega⟩
    rw [F53_L5, List.length_map]
    by_cases hi : i < t.length
    · have hd : t.drop i = t[i] :: t.drop (i + 1) := List.drop_eq_getElem_cons hi
      have g1 : geti t (ri : Int) = some t[ri] := by rw [geti_k]; exact List.getElem?_eq_getElem hri
      have g2 : geti t[ri] (v : Int) = some x := by
        rw [List.getElem?_eq_getElem hri] at hx
        rw [geti_k]; exact hx
      have g3 : geti t (i : Int) = some t[i] := by rw [geti_k]; exact List.getElem?_eq_getElem hi
      have ih := F53_L5_eq h hf hs hv hri hkd hl (rc := rc) hx k (i + 1)
      have hlt : a ||| 2 ^ i < 2 ^ (i + 1) := Nat.or_lt_two_pow (Nat.lt_of_lt_of_le ha (Nat.pow_le_pow_right (by omega) (by omega))) (Nat.pow_lt_pow_right (by omega) (by omega))
      have hp : (2 : Nat) ^ i ≤ 4096 := Nat.le_trans (Nat.pow_le_pow_right (by omega) (show i ≤ 12 by omega)) (by decide)
      rw [show decide ((i : Int) < (t.length : Int)) = true from decide_eq_true (by omega), cond_true, ass_t (decide_eq_true (by omega)), bit_i (by omega), g1, Option.bind_some, g2, Option.bind_some, g3, Option.bind_some, F31_eq (hfair _ (List.getElem_mem hi)), Option.bind_some, hd]
      unfold pasL F53_A6
      rw [wi i (by omega)]
      cases s.testBit i with
      | false =>
        rw [cond_false, Option.bind_some, cond_false, Bool.false_and]
        exact ih a (by omega) (by omega) (Nat.lt_of_lt_of_le ha (Nat.pow_le_pow_right (by omega) (by omega)))
      | true =>
        rw [cond_true, Option.bind_some, Bool.true_and]
        cases pas ⟨v, kd, x, 0⟩ t[i] with
        | true =>
          rw [cond_true, ass_t (decide_eq_true (by omega)), pow_i (by omega), w64 (i := (a : Int) + ((2 ^ i : Nat) : Int)) (by omega) (by omega)]
          have e : (a : Int) + ((2 ^ i : Nat) : Int) = ((a ||| 2 ^ i : Nat) : Int) := by rw [← or_add ha]; omega
          rw [e]
          exact ih _ (by omega) (by omega) hlt
        | false =>
          rw [cond_false]
          exact ih a (by omega) (by omega) (Nat.lt_of_lt_of_le ha (Nat.pow_le_pow_right (by omega) (by omega)))
    · rw [show decide ((i : Int) < (t.length : Int)) = false from decide_eq_false (by omega), cond_false, List.drop_eq_nil_of_le (by omega), F54_eq h (by omega)]
      have e : (bif (a : Int) == 0 then (some true : Option Bool) else Option.bind (some (ok c a)) fun y => some (!y)) = some (decide (a = 0) || !ok c a) := by
        by_cases h0 : a = 0
        · subst h0; rfl
        · rw [show ((a : Int) == 0) = false from by rw [beq_eq_false_iff_ne]; omega, show decide (a = 0) = false from decide_eq_false h0]; rfl
      rw [e, Option.bind_some]
      have := F53_L7_eq (l := l) (kd := kd) (g := a) (rc := rc) (by omega) (by omega) fuel 0 (decide (a = 0) || !ok c a) (by omega) (by omega)
      have this' : F53_L7 (l.map (fun x : Nat => (x : Int))) kd a rc fuel (decide (a = 0) || !ok c a) 0 = _ := this
      rw [this', List.drop_zero]
      rfl
def addg (c : List Int) (l : List Nat) (g : Nat) : List Nat := bif (decide (g = 0) || !ok c g) || l.any (fun x => x == g) then l else l ++ [g]
/-- What has been found so far: each set once; the sets of the candidates that were tried. -/
structure FI (t : List (List Int)) (c : List Int) (s : Nat) (Q : T_api_Rule → Prop) (l : List Nat) : Prop where
  nd : l.Nodup
  mem : ∀ g, g ∈ l ↔ ∃ r, Q r ∧ Fst t c s g r
  lt : ∀ g ∈ l, g < 4096
theorem nodup_len : ∀ (n : Nat) (l : List Nat), l.Nodup → (∀ x ∈ l, x < n) → l.length ≤ n
  | 0, l, _, h => by
    cases l with
    | nil => simp
    | cons x l => have := h x List.mem_cons_self; omega
  | n + 1, l, hn, h => by
    have h1 := nodup_len n (l.erase n) (hn.erase n) (fun x hx => by
      have h2 := (hn.mem_erase_iff).1 hx
      have := h x h2.2
      have := h2.1
      omega)
    have := List.length_erase (a := n) (l := l)
    split at this <;> omega
theorem FI.add {s : Nat} {Q : T_api_Rule → Prop} {l : List Nat} (h : FI t c s Q l) (r : T_api_Rule) (hlt : psd t r s < 4096) : FI t c s (fun r' => Q r' ∨ r' = r) (addg c l (psd t r s)) := by
  unfold addg
  cases hb : ((decide (psd t r s = 0) || !ok c (psd t r s)) || l.any (fun x => x == psd t r s)) with
  | true =>
    rw [cond_true]
    refine ⟨h.nd, fun g => ?_, h.lt⟩
    rw [h.mem g]
    constructor
    · rintro ⟨r', a, b⟩; exact ⟨r', .inl a, b⟩
    · rintro ⟨r', a | rfl, b⟩
      · exact ⟨r', a, b⟩
      · obtain ⟨b1, b2, rfl⟩ := b
        simp [b1, b2] at hb
        exact (h.mem _).1 hb
  | false =>
    rw [cond_false]
    simp at hb
    obtain ⟨⟨b1, b2⟩, b3⟩ := hb
    refine ⟨?_, fun g => ?_, fun g hg => ?_⟩
    · rw [List.nodup_append]
      refine ⟨h.nd, by simp, fun x hx y hy => ?_⟩
      simp at hy; subst hy
      exact fun e => b3 x hx e
    · rw [List.mem_append, h.mem g]
      constructor
      · rintro (⟨r', a, b⟩ | hg)
        · exact ⟨r', .inl a, b⟩
        · simp at hg; subst hg; exact ⟨r, .inr rfl, b2, b1, rfl⟩
      · rintro ⟨r', a | rfl, b⟩
        · exact .inl ⟨r', a, b⟩
        · obtain ⟨_, _, rfl⟩ := b; exact .inr (by simp)
    · rcases List.mem_append.1 hg with hg | hg
      · exact h.lt g hg
      · simp at hg; subst hg; exact hlt
theorem FI.congr {s : Nat} {Q Q' : T_api_Rule → Prop} {l : List Nat} (h : FI t c s Q l) (e : ∀ r, Q r ↔ Q' r) : FI t c s Q' l :=
  ⟨h.nd, fun g => by rw [h.mem g]; constructor <;> rintro ⟨r, a, b⟩; exact ⟨r, (e r).1 a, b⟩; exact ⟨r, (e r).2 a, b⟩, h.lt⟩
theorem FI.len {s : Nat} {Q : T_api_Rule → Prop} {l : List Nat} (h : FI t c s Q l) : l.length ≤ 4096 := nodup_len 4096 l h.nd h.lt
theorem F53_L3_eq (h : Tab t c w) {fuel : Nat} (hf : 5000 ≤ fuel) {s : Nat} (hs : s < 2 ^ t.length) {v ri : Nat} (hv : v < w) (hri : ri < t.length) {rc : Int → List Int → Option (List Int)} {x : Int} (hx : t[ri]? >>= (fun row => row[v]?) = some x) {Q : T_api_Rule → Prop} {l : List Nat} (hl : FI t c s Q l) (k : Nat) :
    ∃ l', F53_L3 fuel t c s v ri rc (k + 4) 1 (l.map (fun x : Nat => (x : Int))) = rc ((ri + 1 : Nat) : Int) (l'.map (fun x : Nat => (x : Int))) ∧ FI t c s (fun r => Q r ∨ r ∈ three v x) l' := by
  have h12 := h.n12
  have hp := pow_small h
  have hg : ∀ r, psd t r s < 4096 := fun r => Nat.lt_of_lt_of_le (psd_lt hs) hp
  have a1 := hl.add ⟨v, 1, x, 0⟩ (hg _)
  have a2 := a1.add ⟨v, 2, x, 0⟩ (hg _)
  have a3 := a2.add ⟨v, 3, x, 0⟩ (hg _)
  refine ⟨_, ?_, a3.congr fun r => by simp [three, or_assoc]⟩
  have step : ∀ (kd : Nat) (l : List Nat) (rc : Int → List Int → Option (List Int)), (1 ≤ kd ∧ kd ≤ 3) → l.length ≤ 4500 → F53_L5 fuel t c s (l.map (fun x : Nat => (x : Int))) v ri kd rc fuel 0 0 = rc ((kd + 1 : Nat) : Int) ((addg c l (psd t ⟨v, kd, x, 0⟩ s)).map (fun x : Nat => (x : Int))) := fun kd l rc hkd hl =>
    F53_L5_eq h hf hs hv hri hkd hl hx fuel 0 0 (by omega) (by omega) (by omega)
  have e1 := step 1 l (F53_L3 fuel t c s v ri rc (k + 3)) (by omega) (by have := hl.len; omega)
  have e2 := step 2 _ (F53_L3 fuel t c s v ri rc (k + 2)) (by omega) (show (addg c l (psd t ⟨v, 1, x, 0⟩ s)).length ≤ 4500 by have := a1.len; omega)
  have e3 := step 3 _ (F53_L3 fuel t c s v ri rc (k + 1)) (by omega) (show (addg c (addg c l (psd t ⟨v, 1, x, 0⟩ s)) (psd t ⟨v, 2, x, 0⟩ s)).length ≤ 4500 by have := a2.len; omega)
  rw [F53_L3, show decide ((1 : Int) ≤ 3) = true from rfl, cond_true]
  refine Eq.trans e1 ?_
  show F53_L3 fuel t c s v ri rc (k + 3) 2 _ = _
  rw [F53_L3, show decide ((2 : Int) ≤ 3) = true from rfl, cond_true]
  refine Eq.trans e2 ?_
  show F53_L3 fuel t c s v ri rc (k + 2) 3 _ = _
  rw [F53_L3, show decide ((3 : Int) ≤ 3) = true from rfl, cond_true]
  refine Eq.trans e3 ?_
  show F53_L3 fuel t c s v ri rc (k + 1) 4 _ = _
  rw [F53_L3, show decide ((4 : Int) ≤ 3) = false from rfl, cond_false, wi ri (by omega)]
  rfl
theorem F53_L2_eq (h : Tab t c w) {fuel : Nat} (hf : 5000 ≤ fuel) {s : Nat} (hs : s < 2 ^ t.length) {v : Nat} (hv : v < w) {rc : Int → List Int → Option (List Int)} : ∀ (k i : Nat) (Q : T_api_Rule → Prop) (l : List Nat), t.length + 1 ≤ k + i → i ≤ t.length → FI t c s Q l →
    ∃ l', F53_L2 fuel t c s v rc k i (l.map (fun x : Nat => (x : Int))) = rc ((v + 1 : Nat) : Int) (l'.map (fun x : Nat => (x : Int))) ∧ FI t c s (fun r => Q r ∨ ∃ row ∈ t.drop i, ∃ x, row[v]? = some x ∧ r ∈ three v x) l'
  | 0, i, _, _, h1, h2, _ => by omega
  | k + 1, i, Q, l, h1, h2, hl => by
    have h4 := h.w4
    rw [F53_L2, List.length_map]
    by_cases hi : i < t.length
    · have hd : t.drop i = t[i] :: t.drop (i + 1) := List.drop_eq_getElem_cons hi
      have hrow := h.row _ (List.getElem_mem hi)
      have hx : t[i]? >>= (fun row => row[v]?) = some t[i][v] := by
        rw [List.getElem?_eq_getElem hi]
        exact List.getElem?_eq_getElem (by omega)
      obtain ⟨f, rfl⟩ : ∃ f, fuel = f + 4 := ⟨fuel - 4, by omega⟩
      obtain ⟨l1, e1, f1⟩ := F53_L3_eq h hf hs hv hi (rc := F53_L2 (f + 4) t c s v rc k) hx hl f
      rw [show decide ((i : Int) < (t.length : Int)) = true from decide_eq_true (by omega), cond_true, e1]
      obtain ⟨l2, e2, f2⟩ := F53_L2_eq h hf hs hv (rc := rc) k (i + 1) _ l1 (by omega) (by omega) f1
      refine ⟨l2, e2, f2.congr fun r => ?_⟩
      rw [hd]
      constructor
      · rintro ((a | a) | ⟨row, a, b⟩)
        · exact .inl a
        · exact .inr ⟨t[i], List.mem_cons_self, _, List.getElem?_eq_getElem (by omega), a⟩
        · exact .inr ⟨row, List.mem_cons_of_mem _ a, b⟩
      · rintro (a | ⟨row, a, x, b, d⟩)
        · exact .inl (.inl a)
        · rcases List.mem_cons.1 a with rfl | a
          · rw [List.getElem?_eq_getElem (by omega)] at b; cases b; exact .inl (.inr d)
          · exact .inr ⟨row, a, x, b, d⟩
    · rw [show decide ((i : Int) < (t.length : Int)) = false from decide_eq_false (by omega), cond_false, wi v (by omega)]
      refine ⟨l, rfl, hl.congr fun r => ?_⟩
      rw [List.drop_eq_nil_of_le (by omega)]
      simp
theorem F53_L1_eq (h : Tab t c w) {fuel : Nat} (hf : 5000 ≤ fuel) {s : Nat} (hs : s < 2 ^ t.length) : ∀ (k v : Nat) (Q : T_api_Rule → Prop) (l : List Nat), w + 1 ≤ k + v → v ≤ w → FI t c s Q l →
    ∃ l', F53_L1 fuel t c s k v (l.map (fun x : Nat => (x : Int))) = some (l'.map (fun x : Nat => (x : Int))) ∧ FI t c s (fun r => Q r ∨ ∃ v', v ≤ v' ∧ v' < w ∧ ∃ row ∈ t, ∃ x, row[v']? = some x ∧ r ∈ three v' x) l'
  | 0, v, _, _, h1, h2, _ => by omega
  | k + 1, v, Q, l, h1, h2, hl => by
    have h0 : 0 < t.length := h.n1
    rw [F53_L1, geti_0, List.getElem?_eq_getElem h0, Option.bind_some, List.length_map, h.row _ (List.getElem_mem h0)]
    by_cases hv : v < w
    · rw [show decide ((v : Int) < (w : Int)) = true from decide_eq_true (by omega), cond_true]
      obtain ⟨l1, e1, f1⟩ := F53_L2_eq h hf hs hv (rc := F53_L1 fuel t c s k) fuel 0 Q l (by have := h.n12; omega) (by omega) hl
      have e1' : F53_L2 fuel t c s v (F53_L1 fuel t c s k) fuel 0 (l.map (fun x : Nat => (x : Int))) = _ := e1
      rw [e1']
      obtain ⟨l2, e2, f2⟩ := F53_L1_eq h hf hs k (v + 1) _ l1 (by omega) (by omega) f1
      refine ⟨l2, e2, f2.congr fun r => ?_⟩
      rw [List.drop_zero]
      constructor
      · rintro ((a | a) | ⟨v', a, b, d⟩)
        · exact .inl a
        · exact .inr ⟨v, Nat.le_refl _, hv, a⟩
        · exact .inr ⟨v', by omega, b, d⟩
      · rintro (a | ⟨v', a, b, d⟩)
        · exact .inl (.inl a)
        · by_cases e : v' = v
          · subst e; exact .inl (.inr d)
          · exact .inr ⟨v', by omega, b, d⟩
    · rw [show decide ((v : Int) < (w : Int)) = false from decide_eq_false (by omega), cond_false]
      refine ⟨l, rfl, hl.congr fun r => ⟨.inl, ?_⟩⟩
      rintro (a | ⟨v', a, b, _⟩)
      · exact a
      · omega
theorem F53_eq (h : Tab t c w) {fuel : Nat} (hf : 5000 ≤ fuel) {s : Nat} (hs : s < 2 ^ t.length) : ∃ l : List Nat, F53 fuel t c s = some (l.map (fun x : Nat => (x : Int))) ∧ FI t c s (Cand t w) l := by
  obtain ⟨l, e, f⟩ := F53_L1_eq h hf hs fuel 0 (fun _ => False) [] (by have := h.w4; omega) (by omega) ⟨List.nodup_nil, fun g => by simp, fun g hg => by cases hg⟩
  refine ⟨l, e, f.congr fun r => ?_⟩
  constructor
  · rintro (a | ⟨v, _, b⟩)
    · exact a.elim
    · exact ⟨v, b⟩
  · rintro ⟨v, b⟩; exact .inr ⟨v, Nat.zero_le _, b⟩

/-! ### Taking away -/
theorem sub_eq {a b : Nat} (ha : a < 18446744073709551616) (hb : b < 18446744073709551616) (hs : ∀ i, b.testBit i = true → a.testBit i = true) : sd a b + b = a := by
  have h0 : (BitVec.ofNat 64 a &&& ~~~ BitVec.ofNat 64 b) &&& BitVec.ofNat 64 b = 0#64 := by
    refine BitVec.eq_of_getLsbD_eq fun i hi => ?_
    rw [BitVec.getLsbD_and, BitVec.getLsbD_and, BitVec.getLsbD_not]
    simp
  have h1 := BitVec.toNat_add_of_and_eq_zero h0
  have h2 : (BitVec.ofNat 64 a &&& ~~~ BitVec.ofNat 64 b) + BitVec.ofNat 64 b = BitVec.ofNat 64 a := by
    rw [BitVec.add_eq_or_of_and_eq_zero _ _ h0]
    refine BitVec.eq_of_getLsbD_eq fun i hi => ?_
    rw [BitVec.getLsbD_or, BitVec.getLsbD_and, BitVec.getLsbD_not, BitVec.getLsbD_ofNat, BitVec.getLsbD_ofNat]
    have := hs i
    cases hb' : b.testBit i with
    | false => simp [hi]
    | true => simp [hi, this hb']
  rw [h2, BitVec.toNat_ofNat, BitVec.toNat_ofNat, Nat.mod_eq_of_lt ha, Nat.mod_eq_of_lt hb] at h1
  exact h1.symm
theorem sub_i {a b : Nat} (ha : a < 4096) (hb : b < 4096) (hs : ∀ i, b.testBit i = true → a.testBit i = true) : IntKind.i64.wrap ((a : Int) - (b : Int)) = (sd a b : Int) := by
  have := sub_eq (a := a) (b := b) (by omega) (by omega) hs
  rw [w64 (i := (a : Int) - (b : Int)) (by omega) (by omega)]
  omega
theorem right_step (h : Tab t c w) : ∀ (L : List T_api_Rule) (e : Int) (s : Nat), (∀ r ∈ L, Fair w r) → s < 2 ^ t.length → (∀ (i : Nat) (row : List Int) (x : Int), t[i]? = some row → c[i]? = some x → s.testBit i = true → choice L e row = x) → ok c s = true ∨ ∃ r s', Edge t c w s r s'
  | [], e, s, _, _, hc => .inl (ok_of e fun j x hj hb => by
      have hjt : j < t.length := by rw [h.len]; exact (List.getElem?_eq_some_iff.1 hj).1
      exact (hc j t[j] x (List.getElem?_eq_getElem hjt) hj hb).symm)
  | r :: L, e, s, hL, hs, hc => by
    by_cases h0 : psd t r s = 0
    · refine right_step h L e s (fun r hr => hL r (List.mem_cons_of_mem _ hr)) hs (fun i row x hrow hx hb => ?_)
      have := hc i row x hrow hx hb
      simp only [choice] at this
      have hp : pas r row = false := by
        have h5 : (psd t r s).testBit i = false := by rw [h0, Nat.zero_testBit]
        rw [psd_at hrow, hb] at h5
        simpa using h5
      rw [hp, cond_false] at this
      exact this
    · obtain ⟨i, hi⟩ := bit_of_ne h0
      have hex : ∃ row ∈ t, pas r row = true := by
        rw [psd_bit, Bool.and_eq_true] at hi
        have h6 := hi.2
        cases hrow : t[i]? with
        | none => rw [hrow] at h6; cases h6
        | some row => rw [hrow] at h6; exact ⟨row, List.mem_of_getElem? hrow, h6⟩
      obtain ⟨r', hcand, hlike⟩ := cand_like h (hL r List.mem_cons_self) hex
      have hps := psd_congr hlike s
      have hok : ok c (psd t r s) = true := ok_of r.Then fun j x hj hb => by
        have hjt : j < t.length := by rw [h.len]; exact (List.getElem?_eq_some_iff.1 hj).1
        rw [psd_at (List.getElem?_eq_getElem hjt), Bool.and_eq_true] at hb
        have := hc j t[j] x (List.getElem?_eq_getElem hjt) hj hb.1
        simp only [choice] at this
        rw [hb.2, cond_true] at this
        exact this.symm
      exact .inr ⟨r', _, hcand, by rw [hps]; exact hok, by rw [hps]; exact h0, rfl⟩

/-! ### stuck -/
theorem Rch.lt (h : Tab t c w) {k s : Nat} (hr : Rch t c w k s) : s < 2 ^ t.length := by
  have h2 := pow_small h
  induction hr with
  | z => have : 1 ≤ 2 ^ t.length := Nat.one_le_two_pow; omega
  | @s k s s' r _ he ih =>
    rw [he.2.2.2]
    exact sd_lt' ih (by have := h.n12; omega) (by have := psd_lt (t := t) (r := r) ih; omega)
theorem F40_L_eq (h : Tab t c w) {fuel : Nat} (hf : 5000 ≤ fuel) : ∀ (k n s : Nat) (l : List Nat), Rch t c w n s → FI t c s (Cand t w) l → card t.length s + 1 ≤ k → ∃ n' s', F40_L1 fuel t c k s (l.map (fun x : Nat => (x : Int))) = some (!ok c s') ∧ Rch t c w n' s' ∧ ∀ r s'', ¬ Edge t c w s' r s''
  | 0, _, _, _, _, _, hk => by omega
  | k + 1, n, s, l, hr, hl, hk => by
    have hp := pow_small h
    have hs := hr.lt h
    rw [F40_L1, List.length_map, List.length_map]
    cases l with
    | nil =>
      rw [show decide ((([] : List Nat).length : Int) > 0) = false from rfl, cond_false, F54_eq h (by omega)]
      refine ⟨n, s, rfl, hr, fun r s'' he => ?_⟩
      have := (hl.mem (psd t r s)).2 ⟨r, he.1, he.2.1, he.2.2.1, rfl⟩
      cases this
    | cons g l =>
      obtain ⟨r, hc, hok, hg0, rfl⟩ := (hl.mem g).1 List.mem_cons_self
      have hg := psd_lt (t := t) (r := r) hs
      have hsub : ∀ i, (psd t r s).testBit i = true → s.testBit i = true := fun i hi => psd_sub hi
      have he : Edge t c w s r (sd s (psd t r s)) := ⟨hc, hok, hg0, rfl⟩
      have hr' := hr.s he
      rw [show decide (((psd t r s :: l).length : Int) > 0) = true from decide_eq_true (by simp), cond_true, List.map_cons, geti_0, List.getElem?_cons_zero, Option.bind_some, sub_i (by omega) (by omega) hsub]
      obtain ⟨l', e1, f1⟩ := F53_eq h hf (hr'.lt h)
      rw [e1, Option.bind_some]
      exact F40_L_eq h hf k (n + 1) _ l' hr' f1 (by have := card_sd hs h.n12 hg hsub hg0; omega)
theorem all_i (h : Tab t c w) : IntKind.i64.wrap ((IntKind.i64.wrap (1 * 2 ^ (min (Int.toNat ((t.map e_li64).length : Int)) IntKind.i64.bits))) - 1) = ((2 ^ t.length - 1 : Nat) : Int) := by
  have hp := pow_small h
  have hpos : 1 ≤ (2 : Nat) ^ t.length := Nat.one_le_two_pow
  rw [List.length_map, pow_i (by have := h.n12; omega), w64 (i := ((2 ^ t.length : Nat) : Int) - 1) (by omega) (by omega)]
  omega
theorem card_le (s : Nat) : card t.length s ≤ t.length := Nat.le_trans List.countP_le_length (by simp)
theorem F40_eq (h : Tab t c w) {fuel : Nat} (hf : 5000 ≤ fuel) : ∃ n' s', F40 fuel t c = some (!ok c s') ∧ Rch t c w n' s' ∧ ∀ r s'', ¬ Edge t c w s' r s'' := by
  obtain ⟨l, e1, f1⟩ := F53_eq h hf ((Rch.z (t := t) (c := c) (w := w)).lt h)
  unfold F40
  rw [ass_t (decide_eq_true (by omega)), all_i h, e1, Option.bind_some]
  exact F40_L_eq h hf fuel 0 _ l .z f1 (by have := card_le (t := t) (2 ^ t.length - 1); have := h.n12; omega)

/-! ### enough -/
def Lead (t : List (List Int)) (c : List Int) (w : Nat) : Nat → Nat → Prop
  | 0, s => ok c s = true
  | n + 1, s => ok c s = true ∨ ∃ r s', Edge t c w s r s' ∧ Lead t c w n s'
theorem lead_ok {n s : Nat} (h : ok c s = true) : Lead t c w n s := by
  cases n with
  | zero => exact h
  | succ n => exact .inl h
theorem Lead.to : ∀ {n k s : Nat}, Rch t c w k s → Lead t c w n s → ∃ k' s', k' ≤ k + n ∧ Rch t c w k' s' ∧ ok c s' = true
  | 0, k, s, hr, hl => ⟨k, s, by omega, hr, hl⟩
  | n + 1, k, s, hr, hl => by
    rcases hl with hl | ⟨r, s', he, hl⟩
    · exact ⟨k, s, by omega, hr, hl⟩
    · obtain ⟨k', s'', a, b⟩ := Lead.to (hr.s he) hl
      exact ⟨k', s'', by omega, b⟩
theorem Rch.lead {k s : Nat} (hr : Rch t c w k s) : ∀ {n : Nat}, Lead t c w n s → Lead t c w (k + n) (2 ^ t.length - 1) := by
  induction hr with
  | z => intro n h; rw [Nat.zero_add]; exact h
  | @s k s s' r _ he ih =>
    intro n h
    have := ih (n := n + 1) (.inr ⟨r, s', he, h⟩)
    rw [show k + 1 + n = k + (n + 1) by omega]; exact this
theorem Path.rch {L : List T_api_Rule} {s : Nat} (hp : Path t c w L s) : Rch t c w L.length s := by
  induction hp with
  | nil => exact .z
  | snoc _ he ih => rw [List.length_append]; exact ih.s he
theorem F41_L_eq (h : Tab t c w) {s n : Nat} (hs : s < 2 ^ t.length) {l : List Nat} (hl : FI t c s (Cand t w) l) {rc : List (List Int) → List Int → Int → Int → Option Bool} (hn : n < 1000) (hrc : ∀ g ∈ l, ∃ b, rc t c (sd s g : Int) n = some b ∧ (b = true ↔ Lead t c w n (sd s g))) :
    ∀ (k i : Nat), l.length + 1 ≤ k + i → i ≤ l.length → ∃ b, F41_L1 t c s ((n + 1 : Nat) : Int) (l.map (fun x : Nat => (x : Int))) rc k i = some b ∧ (b = true ↔ ∃ g ∈ l.drop i, Lead t c w n (sd s g))
  | 0, i, h1, h2 => by omega
  | k + 1, i, h1, h2 => by
    have hp := pow_small h
    have hll := hl.len
    rw [F41_L1, List.length_map, List.length_map]
    by_cases hi : i < l.length
    · have hd : l.drop i = l[i] :: l.drop (i + 1) := List.drop_eq_getElem_cons hi
      have hm := List.getElem_mem hi
      obtain ⟨b, e1, f1⟩ := hrc l[i] hm
      obtain ⟨r, hc, hok, hg0, hps⟩ := (hl.mem l[i]).1 hm
      have hg := psd_lt (t := t) (r := r) hs
      have hsub : ∀ j, (l[i]).testBit j = true → s.testBit j = true := fun j hj => by rw [← hps] at hj; exact psd_sub hj
      have e2 : IntKind.i64.wrap (((n + 1 : Nat) : Int) - 1) = (n : Int) := by rw [w64 (i := ((n + 1 : Nat) : Int) - 1) (by omega) (by omega)]; omega
      rw [show decide ((i : Int) < (l.length : Int)) = true from decide_eq_true (by omega), cond_true, geti_k, List.getElem?_map, List.getElem?_eq_getElem hi]
      show ∃ b, Option.bind (rc t c (IntKind.i64.wrap ((s : Int) - (l[i] : Int))) _) _ = _ ∧ _
      rw [sub_i (by omega) (by have := hl.lt l[i] hm; omega) hsub, e2, e1, Option.bind_some, hd]
      cases b with
      | true => exact ⟨true, rfl, ⟨fun _ => ⟨l[i], List.mem_cons_self, f1.1 rfl⟩, fun _ => rfl⟩⟩
      | false =>
        rw [cond_false, wi i (by omega)]
        obtain ⟨b', e3, f3⟩ := F41_L_eq h hs hl hn hrc k (i + 1) (by omega) (by omega)
        refine ⟨b', e3, f3.trans ⟨?_, ?_⟩⟩
        · rintro ⟨g, a, b⟩; exact ⟨g, List.mem_cons_of_mem _ a, b⟩
        · rintro ⟨g, a, b⟩
          rcases List.mem_cons.1 a with rfl | a
          · exact absurd (f1.2 b) (by decide)
          · exact ⟨g, a, b⟩
    · rw [show decide ((i : Int) < (l.length : Int)) = false from decide_eq_false (by omega), cond_false, List.drop_eq_nil_of_le (by omega)]
      exact ⟨false, rfl, by simp⟩
theorem F41_eq (h : Tab t c w) : ∀ (n f k s : Nat), Rch t c w k s → n + 5001 ≤ f → n < 1000 → ∃ b, F41 f t c s n = some b ∧ (b = true ↔ Lead t c w n s)
  | n, 0, _, _, _, hf, _ => by omega
  | n, f + 1, k, s, hr, hf, hn => by
    have hs := hr.lt h
    rw [F41, F54_eq h (by omega), Option.bind_some]
    cases hok : ok c s with
    | true => exact ⟨true, rfl, ⟨fun _ => lead_ok hok, fun _ => rfl⟩⟩
    | false =>
      rw [cond_false]
      cases n with
      | zero => exact ⟨false, rfl, ⟨fun e => (by cases e), fun e => by rw [show ok c s = true from e] at hok; cases hok⟩⟩
      | succ n =>
        rw [show (((n + 1 : Nat) : Int) == 0) = false from by rw [beq_eq_false_iff_ne]; omega, cond_false]
        obtain ⟨l, e1, f1⟩ := F53_eq h (fuel := f) (by omega) hs
        rw [e1, Option.bind_some]
        obtain ⟨b, e2, f2⟩ := F41_L_eq h hs f1 (n := n) (rc := F41 f) (by omega) (fun g hg => by
          obtain ⟨r, hc, hok, hg0, rfl⟩ := (f1.mem g).1 hg
          exact F41_eq h n f (k + 1) _ (hr.s ⟨hc, hok, hg0, rfl⟩) (by omega) (by omega)) f 0 (by have := f1.len; omega) (by omega)
        have e2' : F41_L1 t c s ((n + 1 : Nat) : Int) (l.map (fun x : Nat => (x : Int))) (F41 f) f 0 = _ := e2
        refine ⟨b, e2', f2.trans ?_⟩
        rw [List.drop_zero]
        constructor
        · rintro ⟨g, a, b⟩
          obtain ⟨r, hc, hok, hg0, rfl⟩ := (f1.mem g).1 a
          exact .inr ⟨r, _, ⟨hc, hok, hg0, rfl⟩, b⟩
        · rintro (a | ⟨r, s', he, b⟩)
          · rw [a] at hok; cases hok
          · obtain ⟨hc, hok', hg0, rfl⟩ := he
            exact ⟨psd t r s, (f1.mem _).2 ⟨r, hc, hok', hg0, rfl⟩, b⟩
theorem F20_L_eq (h : Tab t c w) {m : Nat} (hm : Lead t c w m (2 ^ t.length - 1)) (hmin : ∀ j, Lead t c w j (2 ^ t.length - 1) → m ≤ j) (hm12 : m < 900) : ∀ (k n : Nat), m + 1 ≤ k + n → n ≤ m → F20_L1 10000 t c k n = some ((m : Int), 0)
  | 0, n, h1, h2 => by omega
  | k + 1, n, h1, h2 => by
    obtain ⟨b, e1, f1⟩ := F41_eq h n 10000 0 _ .z (by omega) (by omega)
    rw [F20_L1, ass_t (decide_eq_true (by omega)), all_i h, e1, Option.bind_some]
    cases b with
    | true =>
      have := hmin n (f1.1 rfl)
      have : n = m := by omega
      subst this
      rfl
    | false =>
      have hne : n ≠ m := fun e => by subst e; exact absurd (f1.2 hm) (by decide)
      rw [Bool.not_false, cond_true, wi n (by omega)]
      exact F20_L_eq h hm hmin hm12 k (n + 1) (by omega) (by omega)
/-- The reference finds what the search finds. -/
theorem F20_eq (h : Tab t c w) {r : T_api_Rules × Int} (hr : Res t c w r) (hex : r.2 = 0 → ∃ L e, RightL t c w L e) : F20 10000 t c = some (if r.2 = 0 then (r.1.List.length : Int) else 0, r.2) := by
  obtain ⟨n', s', e1, hrch, hno⟩ := F40_eq h (fuel := 10000) (by omega)
  unfold F20
  rw [e1, Option.bind_some]
  rcases hr with ⟨L, s, rfl, hok, hp, _, hmin⟩ | ⟨rfl, hnone⟩
  · obtain ⟨L', e, hright⟩ := hex rfl
    have hoks : ok c s' = true := by
      rcases right_step h L' e s' hright.1 (hrch.lt h) (fun i row x hrow hx _ => hright.2 i row x hrow hx) with a | ⟨r, s'', he⟩
      · exact a
      · exact absurd he (hno r s'')
    rw [hoks, Bool.not_true, cond_false]
    have hlead : Lead t c w L.length (2 ^ t.length - 1) := by
      have := hp.rch.lead (n := 0) hok
      simpa using this
    have := F20_L_eq h hlead (fun j hj => by
      obtain ⟨k', s'', a, b, d⟩ := Lead.to (.z) hj
      have := hmin k' s'' b d
      omega) (by have := hp.len_le h; have := h.n12; omega) 10000 0 (by have := hp.len_le h; have := h.n12; omega) (by omega)
    have this' : F20_L1 10000 t c 10000 0 = _ := this
    rw [this']
    rfl
  · rw [hnone n' s' hrch, Bool.not_false, cond_true]
    rfl
end

/-! ### Good, Agrees, Table -/
theorem F21_eq {l : T_api_Rules} (hv : validB l = true) : F21 10000 l = some true := by
  unfold validB at hv
  rw [Bool.and_eq_true, Bool.and_eq_true] at hv
  obtain ⟨⟨h1, h2⟩, h3⟩ := hv
  have h1 := of_decide_eq_true h1
  have loop : ∀ (k i : Nat), l.List.length + 1 ≤ k + i → i ≤ l.List.length → F21_L1 l k i = some true := fun k => by
    induction k with
    | zero => intro i a b; omega
    | succ k ih =>
      intro i a b
      rw [F21_L1, List.length_map]
      by_cases hi : i < l.List.length
      · have hr := List.all_eq_true.1 h3 _ (List.getElem_mem hi)
        unfold ruleB at hr
        rw [Bool.and_eq_true, Bool.and_eq_true, Bool.and_eq_true] at hr
        obtain ⟨⟨⟨r1, r2⟩, r3⟩, r4⟩ := hr
        rw [show decide ((i : Int) < (l.List.length : Int)) = true from decide_eq_true (by omega), cond_true, geti_k, List.getElem?_eq_getElem hi, Option.bind_some, F42_eq, F42_eq, F42_eq, F42_eq]
        simp only [Option.bind_some, r1, r2, r3, r4, Bool.not_true, cond_false]
        rw [wi i (by omega)]
        exact ih (i + 1) (by omega) (by omega)
      · rw [show decide ((i : Int) < (l.List.length : Int)) = false from decide_eq_false (by omega), cond_false]
  unfold F21
  have hc : (decide (0 ≤ l.Else) && decide (l.Else ≤ 3)) = true := h2
  rw [List.length_map, show decide ((l.List.length : Int) > 12) = false from decide_eq_false (by omega), cond_false, F42_eq, hc, Option.bind_some, Option.bind_some, Bool.not_true, cond_false]
  exact loop 10000 0 (by omega) (by omega)
theorem F14_eq {l : T_api_Rules} {row : List Int} (hl : l.List.length < 1000000) (hfair : ∀ r ∈ l.List, Fair row.length r) : ∀ (k i : Nat), l.List.length + 1 ≤ k + i → i ≤ l.List.length → F14_L1 l row k i = some (choice (l.List.drop i) l.Else row)
  | 0, i, h, h' => by omega
  | k + 1, i, h, h' => by
    rw [F14_L1, List.length_map]
    by_cases hi : i < l.List.length
    · have hd : l.List.drop i = l.List[i] :: l.List.drop (i + 1) := List.drop_eq_getElem_cons hi
      rw [show decide ((i : Int) < (l.List.length : Int)) = true from decide_eq_true (by omega), cond_true, geti_k, List.getElem?_eq_getElem hi, Option.bind_some, F31_eq (hfair _ (List.getElem_mem hi)), Option.bind_some, Option.bind_some, hd]
      unfold choice
      cases hb : pas l.List[i] row with
      | true => rfl
      | false =>
        rw [cond_false, cond_false, wi i (by omega)]
        exact F14_eq hl hfair k (i + 1) (by omega) (by omega)
    · rw [show decide ((i : Int) < (l.List.length : Int)) = false from decide_eq_false (by omega), cond_false, List.drop_eq_nil_of_le (by omega)]
      rfl
theorem F22_eq {t : List (List Int)} {c : List Int} {w : Nat} {l : T_api_Rules} (h : Tab t c w) (hl : l.List.length ≤ 12) (hfair : ∀ r ∈ l.List, Fair w r) (hr : ∀ (i : Nat) (row : List Int) (x : Int), t[i]? = some row → c[i]? = some x → choice l.List l.Else row = x) : F22 10000 l t c = some true := by
  have h0 : 0 < t.length := h.n1
  have h12 := h.n12
  have hlen := h.len
  have fits : ∀ (k i : Nat), l.List.length + 1 ≤ k + i → i ≤ l.List.length → F43_L1 l (w : Int) k i = some true := fun k => by
    induction k with
    | zero => intro i a b; omega
    | succ k ih =>
      intro i a b
      rw [F43_L1, List.length_map]
      by_cases hi : i < l.List.length
      · obtain ⟨⟨v, hv, hvw⟩, _⟩ := hfair _ (List.getElem_mem hi)
        rw [show decide ((i : Int) < (l.List.length : Int)) = true from decide_eq_true (by omega), cond_true, geti_k, List.getElem?_eq_getElem hi, Option.bind_some, show decide (l.List[i].Var ≥ (w : Int)) = false from decide_eq_false (by omega), cond_false, wi i (by omega)]
        exact ih (i + 1) (by omega) (by omega)
      · rw [show decide ((i : Int) < (l.List.length : Int)) = false from decide_eq_false (by omega), cond_false]
  have agr : ∀ (k i : Nat), t.length + 1 ≤ k + i → i ≤ t.length → F22_L1 10000 l t c k i = some true := fun k => by
    induction k with
    | zero => intro i a b; omega
    | succ k ih =>
      intro i a b
      rw [F22_L1, List.length_map]
      by_cases hi : i < t.length
      · have h14 := F14_eq (l := l) (row := t[i]) (by omega) (by rw [h.row _ (List.getElem_mem hi)]; exact hfair) 10000 0 (by omega) (by omega)
        have h14' : F14 10000 l t[i] = some (choice (l.List.drop 0) l.Else t[i]) := h14
        have := hr i t[i] c[i] (List.getElem?_eq_getElem hi) (List.getElem?_eq_getElem (by omega))
        rw [show decide ((i : Int) < (t.length : Int)) = true from decide_eq_true (by omega), cond_true, geti_k, List.getElem?_eq_getElem hi, Option.bind_some, h14', Option.bind_some, List.drop_zero, this, geti_k, List.getElem?_eq_getElem (show i < c.length by omega), Option.bind_some, bne_self_eq_false, cond_false, wi i (by omega)]
        exact ih (i + 1) (by omega) (by omega)
      · rw [show decide ((i : Int) < (t.length : Int)) = false from decide_eq_false (by omega), cond_false]
  unfold F22
  have f1 : F43 10000 l (w : Int) = some true := fits 10000 0 (by omega) (by omega)
  rw [geti_0, List.getElem?_eq_getElem h0, Option.bind_some, List.length_map, h.row _ (List.getElem_mem h0), f1, Option.bind_some, Bool.not_true, cond_false]
  exact agr 10000 0 (by omega) (by omega)
theorem F44_eq {l : List Int} (hl : l.length ≤ 100) : F44 10000 l = some (rowB l) := by
  have loop : ∀ (k i : Nat), l.length + 1 ≤ k + i → i ≤ l.length → F44_L1 l k i = some ((l.drop i).all inB && (decide (1 ≤ l.length) && decide (l.length ≤ 4))) := fun k => by
    induction k with
    | zero => intro i a b; omega
    | succ k ih =>
      intro i a b
      rw [F44_L1, List.length_map]
      by_cases hi : i < l.length
      · have hd : l.drop i = l[i] :: l.drop (i + 1) := List.drop_eq_getElem_cons hi
        rw [show decide ((i : Int) < (l.length : Int)) = true from decide_eq_true (by omega), cond_true, geti_k, List.getElem?_eq_getElem hi, Option.bind_some, F42_eq, Option.bind_some, hd, List.all_cons]
        have : (decide (-99 ≤ l[i]) && decide (l[i] ≤ 99)) = inB l[i] := rfl
        rw [this]
        cases inB l[i] with
        | false => rfl
        | true =>
          rw [Bool.not_true, cond_false, wi i (by omega), ih (i + 1) (by omega) (by omega), Bool.true_and]
      · rw [show decide ((i : Int) < (l.length : Int)) = false from decide_eq_false (by omega), cond_false, List.drop_eq_nil_of_le (by omega), F42_eq, Option.bind_some, List.all_nil, Bool.true_and]
        congr 1
        rw [Bool.eq_iff_iff]; simp; omega
  have := loop 10000 0 (by omega) (by omega)
  unfold F44 rowB
  have this' : F44_L1 l 10000 0 = _ := this
  rw [this', List.drop_zero, Bool.and_comm]
theorem F23_eq {t : List (List Int)} (c : List Int) (ht : t.length ≤ 100) (hrow : ∀ row ∈ t, row.length ≤ 100) : F23 10000 t c = some (tabB t c) := by
  unfold F23 tabB
  rw [F42_eq, Option.bind_some, List.length_map, List.length_map]
  by_cases h : 1 ≤ t.length ∧ t.length ≤ 12
  · have h1 : (decide ((1 : Int) ≤ (t.length : Int)) && decide ((t.length : Int) ≤ 12)) = true := by simp; omega
    have h2 : (decide (1 ≤ t.length) && decide (t.length ≤ 12)) = true := by simp; omega
    rw [h1, h2, Bool.not_true, cond_false, Option.bind_some]
    by_cases hc : c.length = t.length
    · have : ((c.length : Int) != (t.length : Int)) = false := by rw [hc]; simp
      rw [this, cond_false, show decide (c.length = t.length) = true from decide_eq_true hc]
      have h0 : t[0]? = some t[0] := List.getElem?_eq_getElem (by omega)
      have loop : ∀ (k i : Nat), t.length + 1 ≤ k + i → i ≤ t.length → F23_L1 10000 t c k i = some (tabL t[0].length (t.drop i) (c.drop i)) := fun k => by
        induction k with
        | zero => intro i a b; omega
        | succ k ih =>
          intro i a b
          rw [F23_L1, List.length_map]
          by_cases hi : i < t.length
          · have hd : t.drop i = t[i] :: t.drop (i + 1) := List.drop_eq_getElem_cons hi
            have hdc : c.drop i = c[i] :: c.drop (i + 1) := List.drop_eq_getElem_cons (by omega)
            have ih := ih (i + 1) (by omega) (by omega)
            rw [show decide ((i : Int) < (t.length : Int)) = true from decide_eq_true (by omega), cond_true, geti_k, List.getElem?_eq_getElem hi, Option.bind_some, F44_eq (hrow _ (List.getElem_mem hi)), Option.bind_some, hd, hdc]
            unfold tabL
            cases hr : rowB t[i] with
            | false => rfl
            | true =>
              rw [Bool.not_true, cond_false, Option.bind_some, geti_0, h0, Option.bind_some, List.length_map, List.length_map]
              by_cases hlen : t[i].length = t[0].length
              · have : ((t[i].length : Int) != (t[0].length : Int)) = false := by rw [hlen]; simp
                rw [this, cond_false, geti_k, List.getElem?_eq_getElem (show i < c.length by omega), Option.bind_some, F42_eq, Option.bind_some, Option.bind_some, show decide (t[i].length = t[0].length) = true from decide_eq_true hlen]
                have : (decide ((0 : Int) ≤ c[i]) && decide (c[i] ≤ 3)) = chB c[i] := rfl
                rw [this]
                cases chB c[i] with
                | false => rfl
                | true => rw [Bool.not_true, cond_false, wi i (by omega), ih]; rfl
              · have : ((t[i].length : Int) != (t[0].length : Int)) = true := by rw [bne_iff_ne]; omega
                rw [this, cond_true, Option.bind_some, show decide (t[i].length = t[0].length) = false from decide_eq_false hlen]
                rfl
          · rw [show decide ((i : Int) < (t.length : Int)) = false from decide_eq_false (by omega), cond_false, List.drop_eq_nil_of_le (by omega)]
            rfl
      rw [h0]
      exact loop 10000 0 (by omega) (by omega)
    · have : ((c.length : Int) != (t.length : Int)) = true := by rw [bne_iff_ne]; omega
      rw [this, cond_true, show decide (c.length = t.length) = false from decide_eq_false hc]
      rfl
  · have h1 : (decide ((1 : Int) ≤ (t.length : Int)) && decide ((t.length : Int) ≤ 12)) = false := by
      rw [Bool.and_eq_false_iff, decide_eq_false_iff_not, decide_eq_false_iff_not]; omega
    have h2 : (decide (1 ≤ t.length) && decide (t.length ≤ 12)) = false := by
      rw [Bool.and_eq_false_iff, decide_eq_false_iff_not, decide_eq_false_iff_not]; omega
    rw [h1, h2, Bool.not_false, cond_true]
    rfl
theorem slc_min {α : Type} (l : List α) (m : Nat) : slc l 0 (bif decide ((m : Int) < (l.length : Int)) then (m : Int) else (l.length : Int)) = some (l.take m) := by
  by_cases h : m < l.length
  · rw [show decide ((m : Int) < (l.length : Int)) = true from decide_eq_true (by omega), cond_true]
    exact slc_to l m (by omega)
  · rw [show decide ((m : Int) < (l.length : Int)) = false from decide_eq_false (by omega), cond_false, slc_to l l.length (Nat.le_refl _), List.take_length, List.take_of_length_le (by omega)]
theorem F16_eq (d : List (List Int)) : ∃ t, F16 10000 d = some t ∧ t.length ≤ 14 ∧ ∀ row ∈ t, row.length ≤ 6 := by
  have loop : ∀ (l1 : List (List Int)), l1.length ≤ 14 → ∀ (k i : Nat) (l : List (List Int)), l1.length + 1 ≤ k + i → i ≤ l1.length → l.length = i → (∀ row ∈ l, row.length ≤ 6) → ∃ t, F16_L1 l1 k i l = some t ∧ t.length ≤ 14 ∧ ∀ row ∈ t, row.length ≤ 6 := fun l1 h14 k => by
    induction k with
    | zero => intro i l a b; omega
    | succ k ih =>
      intro i l a b hl hr
      rw [F16_L1, List.length_map]
      by_cases hi : i < l1.length
      · have hs := slc_min l1[i] 6
        rw [show decide ((i : Int) < (l1.length : Int)) = true from decide_eq_true (by omega), cond_true, geti_k, List.getElem?_eq_getElem hi, Option.bind_some, List.length_map]
        have hs' : slc l1[i] 0 (bif decide (6 < (l1[i].length : Int)) then 6 else (l1[i].length : Int)) = some (l1[i].take 6) := hs
        rw [hs', Option.bind_some, app_1 _ _ (by omega), Option.bind_some, wi i (by omega)]
        refine ih (i + 1) _ (by omega) (by omega) (by simp [hl]) (fun row hrow => ?_)
        rcases List.mem_append.1 hrow with h | h
        · exact hr row h
        · simp at h; subst h; simp; omega
      · rw [show decide ((i : Int) < (l1.length : Int)) = false from decide_eq_false (by omega), cond_false]
        exact ⟨l, rfl, by omega, hr⟩
  unfold F16
  have hs := slc_min d 14
  have hs' : slc d 0 (bif decide (14 < (d.length : Int)) then 14 else (d.length : Int)) = some (d.take 14) := hs
  rw [List.length_map, hs', Option.bind_some]
  exact loop (d.take 14) (by simp; omega) 10000 0 [] (by simp; omega) (by omega) rfl (by simp)

/-! ### RulesShortest -/
theorem F4_true {d0 : T_croupierref30_Draft} (d1 : List (List Int)) (d2 : List Int) (h : OkD d0) : F4 10000 d0 d1 d2 = some true := by
  unfold F4
  rw [F11_true, Option.bind_some, Bool.not_true, cond_false]
  obtain ⟨t, c, e1, ht, h6⟩ := F12_eq h (fuel := 10000) (by omega)
  rw [e1, Option.bind_some]
  obtain ⟨r, f1, hres⟩ := F19_eq ht (fuel := 10000) (by omega)
  obtain ⟨r', f1', s1, v1⟩ := F19_valid ht
  rw [f1] at f1'; cases f1'
  have hex : r.2 = 0 → ∃ L e, RightL t c (wide d0) L e := fun h0 => by
    rcases s1 with ⟨_, a, _⟩ | ⟨a, _⟩
    · exact ⟨_, _, a⟩
    · rw [h0] at a; cases a
  have h20 := F20_eq ht hres hex
  show Option.bind (F19 10000 t c) _ = _
  rw [f1, Option.bind_some]
  show Option.bind (F20 10000 t c) _ = _
  rw [h20, Option.bind_some]
  have hne : (r.2 != r.2) = false := by simp
  obtain ⟨t', f2, g1, g2⟩ := F16_eq d1
  have hrest : (Option.bind (F16 10000 d1) fun y9 => Option.bind (F23 10000 y9 d2) fun y10 => bif y10 then (some true) else (Option.bind (F19 10000 y9 d2) fun y11 => some (y11.2 == 2))) = some true := by
    rw [f2, Option.bind_some, F23_eq d2 (by omega) (fun row hr => by have := g2 row hr; omega), Option.bind_some]
    cases hb : tabB t' d2 with
    | true => rfl
    | false =>
      rw [cond_false]
      unfold F19
      rw [F33_eq (by omega), Option.bind_some, hb]
      rfl
  rcases s1 with ⟨a, hr, _⟩ | ⟨a, a', _⟩
  · obtain ⟨hv, hle⟩ := v1 a
    have h12 := ht.n12
    simp only [a, if_true, bne_self_eq_false, cond_false, List.length_map, F21_eq hv, F22_eq ht (by omega) hr.1 hr.2, Option.bind_some, Bool.not_true]
    rw [show ((0 : Int) == 0) = true from rfl, cond_true, Option.bind_some, cond_false]
    exact hrest
  · simp only [a, a', bne_self_eq_false, cond_false, List.map_nil, List.length_nil]
    rw [show ((4 : Int) == 0) = false from rfl, cond_false, show ((4 : Int) != 0) = true from rfl, cond_true]
    exact hrest
end Go.Proofs.Ytljkgnjmigmcgaa
