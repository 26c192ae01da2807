/- Plain law: what the search's functions compute. -/
import Derived.Test.YtljkgnjmigmcgaaP1
namespace Go.Proofs.Ytljkgnjmigmcgaa
open Go Go.RowKit Kx

/-! ### one: do the rows of a set have one choice? -/
def oneL (s : Nat) : List Int → Nat → Int → Bool → Int × Bool
  | [], _, v, _ => (v, true)
  | x :: l, i, v, b => bif s.testBit i then (bif b && x != v then (0, false) else oneL s l (i + 1) x true) else oneL s l (i + 1) v b
theorem F36_eq {t : List (List Int)} {c : List Int} (hl : t.length = c.length) (hn : c.length ≤ 62) {s : Nat} (hs : s < 18446744073709551616) :
    ∀ (k i : Nat) (v : Int) (b : Bool), c.length + 1 ≤ k + i → i ≤ c.length → F36_L1 t c s k v b i = some (oneL s (c.drop i) i v b)
  | 0, i, _, _, h, h' => by omega
  | k + 1, i, v, b, h, h' => by
    rw [F36_L1]
    by_cases hi : i < c.length
    · rw [show decide ((i : Int) < ((t.map e_li64).length : Int)) = true from decide_eq_true (by rw [List.length_map, hl]; omega)]
      rw [cond_true, ass_t (decide_eq_true (by omega)), bit_eq hs (by omega)]
      have hd : c.drop i = c[i] :: c.drop (i + 1) := List.drop_eq_getElem_cons hi
      have hg : geti c (i : Int) = some c[i] := by rw [geti_k]; exact List.getElem?_eq_getElem hi
      have ih := F36_eq hl hn hs k (i + 1)
      rw [hd]
      unfold oneL F36_A2
      rw [wi i (by omega)]
      cases hb : s.testBit i with
      | false => simp only [Bool.false_eq_true, if_false, cond_true, beq_self_eq_true, cond_false]; exact ih v b (by omega) (by omega)
      | true =>
        simp only [if_true, cond_true, hg, Option.bind_some]
        rw [show ((1 : Int) == 0) = false from rfl, cond_false]
        cases b with
        | true =>
          simp only [cond_true, Bool.true_and, Option.bind_some]
          cases hx : (c[i] != v) with
          | true => rfl
          | false => exact ih _ true (by omega) (by omega)
        | false => simp only [cond_false, Bool.false_and, Option.bind_some]; exact ih _ true (by omega) (by omega)
    · rw [show decide ((i : Int) < ((t.map e_li64).length : Int)) = false from decide_eq_false (by rw [List.length_map, hl]; omega)]
      rw [cond_false, List.drop_eq_nil_of_le (by omega)]
      rfl
/-- What it says. -/
theorem oneL_spec {s : Nat} : ∀ (l : List Int) (i : Nat) (v : Int) (b : Bool),
    ((oneL s l i v b).2 = true → (b = true → (oneL s l i v b).1 = v) ∧ (∀ (j : Nat) (x : Int), l[j]? = some x → s.testBit (i + j) = true → x = (oneL s l i v b).1) ∧ (b = false → (∀ j, j < l.length → s.testBit (i + j) = false) → (oneL s l i v b).1 = v)) ∧
    ((oneL s l i v b).2 = false → ¬ ∃ y, (b = true → v = y) ∧ ∀ (j : Nat) (x : Int), l[j]? = some x → s.testBit (i + j) = true → x = y)
  | [], i, v, b => ⟨fun _ => ⟨fun _ => rfl, fun j x h => by simp at h, fun _ _ => rfl⟩, fun h => by cases h⟩
  | x :: l, i, v, b => by
    unfold oneL
    have step : ∀ (v' : Int) (b' : Bool) j, s.testBit (i + 1 + j) = s.testBit (i + (j + 1)) := fun _ _ j => by rw [show i + 1 + j = i + (j + 1) by omega]
    cases hb : s.testBit i with
    | true =>
      simp only [cond_true]
      cases hx : (b && x != v) with
      | true =>
        simp only [cond_true]
        refine ⟨fun h => by (cases h), fun _ ⟨y, h1, h2⟩ => ?_⟩
        simp only [Bool.and_eq_true, bne_iff_ne, ne_eq] at hx
        have := h2 0 x rfl (by simpa using hb)
        exact hx.2 (this.trans (h1 hx.1).symm)
      | false =>
        simp only [cond_false]
        obtain ⟨h1, h2⟩ := oneL_spec l (i + 1) x true (s := s)
        refine ⟨fun h => ?_, fun h => ?_⟩
        · obtain ⟨a1, a2, _⟩ := h1 h
          have a1 := a1 rfl
          refine ⟨fun hbt => ?_, fun j y hj hy => ?_, fun _ hall => ?_⟩
          · rw [a1]; subst hbt; simpa using hx
          · cases j with
            | zero => simp at hj; subst hj; exact a1.symm
            | succ j => exact a2 j y (by simpa using hj) (by rw [step x true]; exact hy)
          · have := hall 0 (by simp); rw [Nat.add_zero, hb] at this; cases this
        · rintro ⟨y, b1, b2⟩
          refine h2 h ⟨y, fun _ => b2 0 x rfl (by simpa using hb), fun j z hj hz => b2 (j + 1) z (by simpa using hj) (by rw [← step x true]; exact hz)⟩
    | false =>
      simp only [cond_false]
      obtain ⟨h1, h2⟩ := oneL_spec l (i + 1) v b (s := s)
      refine ⟨fun h => ?_, fun h => ?_⟩
      · obtain ⟨a1, a2, a3⟩ := h1 h
        refine ⟨a1, fun j y hj hy => ?_, fun hbf hall => a3 hbf fun j hj => ?_⟩
        · cases j with
          | zero => rw [Nat.add_zero, hb] at hy; cases hy
          | succ j => exact a2 j y (by simpa using hj) (by rw [step v b]; exact hy)
        · rw [step v b]; exact hall (j + 1) (by simpa using hj)
      · rintro ⟨y, b1, b2⟩
        exact h2 h ⟨y, b1, fun j z hj hz => b2 (j + 1) z (by simpa using hj) (by rw [← step v b]; exact hz)⟩
def ok (c : List Int) (s : Nat) : Bool := (oneL s c 0 0 false).2
def ch (c : List Int) (s : Nat) : Int := (oneL s c 0 0 false).1
theorem ok_ch {c : List Int} {s : Nat} (h : ok c s = true) {j : Nat} {x : Int} (hj : c[j]? = some x) (hb : s.testBit j = true) : x = ch c s :=
  ((oneL_spec c 0 0 false).1 h).2.1 j x hj (by rw [Nat.zero_add]; exact hb)
theorem ch_none {c : List Int} {s : Nat} (h : ok c s = true) (h0 : ∀ j, j < c.length → s.testBit j = false) : ch c s = 0 :=
  ((oneL_spec c 0 0 false).1 h).2.2 rfl (fun j hj => by rw [Nat.zero_add]; exact h0 j hj)
theorem ok_of {c : List Int} {s : Nat} (y : Int) (h : ∀ (j : Nat) (x : Int), c[j]? = some x → s.testBit j = true → x = y) : ok c s = true := by
  cases hk : ok c s with
  | true => rfl
  | false => exact absurd ⟨y, (fun e => by cases e), fun j x hj hb => h j x hj (by rw [Nat.zero_add] at hb; exact hb)⟩ ((oneL_spec c 0 0 false).2 hk)

/-! ### passed: the rows of a set for which a rule passes -/
def pas (r : T_api_Rule) (row : List Int) : Bool := match row[r.Var.toNat]? with
  | some x => bif decide (r.Test = 1) then x == r.Val else bif decide (r.Test = 2) then decide (x ≤ r.Val) else decide (x ≥ r.Val)
  | none => false
/-- A rule that makes sense for rows of w values. -/
def Fair (w : Nat) (r : T_api_Rule) : Prop := (∃ v : Nat, r.Var = v ∧ v < w) ∧ (r.Test = 1 ∨ r.Test = 2 ∨ r.Test = 3)
theorem F52_eq {r : T_api_Rule} {row : List Int} (h : Fair row.length r) : F52 r row = some (pas r row) := by
  obtain ⟨⟨v, hv, hlt⟩, ht⟩ := h
  unfold F52 pas F58
  have hg : geti row r.Var = some row[v] := by rw [hv, geti_k]; exact List.getElem?_eq_getElem hlt
  have hg2 : row[r.Var.toNat]? = some row[v] := by rw [hv, Int.toNat_natCast]; exact List.getElem?_eq_getElem hlt
  rw [hg, hg2]
  rcases ht with h | h | h <;> rw [h] <;> simp [F60, F61, F62]
def pasL (r : T_api_Rule) (s : Nat) : List (List Int) → Nat → Nat → Nat
  | [], _, v => v
  | x :: l, i, v => bif s.testBit i && pas r x then pasL r s l (i + 1) (v ||| 2 ^ i) else pasL r s l (i + 1) v
theorem F39_eq {t : List (List Int)} {r : T_api_Rule} (hr : ∀ row ∈ t, Fair row.length r) (hn : t.length ≤ 61) {s : Nat} (hs : s < 18446744073709551616) :
    ∀ (k i v : Nat), t.length + 1 ≤ k + i → i ≤ t.length → v < 2 ^ i → F39_L1 t r s k v i = some (pasL r s (t.drop i) i v : Int)
  | 0, i, _, h, h', _ => by omega
  | k + 1, i, v, h, h', hv => by
    rw [F39_L1]
    by_cases hi : i < t.length
    · rw [show decide ((i : Int) < ((t.map e_li64).length : Int)) = true from decide_eq_true (by rw [List.length_map]; omega)]
      have hd : t.drop i = t[i] :: t.drop (i + 1) := List.drop_eq_getElem_cons hi
      have hg : geti t (i : Int) = some t[i] := by rw [geti_k]; exact List.getElem?_eq_getElem hi
      have h64 : (2 : Nat) ^ i < 18446744073709551616 := Nat.lt_of_lt_of_le (Nat.pow_lt_pow_right (by omega) (show i < 64 by omega)) (by decide)
      have hor : v ||| 2 ^ i < 2 ^ (i + 1) := Nat.or_lt_two_pow (Nat.lt_of_lt_of_le hv (Nat.pow_le_pow_right (by omega) (by omega))) (Nat.pow_lt_pow_right (by omega) (by omega))
      have ih := F39_eq hr hn hs k (i + 1)
      rw [cond_true, hg, Option.bind_some, ass_t (decide_eq_true (by omega)), bit_eq hs (by omega), F52_eq (hr _ (List.getElem_mem hi)), hd]
      unfold pasL F39_A2
      rw [wi i (by omega)]
      cases hb : s.testBit i with
      | false =>
        simp only [Bool.false_eq_true, if_false, Bool.false_and, cond_false]
        rw [show ((0 : Int) == 1) = false from rfl, cond_false, Option.bind_some, cond_false]
        exact ih v (by omega) (by omega) (Nat.lt_of_lt_of_le hv (Nat.pow_le_pow_right (by omega) (by omega)))
      | true =>
        simp only [if_true, Bool.true_and, Option.bind_some]
        rw [show ((1 : Int) == 1) = true from rfl, cond_true, Option.bind_some]
        cases hp : pas r t[i] with
        | true =>
          rw [cond_true, cond_true, ass_t (decide_eq_true (by omega)), pow_eq (by omega), or_eq (Nat.lt_trans hv h64) h64]
          exact ih _ (by omega) (by omega) hor
        | false =>
          rw [cond_false, cond_false]
          exact ih v (by omega) (by omega) (Nat.lt_of_lt_of_le hv (Nat.pow_le_pow_right (by omega) (by omega)))
    · rw [show decide ((i : Int) < ((t.map e_li64).length : Int)) = false from decide_eq_false (by rw [List.length_map]; omega)]
      rw [cond_false, List.drop_eq_nil_of_le (by omega)]
      rfl
theorem pasL_bit {r : T_api_Rule} {s : Nat} : ∀ (l : List (List Int)) (i v j : Nat), (pasL r s l i v).testBit j = (v.testBit j || (decide (i ≤ j) && s.testBit j && (match l[j - i]? with | some x => pas r x | none => false)))
  | [], i, v, j => by simp [pasL]
  | x :: l, i, v, j => by
    unfold pasL
    have hshift : ∀ b : Bool, (decide (i + 1 ≤ j) && s.testBit j && (match l[j - (i + 1)]? with | some x => pas r x | none => false)) = (decide (i + 1 ≤ j) && (decide (i ≤ j) && s.testBit j && (match (x :: l)[j - i]? with | some x => pas r x | none => false))) := fun _ => by
      by_cases h : i + 1 ≤ j
      · have : j - i = (j - (i + 1)) + 1 := by omega
        rw [this, List.getElem?_cons_succ]
        simp [h, show i ≤ j by omega]
      · simp [h]
    cases hb : (s.testBit i && pas r x) with
    | true =>
      rw [cond_true, pasL_bit l (i + 1) _ j, Nat.testBit_or, Nat.testBit_two_pow, hshift true]
      by_cases e : i = j
      · subst e
        simp only [Bool.and_eq_true] at hb
        simp [hb.1, hb.2]
      · have e1 : decide (i = j) = false := decide_eq_false e
        by_cases h : i + 1 ≤ j
        · simp [e1, h]
        · simp [e1, h, show ¬ i ≤ j by omega]
    | false =>
      rw [cond_false, pasL_bit l (i + 1) _ j, hshift true]
      by_cases e : i = j
      · subst e
        simp only [Nat.lt_irrefl, Nat.sub_self, List.getElem?_cons_zero, Nat.le_refl, decide_true, Bool.true_and]
        rw [hb]
        simp
      · by_cases h : i + 1 ≤ j
        · simp [h]
        · simp [h, show ¬ i ≤ j by omega]
def psd (t : List (List Int)) (r : T_api_Rule) (s : Nat) : Nat := pasL r s t 0 0
theorem psd_bit {t : List (List Int)} {r : T_api_Rule} {s j : Nat} : (psd t r s).testBit j = (s.testBit j && (match t[j]? with | some x => pas r x | none => false)) := by
  unfold psd; rw [pasL_bit]; simp
end Go.Proofs.Ytljkgnjmigmcgaa
