/- Plain law: the candidates; the way back. -/
import Derived.Test.YtljkgnjmigmcgaaP2
namespace Go.Proofs.Ytljkgnjmigmcgaa
open Go Go.RowKit Kx

/-! ### The map of what is known -/
theorem mhas_put {m : List (Int × T_rules_step)} {k k' : Int} {v : T_rules_step} : mhasF (mputF m k v) k' = (decide (k = k') || mhasF m k') := by
  induction m with
  | nil => simp [mputF, mhasF]
  | cons x m ih =>
    unfold mputF
    cases h : decide (x.1 = k) with
    | true =>
      have := of_decide_eq_true h
      rw [cond_true]
      unfold mhasF
      subst this
      cases h2 : decide (x.1 = k') <;> simp
    | false =>
      rw [cond_false]
      unfold mhasF
      rw [ih]
      cases h2 : decide (x.1 = k') <;> cases h3 : decide (k = k') <;> simp
theorem mlook_same {m : List (Int × T_rules_step)} {k : Int} {v z : T_rules_step} : mlookF (mputF m k v) k z = v := by
  induction m with
  | nil => simp [mputF, mlookF]
  | cons x m ih =>
    unfold mputF
    cases h : decide (x.1 = k) with
    | true => rw [cond_true]; simp [mlookF]
    | false => rw [cond_false]; unfold mlookF; rw [h, cond_false, ih]
theorem mlook_ne {m : List (Int × T_rules_step)} {k k' : Int} {v z : T_rules_step} (hne : k ≠ k') : mlookF (mputF m k v) k' z = mlookF m k' z := by
  induction m with
  | nil => simp [mputF, mlookF, hne]
  | cons x m ih =>
    unfold mputF
    cases h : decide (x.1 = k) with
    | true =>
      have := of_decide_eq_true h
      rw [cond_true]
      unfold mlookF
      rw [show decide ((k, v).1 = k') = false from decide_eq_false hne, this, show decide (k = k') = false from decide_eq_false hne]
      rfl
    | false =>
      rw [cond_false]
      unfold mlookF
      rw [ih]

/-! ### candidates -/
def three (v : Nat) (x : Int) : List T_api_Rule := [⟨v, 1, x, 0⟩, ⟨v, 2, x, 0⟩, ⟨v, 3, x, 0⟩]
theorem F38_L3_eq {v i : Nat} {row : List Int} {x : Int} {rc : Int → Option (List T_api_Rule)} {rest : List T_api_Rule} (hi : i < 1000000) (hx : row[v]? = some x) (hr : rc ((i + 1 : Nat) : Int) = some rest) (k : Nat) : F38_L3 v i row rc (k + 4) 1 = some (three v x ++ rest) := by
  have hg : geti row (v : Int) = some x := by rw [geti_k]; exact hx
  have e2 : IntKind.i64.wrap (1 + 1) = 2 := by rw [w64 (by omega) (by omega)]; rfl
  have e3 : IntKind.i64.wrap (2 + 1) = 3 := by rw [w64 (by omega) (by omega)]; rfl
  have e4 : IntKind.i64.wrap (3 + 1) = 4 := by rw [w64 (by omega) (by omega)]; rfl
  rw [F38_L3, show decide ((1 : Int) ≤ 3) = true from rfl, cond_true, hg, Option.bind_some, e2]
  rw [F38_L3, show decide ((2 : Int) ≤ 3) = true from rfl, cond_true, hg, Option.bind_some, e3]
  rw [F38_L3, show decide ((3 : Int) ≤ 3) = true from rfl, cond_true, hg, Option.bind_some, e4]
  rw [F38_L3, show decide ((4 : Int) ≤ 3) = false from rfl, cond_false, wi i (by omega), hr]
  rfl
theorem F38_L2_eq {t : List (List Int)} {w v : Nat} (hw : ∀ row ∈ t, row.length = w) (hv : v < w) (hn : t.length < 1000) {rc : Int → Option (List T_api_Rule)} {rest : List T_api_Rule} (hv2 : v < 1000) (hr : rc ((v + 1 : Nat) : Int) = some rest) (fuel : Nat) :
    ∀ (k i : Nat), t.length + 1 ≤ k + i → i ≤ t.length → ∃ l, F38_L2 (fuel + 4) t v rc k i = some (l ++ rest) ∧ ∀ r, r ∈ l ↔ ∃ row ∈ t.drop i, ∃ x, row[v]? = some x ∧ r ∈ three v x
  | 0, i, h, h' => by omega
  | k + 1, i, h, h' => by
    rw [F38_L2]
    by_cases hi : i < t.length
    · have hd : t.drop i = t[i] :: t.drop (i + 1) := List.drop_eq_getElem_cons hi
      obtain ⟨l, h1, h2⟩ := F38_L2_eq hw hv hn hv2 hr fuel k (i + 1) (by omega) (by omega)
      have hlen : t[i].length = w := hw _ (List.getElem_mem hi)
      have hx : t[i][v]? = some t[i][v] := List.getElem?_eq_getElem (by omega)
      rw [show decide ((i : Int) < ((t.map e_li64).length : Int)) = true from decide_eq_true (by rw [List.length_map]; omega), cond_true, geti_k, List.getElem?_eq_getElem hi, Option.bind_some, F38_L3_eq (by omega) hx h1 fuel]
      refine ⟨three v t[i][v] ++ l, by rw [List.append_assoc], fun r => ?_⟩
      rw [List.mem_append, h2 r, hd]
      constructor
      · rintro (h | ⟨row, hrow, x, h3, h4⟩)
        · exact ⟨t[i], List.mem_cons_self, _, hx, h⟩
        · exact ⟨row, List.mem_cons_of_mem _ hrow, x, h3, h4⟩
      · rintro ⟨row, hrow, x, h3, h4⟩
        rcases List.mem_cons.1 hrow with rfl | hrow
        · rw [hx] at h3; cases h3; exact .inl h4
        · exact .inr ⟨row, hrow, x, h3, h4⟩
    · rw [show decide ((i : Int) < ((t.map e_li64).length : Int)) = false from decide_eq_false (by rw [List.length_map]; omega), cond_false, wi v (by omega), hr]
      refine ⟨[], rfl, fun r => ?_⟩
      rw [List.drop_eq_nil_of_le (by omega)]
      simp
theorem F38_L1_eq {t : List (List Int)} {w : Nat} (hw : ∀ row ∈ t, row.length = w) (hn : t.length < 1000) (hw2 : w < 1000) {y1 : List Int} (hy : y1.length = w) (fuel : Nat) (hf : t.length + 1 ≤ fuel + 4) :
    ∀ (k v : Nat), w + 1 ≤ k + v → v ≤ w → ∃ l, F38_L1 (fuel + 4) t y1 k v = some l ∧ ∀ r, r ∈ l ↔ ∃ v', v ≤ v' ∧ v' < w ∧ ∃ row ∈ t, ∃ x, row[v']? = some x ∧ r ∈ three v' x
  | 0, i, h, h' => by omega
  | k + 1, v, h, h' => by
    rw [F38_L1]
    by_cases hv : v < w
    · obtain ⟨l, h1, h2⟩ := F38_L1_eq hw hn hw2 hy fuel hf k (v + 1) (by omega) (by omega)
      obtain ⟨l2, h3, h4⟩ := F38_L2_eq hw hv hn (by omega) h1 fuel (fuel + 4) 0 (by omega) (by omega)
      rw [show decide ((v : Int) < ((y1.map e_i64).length : Int)) = true from decide_eq_true (by rw [List.length_map]; omega), cond_true]
      refine ⟨l2 ++ l, h3, fun r => ?_⟩
      rw [List.mem_append, h2 r, h4 r]
      constructor
      · rintro (⟨row, a, x, b, d⟩ | ⟨v', a, b, d⟩)
        · exact ⟨v, Nat.le_refl _, hv, row, by simpa using a, x, b, d⟩
        · exact ⟨v', by omega, b, d⟩
      · rintro ⟨v', a, b, row, d, x, e, f⟩
        by_cases hvv : v' = v
        · subst hvv; exact .inl ⟨row, by simpa using d, x, e, f⟩
        · exact .inr ⟨v', by omega, b, row, d, x, e, f⟩
    · rw [show decide ((v : Int) < ((y1.map e_i64).length : Int)) = false from decide_eq_false (by rw [List.length_map]; omega), cond_false]
      refine ⟨[], rfl, fun r => ?_⟩
      constructor
      · intro h; cases h
      · rintro ⟨v', a, b, _⟩; omega
/-- The candidates of a table. -/
def Cand (t : List (List Int)) (w : Nat) (r : T_api_Rule) : Prop := ∃ v, v < w ∧ ∃ row ∈ t, ∃ x, row[v]? = some x ∧ r ∈ three v x
theorem F38_eq {t : List (List Int)} {w : Nat} (hw : ∀ row ∈ t, row.length = w) (h0 : t ≠ []) (hn : t.length < 1000) (hw2 : w < 1000) {c : List Int} {fuel : Nat} (hf : 1004 ≤ fuel) : ∃ l, F38 fuel t c = some l ∧ ∀ r, r ∈ l ↔ Cand t w r := by
  obtain ⟨row0, t', rfl⟩ : ∃ a b, t = a :: b := by cases t with | nil => exact absurd rfl h0 | cons a b => exact ⟨a, b, rfl⟩
  obtain ⟨f, rfl⟩ : ∃ f, fuel = f + 4 := ⟨fuel - 4, by omega⟩
  obtain ⟨l, h1, h2⟩ := F38_L1_eq hw hn hw2 (hw row0 List.mem_cons_self) f (by omega) (f + 4) 0 (by omega) (by omega)
  refine ⟨l, ?_, fun r => ?_⟩
  · unfold F38; rw [geti_0]; exact h1
  · rw [h2 r]
    constructor
    · rintro ⟨v, _, b⟩; exact ⟨v, b⟩
    · rintro ⟨v, b⟩; exact ⟨v, Nat.zero_le _, b⟩

/-! ### Reverse -/
theorem F51_eq : ∀ (k : Nat) (a b c : List T_api_Rule) (j : Int), a.length = c.length → a.length + b.length < 1000000 → j = (a.length : Int) + b.length - 1 → b.length + 2 ≤ 2 * k → F51_L1 k (a.length : Int) j (a ++ b ++ c) = some (a ++ b.reverse ++ c)
  | 0, a, b, c, j, _, _, _, h => by omega
  | k + 1, a, b, c, j, hac, hlt, hj, h => by
    rw [F51_L1]
    by_cases hb : 2 ≤ b.length
    · rw [show decide ((a.length : Int) < j) = true from decide_eq_true (by omega), cond_true]
      obtain ⟨x, b1, rfl⟩ : ∃ x b1, b = x :: b1 := by cases b with | nil => simp at hb | cons x b1 => exact ⟨x, b1, rfl⟩
      obtain ⟨b2, y, rfl⟩ : ∃ b2 y, b1 = b2 ++ [y] := by
        rcases List.eq_nil_or_concat b1 with rfl | ⟨b2, y, rfl⟩
        · simp at hb
        · exact ⟨b2, y, by simp⟩
      have hj' : j = ((a.length + (b2.length + 1) : Nat) : Int) := by simp at hj; omega
      have e1 : a ++ x :: (b2 ++ [y]) ++ c = a ++ (x :: (b2 ++ (y :: c))) := by simp
      have g1 : geti (a ++ x :: (b2 ++ [y]) ++ c) j = some y := by
        rw [hj', geti_k, e1, List.getElem?_append_right (by omega), show a.length + (b2.length + 1) - a.length = b2.length + 1 by omega, List.getElem?_cons_succ, List.getElem?_append_right (by omega)]
        simp
      have g2 : geti (a ++ x :: (b2 ++ [y]) ++ c) (a.length : Int) = some x := by
        rw [geti_k, e1, List.getElem?_append_right (by omega)]; simp
      have s1 : (a ++ x :: (b2 ++ [y]) ++ c).set (0 + Int.toNat (a.length : Int)) y = a ++ (y :: (b2 ++ (y :: c))) := by
        rw [e1, Nat.zero_add, Int.toNat_natCast, List.set_append_right _ _ (by omega)]; simp
      have g3 : geti (a ++ (y :: (b2 ++ (y :: c)))) j = some y := by
        rw [hj', geti_k, List.getElem?_append_right (by omega), show a.length + (b2.length + 1) - a.length = b2.length + 1 by omega, List.getElem?_cons_succ, List.getElem?_append_right (by omega)]
        simp
      have s2 : (a ++ (y :: (b2 ++ (y :: c)))).set (0 + Int.toNat j) x = (a ++ [y]) ++ b2 ++ (x :: c) := by
        rw [hj', Nat.zero_add, Int.toNat_natCast, List.set_append_right _ _ (by omega), show a.length + (b2.length + 1) - a.length = b2.length + 1 by omega, List.set_cons_succ, List.set_append_right _ _ (by omega)]
        simp
      rw [g1, Option.bind_some, g2, Option.bind_some, Option.bind_some, Option.bind_some, s1, g3, Option.bind_some, Option.bind_some, s2]
      have ih := F51_eq k (a ++ [y]) b2 (x :: c) (j - 1) (by simp; omega) (by simp at hlt ⊢; omega) (by simp at hj ⊢; omega) (by simp at h ⊢; omega)
      have w1 : IntKind.i64.wrap ((a.length : Int) + 1) = ((a ++ [y]).length : Int) := by rw [wi _ (by omega)]; simp
      have w2 : IntKind.i64.wrap (j - 1) = j - 1 := w64 (by omega) (by simp at hlt; omega)
      rw [w1, w2, ih]
      simp
    · rw [show decide ((a.length : Int) < j) = false from decide_eq_false (by omega), cond_false]
      have : b.reverse = b := by
        match b, hb with
        | [], _ => rfl
        | [x], _ => rfl
        | x :: y :: b, hb => simp at hb
      rw [this]
theorem F51_rev {l : List T_api_Rule} {fuel : Nat} (hl : l.length < 100000) (hf : l.length + 2 ≤ fuel) : F51 fuel l = some l.reverse := by
  have := F51_eq fuel [] l [] ((l.length : Int) - 1) rfl (by simp; omega) (by simp) (by omega)
  unfold F51
  rw [List.length_map, w64 (by omega) (by omega)]
  simpa using this

/-! ### The way back -/
def dflt : T_rules_step := ⟨⟨0, 0, 0, 0⟩, 0⟩
inductive Tr (m : List (Int × T_rules_step)) (all : Nat) : Nat → List T_api_Rule → Prop
  | nil : Tr m all all []
  | snoc {s s' : Nat} {L : List T_api_Rule} {r : T_api_Rule} : s ≠ all → mhasF m s = true → mlookF m s dflt = ⟨r, s'⟩ → Tr m all s' L → Tr m all s (L ++ [r])
theorem Tr.put {m : List (Int × T_rules_step)} {all x : Nat} {st : T_rules_step} (hx : mhasF m x = false) {s : Nat} {L : List T_api_Rule} (h : Tr m all s L) : Tr (mputF m x st) all s L := by
  induction h with
  | nil => exact .nil
  | @snoc s s' L r h1 h2 h3 _ ih =>
    have hne : (x : Int) ≠ s := fun e => by rw [← e, hx] at h2; cases h2
    exact .snoc h1 (by rw [mhas_put, h2]; simp) (by rw [mlook_ne hne]; exact h3) ih
theorem F37_eq {t : List (List Int)} {m : List (Int × T_rules_step)} {e : Int} {fuel : Nat} (hn : t.length ≤ 61) {s : Nat} {L : List T_api_Rule} (h : Tr m (2 ^ t.length - 1) s L) :
    ∀ (k : Nat) (acc : List T_api_Rule), L.length + 1 ≤ k → acc.length + L.length < 1000000 → F37_L1 fuel e t m k s acc = Option.bind (F51 fuel (acc ++ L.reverse)) fun y => some ⟨y, e⟩ := by
  have hp : (2 : Nat) ^ t.length < 18446744073709551616 := Nat.lt_of_lt_of_le (Nat.pow_lt_pow_right (by omega) (show t.length < 64 by omega)) (by decide)
  have hpos : 1 ≤ (2 : Nat) ^ t.length := Nat.one_le_two_pow
  have hall : IntKind.u64.wrap ((IntKind.u64.wrap (1 * 2 ^ (min (Int.toNat ((t.map e_li64).length : Int)) IntKind.u64.bits))) - 1) = ((2 ^ t.length - 1 : Nat) : Int) := by
    rw [List.length_map, pow_eq (by omega), show ((2 ^ t.length : Nat) : Int) - 1 = ((2 ^ t.length - 1 : Nat) : Int) by omega, wu (by omega)]
  induction h with
  | nil =>
    intro k acc h1 h2
    obtain ⟨k, rfl⟩ : ∃ j, k = j + 1 := ⟨k - 1, by omega⟩
    rw [F37_L1, hall, bne_self_eq_false, cond_false, List.reverse_nil, List.append_nil]
  | @snoc s s' L r h1 h2 h3 _ ih =>
    intro k acc h4 h5
    obtain ⟨k, rfl⟩ : ∃ j, k = j + 1 := ⟨k - 1, by omega⟩
    simp at h4 h5
    have hne : ((s : Int) != ((2 ^ t.length - 1 : Nat) : Int)) = true := by
      rw [bne_iff_ne]; intro e'; exact h1 (by omega)
    rw [F37_L1, hall, hne, cond_true, Option.bind_some]
    have h3' : mlookF m (s : Int) (⟨(⟨0, 0, 0, 0⟩ : T_api_Rule), 0⟩ : T_rules_step) = ⟨r, s'⟩ := h3
    rw [h3', app_1 _ _ (by omega), Option.bind_some, ih k (acc ++ [r]) (by omega) (by simp; omega)]
    simp
theorem F37_out {t : List (List Int)} {c : List Int} {m : List (Int × T_rules_step)} {e : Int} {fuel : Nat} (hn : t.length ≤ 61) {s : Nat} {L : List T_api_Rule} (h : Tr m (2 ^ t.length - 1) s L) (hL : L.length < 1000) (hf : L.length + 2 ≤ fuel) : F37 fuel s e t c m = some ⟨L, e⟩ := by
  unfold F37
  rw [ass_t (decide_eq_true (by omega)), F37_eq hn h fuel [] (by omega) (by simp; omega), List.nil_append, F51_rev (by simp; omega) (by simp; omega)]
  simp
end Go.Proofs.Ytljkgnjmigmcgaa
