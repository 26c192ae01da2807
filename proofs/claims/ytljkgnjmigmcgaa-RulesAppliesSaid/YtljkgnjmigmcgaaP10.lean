/- Plain law: Check, Apply and Right agree with the reference; RulesApplies, RulesRights. -/
import Derived.Test.YtljkgnjmigmcgaaP9
import Derived.Test.YtljkgnjmigmcgaaFApp
namespace Go.Proofs.Ytljkgnjmigmcgaa
open Go Go.RowKit Kx

theorem F21_all (l : T_api_Rules) : F21 10000 l = some (validB l) := by
  unfold F21 validB
  rw [List.length_map]
  by_cases h12 : l.List.length ≤ 12
  · have loop : ∀ (k i : Nat), l.List.length + 1 ≤ k + i → i ≤ l.List.length → F21_L1 l k i = some ((l.List.drop i).all ruleB) := fun k => by
      induction k with
      | zero => intro i a b; omega
      | succ k ih =>
        intro i a b
        rw [F21_L1, List.length_map]
        by_cases hi : i < l.List.length
        · have hd : l.List.drop i = l.List[i] :: l.List.drop (i + 1) := List.drop_eq_getElem_cons hi
          rw [show decide ((i : Int) < (l.List.length : Int)) = true from decide_eq_true (by omega), cond_true, geti_k, List.getElem?_eq_getElem hi, Option.bind_some, F42_eq, F42_eq, F42_eq, F42_eq, hd, List.all_cons]
          have ih := ih (i + 1) (by omega) (by omega)
          rw [wi i (by omega), ih]
          unfold ruleB
          cases (decide (0 ≤ l.List[i].Var) && decide (l.List[i].Var ≤ 3)) with
          | false => rfl
          | true =>
            cases (decide (1 ≤ l.List[i].Test) && decide (l.List[i].Test ≤ 3)) with
            | false => rfl
            | true =>
              cases (decide (-99 ≤ l.List[i].Val) && decide (l.List[i].Val ≤ 99)) with
              | false => rfl
              | true =>
                cases (decide (0 ≤ l.List[i].Then) && decide (l.List[i].Then ≤ 3)) with
                | false => rfl
                | true => rfl
        · rw [show decide ((i : Int) < (l.List.length : Int)) = false from decide_eq_false (by omega), cond_false, List.drop_eq_nil_of_le (by omega)]
          rfl
    rw [show decide ((l.List.length : Int) > 12) = false from decide_eq_false (by omega), cond_false, F42_eq, Option.bind_some, Option.bind_some, show decide (l.List.length ≤ 12) = true from decide_eq_true h12, Bool.true_and]
    have hc : (decide (0 ≤ l.Else) && decide (l.Else ≤ 3)) = chB l.Else := rfl
    rw [hc]
    cases chB l.Else with
    | false => rfl
    | true =>
      rw [Bool.not_true, cond_false, Bool.true_and]
      have := loop 10000 0 (by omega) (by omega)
      rw [List.drop_zero] at this
      exact this
  · rw [show decide ((l.List.length : Int) > 12) = true from decide_eq_true (by omega), cond_true, Option.bind_some, cond_true, show decide (l.List.length ≤ 12) = false from decide_eq_false h12]
    rfl
theorem F43_all {l : T_api_Rules} (hl : l.List.length ≤ 12) (n : Int) : F43 10000 l n = some (l.List.all (fun r => decide (r.Var < n))) := by
  have loop : ∀ (k i : Nat), l.List.length + 1 ≤ k + i → i ≤ l.List.length → F43_L1 l n k i = some ((l.List.drop i).all (fun r => decide (r.Var < n))) := fun k => by
    induction k with
    | zero => intro i a b; omega
    | succ k ih =>
      intro i a b
      rw [F43_L1, List.length_map]
      by_cases hi : i < l.List.length
      · have hd : l.List.drop i = l.List[i] :: l.List.drop (i + 1) := List.drop_eq_getElem_cons hi
        rw [show decide ((i : Int) < (l.List.length : Int)) = true from decide_eq_true (by omega), cond_true, geti_k, List.getElem?_eq_getElem hi, Option.bind_some, hd, List.all_cons]
        by_cases hv : l.List[i].Var < n
        · rw [show decide (l.List[i].Var ≥ n) = false from decide_eq_false (by omega), cond_false, wi i (by omega), show decide (l.List[i].Var < n) = true from decide_eq_true hv, Bool.true_and]
          exact ih (i + 1) (by omega) (by omega)
        · rw [show decide (l.List[i].Var ≥ n) = true from decide_eq_true (by omega), cond_true, show decide (l.List[i].Var < n) = false from decide_eq_false hv, Bool.false_and]
      · rw [show decide ((i : Int) < (l.List.length : Int)) = false from decide_eq_false (by omega), cond_false, List.drop_eq_nil_of_le (by omega)]
        rfl
  have := loop 10000 0 (by omega) (by omega)
  rw [List.drop_zero] at this
  exact this
theorem valid_len {l : T_api_Rules} (hv : validB l = true) : l.List.length ≤ 12 := by
  unfold validB at hv; rw [Bool.and_eq_true, Bool.and_eq_true] at hv; exact of_decide_eq_true hv.1.1
/-- Apply and its reference agree. -/
theorem F24_ag (l : T_api_Rules) {row : List Int} (hr : row.length ≤ 100) : ∃ p, F24 10000 l row = some p ∧ F28 10000 l row = some p := by
  cases hv : validB l with
  | false =>
    refine ⟨(0, 300), ?_, ?_⟩
    · unfold F24; rw [F32_eq (by omega), hv]; rfl
    · unfold F28; rw [F21_all, hv]; rfl
  | true =>
    have h12 := valid_len hv
    cases hb : rowB row with
    | false =>
      refine ⟨(0, 2), ?_, ?_⟩
      · unfold F24; rw [F32_eq (by omega), hv, F45_eq (by omega), hb]; rfl
      · unfold F28; rw [F21_all, hv, F44_eq hr, hb]; rfl
    | true =>
      cases ha : l.List.all (fun r => decide (r.Var < (row.length : Int))) with
      | false =>
        refine ⟨(0, 2), ?_, ?_⟩
        · unfold F24; rw [F32_eq (by omega), hv, F45_eq (by omega), hb, F34_eq (by omega) h12, List.length_map, ha]; rfl
        · unfold F28; rw [F21_all, hv, F44_eq hr, hb, F43_all h12, List.length_map, ha]; rfl
      | true =>
        have hf := fair_of hv ha
        refine ⟨(choice l.List l.Else row, 0), F24_eq (by omega) hv hb hf, ?_⟩
        unfold F28
        have h14 := F14_eq (l := l) (row := row) (by omega) hf 10000 0 (by omega) (by omega)
        have h14' : F14 10000 l row = some (choice (l.List.drop 0) l.Else row) := h14
        rw [F21_all, hv, F44_eq hr, hb, F43_all h12, List.length_map, ha, h14']
        rfl
/-- Right and its reference agree. -/
theorem F17_ag (l : T_api_Rules) {t : List (List Int)} (c : List Int) (ht : t.length ≤ 100) (hr : ∀ row ∈ t, row.length ≤ 100) : ∃ p, F17 10000 l t c = some p ∧ F18 10000 l t c = some p := by
  cases hv : validB l with
  | false =>
    refine ⟨(false, 300), ?_, ?_⟩
    · unfold F17; rw [F32_eq (by omega), hv]; rfl
    · unfold F18; rw [F21_all, hv]; rfl
  | true =>
    have h12 := valid_len hv
    cases hb : tabB t c with
    | false =>
      refine ⟨(false, 2), ?_, ?_⟩
      · unfold F17; rw [F32_eq (by omega), hv, F33_eq (by omega), hb]; rfl
      · unfold F18; rw [F21_all, hv, F23_eq c ht hr, hb]; rfl
    | true =>
      obtain ⟨w, tab⟩ := Tab.of hb
      have h0 : 0 < t.length := tab.n1
      have hw := tab.row _ (List.getElem_mem h0)
      cases ha : l.List.all (fun r => decide (r.Var < (w : Int))) with
      | false =>
        refine ⟨(false, 0), ?_, ?_⟩
        · unfold F17; rw [F32_eq (by omega), hv, F33_eq (by omega), hb, geti_0, List.getElem?_eq_getElem h0]; simp only [Option.bind_some, Bool.not_true, cond_false, F34_eq (fuel := 10000) (by omega) h12, List.length_map, hw, ha]
        · unfold F18; rw [F21_all, hv, F23_eq c ht hr, hb]
          unfold F22
          rw [geti_0, List.getElem?_eq_getElem h0]; simp only [Option.bind_some, Bool.not_true, Bool.not_false, cond_false, cond_true, F43_all h12, List.length_map, hw, ha]
      | true =>
        have hf := fair_of hv ha
        have h35 := F35_eq (fuel := 10000) (by omega) h12 tab.len (by have := tab.n12; omega) tab.row hf 10000 0 (by have := tab.n12; omega) (by omega)
        have h35' : F35 10000 l t c = _ := h35
        have hlen := tab.len
        have agr : ∀ (k i : Nat), t.length + 1 ≤ k + i → i ≤ t.length → F22_L1 10000 l t c k i = some (((t.zip c).drop i).all fun p => choice l.List l.Else p.1 == p.2) := fun k => by
          induction k with
          | zero => intro i a b; omega
          | succ k ih =>
            intro i a b
            rw [F22_L1, List.length_map]
            by_cases hi : i < t.length
            · have h14 := F14_eq (l := l) (row := t[i]) (by omega) (by rw [tab.row _ (List.getElem_mem hi)]; exact hf) 10000 0 (by omega) (by omega)
              have h14' : F14 10000 l t[i] = some (choice (l.List.drop 0) l.Else t[i]) := h14
              have hz : (t.zip c)[i]? = some (t[i], c[i]) := by rw [List.getElem?_zip_eq_some]; exact ⟨List.getElem?_eq_getElem hi, List.getElem?_eq_getElem (by omega)⟩
              have hzl : (t.zip c).length = t.length := by simp [hlen]
              have hd : (t.zip c).drop i = (t[i], c[i]) :: (t.zip c).drop (i + 1) := by
                rw [List.drop_eq_getElem_cons (by omega)]
                rw [List.getElem?_eq_getElem (by omega)] at hz
                rw [Option.some.inj hz]
              rw [show decide ((i : Int) < (t.length : Int)) = true from decide_eq_true (by omega), cond_true, geti_k, List.getElem?_eq_getElem hi, Option.bind_some, h14', Option.bind_some, List.drop_zero, geti_k, List.getElem?_eq_getElem (show i < c.length by omega), Option.bind_some, hd, List.all_cons]
              cases hb : (choice l.List l.Else t[i] == c[i]) with
              | true =>
                have : (choice l.List l.Else t[i] != c[i]) = false := by simp only [bne, hb]; rfl
                rw [this, cond_false, wi i (by omega), Bool.true_and]
                exact ih (i + 1) (by omega) (by omega)
              | false =>
                have : (choice l.List l.Else t[i] != c[i]) = true := by simp only [bne, hb]; rfl
                rw [this, cond_true, Bool.false_and]
            · rw [show decide ((i : Int) < (t.length : Int)) = false from decide_eq_false (by omega), cond_false, List.drop_eq_nil_of_le (by simp; omega)]
              rfl
        have h22 := agr 10000 0 (by omega) (by omega)
        refine ⟨(((t.zip c).drop 0).all fun p => choice l.List l.Else p.1 == p.2, 0), ?_, ?_⟩
        · unfold F17; rw [F32_eq (by omega), hv, F33_eq (by omega), hb, geti_0, List.getElem?_eq_getElem h0]; simp only [Option.bind_some, Bool.not_true, cond_false, F34_eq (fuel := 10000) (by omega) h12, List.length_map, hw, ha, cond_true, h35']
        · unfold F18; rw [F21_all, hv, F23_eq c ht hr, hb]
          unfold F22
          rw [geti_0, List.getElem?_eq_getElem h0]; simp only [Option.bind_some, Bool.not_true, cond_false, F43_all h12, List.length_map, hw, ha]
          show Option.bind (F22_L1 10000 l t c 10000 0) _ = _
          have h22' : F22_L1 10000 l t c 10000 0 = _ := h22
          rw [h22']; rfl
/-- A list that is changed in one place is a list. -/
theorem F15_is (b : T_croupierlaw30_Bend) {l : T_api_Rules} (hb : 0 ≤ b.At ∧ b.At ≤ 255) (hl : l.List.length ≤ 12) : ∃ L, F15 10000 b l = some L := by
  have grow : ∀ (k : Nat) (m : List T_api_Rule) (r : T_api_Rule), 14 ≤ k + m.length → m.length ≤ 13 → ∃ L, F15_L1 l r k m = some L := fun k => by
    induction k with
    | zero => intro m r a b; omega
    | succ k ih =>
      intro m r a b
      rw [F15_L1, List.length_map]
      by_cases h : m.length < 13
      · rw [show decide ((m.length : Int) < 13) = true from decide_eq_true (by omega), cond_true, app_1 _ _ (by omega), Option.bind_some]
        exact ih _ _ (by simp; omega) (by simp; omega)
      · rw [show decide ((m.length : Int) < 13) = false from decide_eq_false (by omega), cond_false]
        exact ⟨_, rfl⟩
  unfold F15
  rw [app_nil _ (by omega), Option.bind_some, List.length_map]
  have body : ∀ b0 : Bool, (b0 = false → l.List.length ≠ 0) → ∃ L, (bif b0 then some (⟨l.List, b.N⟩ : T_api_Rules) else
    (ass (decide ((l.List.length : Int) ≠ 0)) <|
    Option.bind (geti l.List (Int.tmod (IntKind.i64.wrap b.At) (l.List.length : Int))) fun y1 =>
    bif (Int.tmod b.What 6) == 1 then
      (Option.bind (some (l.List.set (0 + Int.toNat (Int.tmod (IntKind.i64.wrap b.At) (l.List.length : Int))) (⟨b.N, y1.Test, y1.Val, y1.Then⟩ : T_api_Rule))) fun l2 =>
      some (⟨l2, l.Else⟩ : T_api_Rules))
    else
      (bif (Int.tmod b.What 6) == 2 then
        (Option.bind (some (l.List.set (0 + Int.toNat (Int.tmod (IntKind.i64.wrap b.At) (l.List.length : Int))) (⟨y1.Var, b.N, y1.Val, y1.Then⟩ : T_api_Rule))) fun l3 =>
        some (⟨l3, l.Else⟩ : T_api_Rules))
      else
        (bif (Int.tmod b.What 6) == 3 then
          (Option.bind (some (l.List.set (0 + Int.toNat (Int.tmod (IntKind.i64.wrap b.At) (l.List.length : Int))) (⟨y1.Var, y1.Test, b.N, y1.Then⟩ : T_api_Rule))) fun l4 =>
          some (⟨l4, l.Else⟩ : T_api_Rules))
        else
          (bif (Int.tmod b.What 6) == 4 then
            (Option.bind (some (l.List.set (0 + Int.toNat (Int.tmod (IntKind.i64.wrap b.At) (l.List.length : Int))) (⟨y1.Var, y1.Test, y1.Val, b.N⟩ : T_api_Rule))) fun l5 =>
            some (⟨l5, l.Else⟩ : T_api_Rules))
          else
            (F15_L1 l y1 10000 l.List)))))) = some L := fun b0 h0 => by
    cases b0 with
    | true => exact ⟨_, rfl⟩
    | false =>
      have hne := h0 rfl
      have hw : IntKind.i64.wrap b.At = b.At := w64 (by omega) (by omega)
      have ht := tmod_nn (x := b.At) hb.1 (show (0 : Int) < (l.List.length : Int) by omega)
      obtain ⟨k, hk⟩ : ∃ k : Nat, Int.tmod b.At (l.List.length : Int) = (k : Int) := ⟨_, (Int.toNat_of_nonneg ht.1).symm⟩
      rw [cond_false, ass_t (decide_eq_true (by omega)), hw, hk, geti_k, List.getElem?_eq_getElem (show k < l.List.length by omega), Option.bind_some]
      cases (Int.tmod b.What 6) == 1 with
      | true => exact ⟨_, rfl⟩
      | false =>
        cases (Int.tmod b.What 6) == 2 with
        | true => exact ⟨_, rfl⟩
        | false =>
          cases (Int.tmod b.What 6) == 3 with
          | true => exact ⟨_, rfl⟩
          | false =>
            cases (Int.tmod b.What 6) == 4 with
            | true => exact ⟨_, rfl⟩
            | false => exact grow 10000 _ _ (by omega) (by omega)
  cases hq : ((Int.tmod b.What 6) == 0) with
  | true => exact body true (fun h => by cases h)
  | false => exact body ((l.List.length : Int) == 0) (fun h => by intro e; rw [e] at h; cases h)
theorem thr_ {α : Type} (a b c : α) (P : α → Prop) (ha : P a) (hb : P b) (hc : P c) {i : Nat} (hi : i < 3) : ∃ y, geti [a, b, c] (i : Int) = some y ∧ P y := by
  rw [geti_k]
  rcases (show i = 0 ∨ i = 1 ∨ i = 2 by omega) with rfl | rfl | rfl
  · exact ⟨a, rfl, ha⟩
  · exact ⟨b, rfl, hb⟩
  · exact ⟨c, rfl, hc⟩
theorem four_ {α : Type} (a b c d : α) {i : Nat} (hi : i < 4) : ∃ y, geti [a, b, c, d] (i : Int) = some y := by
  rw [geti_k]
  rcases (show i = 0 ∨ i = 1 ∨ i = 2 ∨ i = 3 by omega) with rfl | rfl | rfl | rfl <;> exact ⟨_, rfl⟩

/-! ### RulesApplies -/
theorem F9_L3_eq {a b c : List Int} (ha : a.length ≤ 100) (hb : b.length ≤ 100) (hc : c.length ≤ 100) (v8 : Int) (L : T_api_Rules) (rc : List Int → Int → Option Bool) : ∀ (k i : Nat), 4 ≤ k + i → i ≤ 3 → F9_L3 10000 a b c v8 L rc k i = rc a (IntKind.i64.wrap (v8 + 1))
  | 0, i, h, h' => by omega
  | k + 1, i, h, h' => by
    rw [F9_L3]
    by_cases hi : i < 3
    · obtain ⟨y, e, hy⟩ := thr_ a b c (fun y => y.length ≤ 100) ha hb hc hi
      obtain ⟨p, e1, e2⟩ := F24_ag L hy
      rw [show decide ((i : Int) < 3) = true from decide_eq_true (by omega), cond_true, e, Option.bind_some, e1, Option.bind_some, e2, Option.bind_some, bne_self_eq_false, cond_false, bne_self_eq_false, Option.bind_some, cond_false, wi i (by omega)]
      exact F9_L3_eq ha hb hc v8 L rc k (i + 1) (by omega) (by omega)
    · rw [show decide ((i : Int) < 3) = false from decide_eq_false (by omega), cond_false]
theorem F9_L2_eq {d3 : Int} {n : Nat} (hn : IntKind.i64.wrap (1 + (IntKind.i64.wrap (Int.tmod d3 4))) = (n : Int)) (h1 : 1 ≤ n) (h4 : n ≤ 4) (d4 : List Int) (a b c : T_api_Rules) {own : List Int} (ho : own.length = n) : ∀ (k i : Nat), 4 ≤ k + i → i ≤ 3 → F9_L2 10000 d3 d4 a b c k own i = some true
  | 0, i, h, h' => by omega
  | k + 1, i, h, h' => by
    rw [F9_L2]
    by_cases hi : i < 3
    · obtain ⟨y, e, _⟩ := thr_ a b c (fun _ => True) trivial trivial trivial hi
      have hs := slc_min d4 6
      have hs' : slc d4 0 (bif decide (6 < (d4.length : Int)) then 6 else (d4.length : Int)) = some (d4.take 6) := hs
      have e26 : F26 10000 y = some (bif !validB y then 300 else 0) := by unfold F26; rw [F32_eq (by omega), Option.bind_some]; cases validB y <;> rfl
      have e27 : F27 10000 y = some (bif !validB y then 300 else 0) := by unfold F27; rw [F21_all, Option.bind_some]; cases validB y <;> rfl
      have hsl : ∃ m, slc own 0 (bif decide ((1 : Int) > (IntKind.i64.wrap ((n : Int) - 1))) then 1 else (IntKind.i64.wrap ((n : Int) - 1))) = some m ∧ m.length ≤ 100 := by
        rw [w64 (i := (n : Int) - 1) (by omega) (by omega)]
        by_cases hq : n = 1
        · rw [show decide ((1 : Int) > (n : Int) - 1) = true from decide_eq_true (by omega), cond_true]
          exact ⟨_, slc_to own 1 (by omega), by simp; omega⟩
        · rw [show decide ((1 : Int) > (n : Int) - 1) = false from decide_eq_false (by omega), cond_false, show (n : Int) - 1 = ((n - 1 : Nat) : Int) by omega]
          exact ⟨_, slc_to own (n - 1) (by omega), by simp; omega⟩
      obtain ⟨m, e3, hm⟩ := hsl
      rw [show decide ((i : Int) < 3) = true from decide_eq_true (by omega), cond_true, e, Option.bind_some, e26, Option.bind_some, e27, Option.bind_some, bne_self_eq_false, cond_false, List.length_map, hs', Option.bind_some, hn, e3, Option.bind_some]
      refine (F9_L3_eq (by omega) (by simp; omega) hm (i : Int) y _ 10000 0 (by omega) (by omega)).trans ?_
      rw [wi i (by omega)]
      exact F9_L2_eq hn h1 h4 d4 a b c ho k (i + 1) (by omega) (by omega)
    · rw [show decide ((i : Int) < 3) = false from decide_eq_false (by omega), cond_false]
theorem F9_true {d0 : T_croupierref30_Wish} {d1 : T_croupierlaw30_Bend} (d2 : T_api_Rules) {d3 : Int} (d4 : List Int) (d5 : A_a4i8) (h0 : OkW d0) (h1 : 0 ≤ d1.At ∧ d1.At ≤ 255) (h3 : 0 ≤ d3) : F9 10000 d0 d1 d2 d3 d4 d5 = some true := by
  have hb := tmod_nn (x := d3) h3 (show (0 : Int) < 4 by omega)
  obtain ⟨n, hn, n1, n4⟩ : ∃ n : Nat, IntKind.i64.wrap (1 + (IntKind.i64.wrap (Int.tmod d3 4))) = (n : Int) ∧ 1 ≤ n ∧ n ≤ 4 := by
    rw [w64 (i := Int.tmod d3 4) (by omega) (by omega), w64 (by omega) (by omega)]
    exact ⟨(1 + Int.tmod d3 4).toNat, by omega, by omega, by omega⟩
  unfold F9
  rw [F11_true, Option.bind_some, Bool.not_true, cond_false, hn]
  obtain ⟨L, e2, hv, hfair⟩ := F13_eq h0 n1 n4 (fuel := 10000) (by omega)
  rw [e2, Option.bind_some]
  have loop : ∀ (k i : Nat) (l : List Int), n + 1 ≤ k + i → i ≤ n → l.length = i → F9_L1 10000 d1 d2 d3 d4 d5 L k i l = some true := fun k => by
    induction k with
    | zero => intro i l a b; omega
    | succ k ih =>
      intro i l a b hl
      rw [F9_L1, hn]
      by_cases hi : i < n
      · obtain ⟨y, e⟩ := four_ d5.a0 d5.a1 d5.a2 d5.a3 (i := i) (by omega)
        rw [show decide ((i : Int) < (n : Int)) = true from decide_eq_true (by omega), cond_true, e, Option.bind_some, app_1 _ _ (by omega), Option.bind_some, wi i (by omega)]
        exact ih (i + 1) _ (by omega) (by omega) (by simp [hl])
      · obtain ⟨B, e3⟩ := F15_is d1 (l := L) h1 (valid_len hv)
        have hs := slc_min d2.List 14
        have hs' : slc d2.List 0 (bif decide (14 < (d2.List.length : Int)) then 14 else (d2.List.length : Int)) = some (d2.List.take 14) := hs
        have e4 : F25 d2 = some ⟨d2.List.take 14, d2.Else⟩ := by unfold F25; rw [List.length_map, hs']; rfl
        rw [show decide ((i : Int) < (n : Int)) = false from decide_eq_false (by omega), cond_false, e3, Option.bind_some, e4, Option.bind_some]
        exact F9_L2_eq hn n1 n4 d4 L B _ (by omega) 10000 0 (by omega) (by omega)
  exact loop 10000 0 [] (by omega) (by omega) rfl

/-! ### RulesRights -/
theorem F3_L4_eq {t s : List (List Int)} (c0 : List Int) (ht : t.length ≤ 100) (hr : ∀ row ∈ t, row.length ≤ 100) (hs : s.length ≤ 100) (hr2 : ∀ row ∈ s, row.length ≤ 100) (v26 : Int) (L : T_api_Rules) (x : List Int) (rc : Int → Option Bool) : ∀ (k i : Nat), 3 ≤ k + i → i ≤ 2 → F3_L4 10000 v26 (t, c0) L x s rc k i = rc (IntKind.i64.wrap (v26 + 1))
  | 0, i, h, h' => by omega
  | k + 1, i, h, h' => by
    rw [F3_L4]
    by_cases hi : i < 2
    · obtain ⟨y, e, hy⟩ : ∃ y, geti [t, s] (i : Int) = some y ∧ (y.length ≤ 100 ∧ ∀ row ∈ y, row.length ≤ 100) := by
        rw [geti_k]
        rcases (show i = 0 ∨ i = 1 by omega) with rfl | rfl
        · exact ⟨_, rfl, ht, hr⟩
        · exact ⟨_, rfl, hs, hr2⟩
      obtain ⟨p, e1, e2⟩ := F17_ag L x hy.1 hy.2
      rw [show decide ((i : Int) < 2) = true from decide_eq_true (by omega), cond_true]
      show Option.bind (geti [t, s] (i : Int)) _ = _
      rw [e, Option.bind_some, e1, Option.bind_some, e2, Option.bind_some, beq_self_eq_true, Bool.not_true, cond_false, bne_self_eq_false, Option.bind_some, cond_false, wi i (by omega)]
      exact F3_L4_eq c0 ht hr hs hr2 v26 L x rc k (i + 1) (by omega) (by omega)
    · rw [show decide ((i : Int) < 2) = false from decide_eq_false (by omega), cond_false]
theorem F3_L3_eq {t : List (List Int)} (c0 : List Int) (d3 : List (List Int)) (d4 l13 l14 : List Int) (ht : t.length ≤ 100) (hr : ∀ row ∈ t, row.length ≤ 100) (v20 : Int) (L : T_api_Rules) (rc : List Int → Int → Option Bool) : ∀ (k i : Nat), 5 ≤ k + i → i ≤ 4 → F3_L3 10000 d3 d4 l13 l14 v20 (t, c0) L rc k i = rc l13 (IntKind.i64.wrap (v20 + 1))
  | 0, i, h, h' => by omega
  | k + 1, i, h, h' => by
    rw [F3_L3]
    by_cases hi : i < 4
    · obtain ⟨y, e⟩ := four_ c0 l13 d4 l14 hi
      obtain ⟨s, f2, g1, g2⟩ := F16_eq d3
      rw [show decide ((i : Int) < 4) = true from decide_eq_true (by omega), cond_true]
      show Option.bind (geti [c0, l13, d4, l14] (i : Int)) _ = _
      rw [e, Option.bind_some, f2, Option.bind_some]
      refine (F3_L4_eq (s := s) c0 ht hr (by omega) (fun row hrow => by have := g2 row hrow; omega) (i : Int) L y _ 10000 0 (by omega) (by omega)).trans ?_
      rw [wi i (by omega)]
      exact F3_L3_eq c0 d3 d4 l13 l14 ht hr v20 L rc k (i + 1) (by omega) (by omega)
    · rw [show decide ((i : Int) < 4) = false from decide_eq_false (by omega), cond_false]
theorem F3_L2_eq {t : List (List Int)} {c0 : List Int} (d3 : List (List Int)) (d4 l13 : List Int) (ht : t.length ≤ 100) (hr : ∀ row ∈ t, row.length ≤ 100) (hc : 1 ≤ c0.length) (a b c : T_api_Rules) : ∀ (k i : Nat), 4 ≤ k + i → i ≤ 3 → F3_L2 10000 d3 d4 (t, c0) a b c k l13 i = some true
  | 0, i, h, h' => by omega
  | k + 1, i, h, h' => by
    rw [F3_L2]
    by_cases hi : i < 3
    · obtain ⟨y, e, _⟩ := thr_ a b c (fun _ => True) trivial trivial trivial hi
      rw [show decide ((i : Int) < 3) = true from decide_eq_true (by omega), cond_true, e, Option.bind_some]
      have hs := slc_eq c0 1 c0.length hc (Nat.le_refl _)
      have hs' : slc c0 1 (c0.length : Int) = _ := hs
      show Option.bind (slc c0 1 (c0.length : Int)) _ = _
      rw [hs', Option.bind_some]
      refine (F3_L3_eq c0 d3 d4 l13 _ ht hr (i : Int) y _ 10000 0 (by omega) (by omega)).trans ?_
      rw [wi i (by omega)]
      exact F3_L2_eq d3 d4 l13 ht hr hc a b c k (i + 1) (by omega) (by omega)
    · rw [show decide ((i : Int) < 3) = false from decide_eq_false (by omega), cond_false]
theorem F3_true {d0 : T_croupierref30_Wish} {d1 : T_croupierlaw30_Bend} {d2 : T_croupierref30_Draft} (d3 : List (List Int)) (d4 : List Int) (h0 : OkW d0) (h1 : 0 ≤ d1.At ∧ d1.At ≤ 255) (h2 : OkD d2) : F3 10000 d0 d1 d2 d3 d4 = some true := by
  unfold F3
  rw [F11_true, Option.bind_some, Bool.not_true, cond_false]
  obtain ⟨t, c, e1, ht, h6⟩ := F12_eq h2 (fuel := 10000) (by omega)
  have hn : 0 < t.length := ht.n1
  have hw0 := ht.row _ (List.getElem_mem hn)
  obtain ⟨L, e2, hv, hfair⟩ := F13_eq h0 ht.w1 ht.w4 (fuel := 10000) (by omega)
  rw [e1, Option.bind_some]
  show Option.bind (geti t 0) _ = _
  rw [geti_0, List.getElem?_eq_getElem hn, Option.bind_some, List.length_map, hw0, e2, Option.bind_some]
  have h12 := valid_len hv
  have hrow : ∀ row ∈ t, row.length ≤ 100 := fun row hr => by rw [ht.row row hr]; have := ht.w4; omega
  have loop : ∀ (k i : Nat) (l : List Int), t.length + 1 ≤ k + i → i ≤ t.length → l.length = i → F3_L1 10000 d0 d1 d3 d4 (t, c) L k i l = some true := fun k => by
    induction k with
    | zero => intro i l a b; omega
    | succ k ih =>
      intro i l a b hl
      rw [F3_L1]
      show (bif decide ((i : Int) < ((t.map e_li64).length : Int)) then Option.bind (geti t (i : Int)) _ else _) = _
      rw [List.length_map]
      by_cases hi : i < t.length
      · have h14 := F14_eq (l := L) (row := t[i]) (by omega) (by rw [ht.row _ (List.getElem_mem hi)]; exact hfair) 10000 0 (by omega) (by omega)
        have h14' : F14 10000 L t[i] = some (choice (L.List.drop 0) L.Else t[i]) := h14
        rw [show decide ((i : Int) < (t.length : Int)) = true from decide_eq_true (by omega), cond_true, geti_k, List.getElem?_eq_getElem hi, Option.bind_some, h14', Option.bind_some, app_1 _ _ (by omega), Option.bind_some, wi i (by omega)]
        exact ih (i + 1) _ (by omega) (by omega) (by simp [hl])
      · obtain ⟨B, e3⟩ := F15_is d1 (l := L) h1 h12
        obtain ⟨W, e4, _, _⟩ := F13_eq (d := d0) h0 (n := 4) (by omega) (by omega) (fuel := 10000) (by omega)
        have e4' : F13 10000 d0 4 = some W := e4
        rw [show decide ((i : Int) < (t.length : Int)) = false from decide_eq_false (by omega), cond_false, e3, Option.bind_some, e4', Option.bind_some]
        exact F3_L2_eq d3 d4 l (by omega) hrow (by have := ht.len; omega) L B W 10000 0 (by omega) (by omega)
  exact loop 10000 0 [] (by omega) (by omega) rfl
end Go.Proofs.Ytljkgnjmigmcgaa
