/- Plain law: valid lists; Apply, Right; a table that a list describes. -/
import Derived.Test.YtljkgnjmigmcgaaP7
import Derived.Test.YtljkgnjmigmcgaaFMin
namespace Go.Proofs.Ytljkgnjmigmcgaa
open Go Go.RowKit Kx

def ruleB (r : T_api_Rule) : Bool := decide (0 ≤ r.Var) && decide (r.Var ≤ 3) && (decide (1 ≤ r.Test) && decide (r.Test ≤ 3)) && (decide (-99 ≤ r.Val) && decide (r.Val ≤ 99)) && (decide (0 ≤ r.Then) && decide (r.Then ≤ 3))
theorem F49_eq (r : T_api_Rule) : F49 r = some (!ruleB r) := by
  unfold F49 ruleB
  rw [F47_eq, F47_eq, F47_eq, F47_eq]
  simp only [Option.bind_some]
  cases (decide (0 ≤ r.Var) && decide (r.Var ≤ 3)) <;> cases (decide (1 ≤ r.Test) && decide (r.Test ≤ 3)) <;> cases (decide (-99 ≤ r.Val) && decide (r.Val ≤ 99)) <;> cases (decide (0 ≤ r.Then) && decide (r.Then ≤ 3)) <;> rfl
theorem F57_eq {l : List T_api_Rule} (hl : l.length < 1000000) : ∀ (k i : Nat), l.length + 1 ≤ k + i → i ≤ l.length → ∃ v, F57_L1 l k i = some v ∧ decide (v ≥ 0) = !(l.drop i).all ruleB
  | 0, i, h, h' => by omega
  | k + 1, i, h, h' => by
    rw [F57_L1]
    by_cases hi : i < l.length
    · have hd : l.drop i = l[i] :: l.drop (i + 1) := List.drop_eq_getElem_cons hi
      rw [show decide ((i : Int) < ((l.map e_T_api_Rule).length : Int)) = true from decide_eq_true (by rw [List.length_map]; omega), cond_true, geti_k, List.getElem?_eq_getElem hi, Option.bind_some, F49_eq, Option.bind_some, hd, List.all_cons]
      cases hb : ruleB l[i] with
      | true =>
        rw [Bool.not_true, cond_false, wi i (by omega), Bool.true_and]
        exact F57_eq hl k (i + 1) (by omega) (by omega)
      | false =>
        rw [Bool.not_false, cond_true]
        exact ⟨_, rfl, by simp⟩
    · rw [show decide ((i : Int) < ((l.map e_T_api_Rule).length : Int)) = false from decide_eq_false (by rw [List.length_map]; omega), cond_false, List.drop_eq_nil_of_le (by omega)]
      exact ⟨_, rfl, rfl⟩
def validB (l : T_api_Rules) : Bool := decide (l.List.length ≤ 12) && chB l.Else && l.List.all ruleB
theorem F32_eq {fuel : Nat} (hf : 20 ≤ fuel) (l : T_api_Rules) : F32 fuel l = some (validB l) := by
  unfold F32 validB
  rw [List.length_map]
  by_cases h : l.List.length ≤ 12
  · rw [show decide ((l.List.length : Int) > 12) = false from decide_eq_false (by omega), cond_false, F47_eq, Option.bind_some, Option.bind_some, show decide (l.List.length ≤ 12) = true from decide_eq_true h]
    have hc : (decide (0 ≤ l.Else) && decide (l.Else ≤ 3)) = chB l.Else := rfl
    rw [hc]
    cases chB l.Else with
    | false => rfl
    | true =>
      rw [Bool.not_true, cond_false]
      obtain ⟨v, h1, h2⟩ := F57_eq (l := l.List) (by omega) fuel 0 (by omega) (by omega)
      have h1' : F57 fuel l.List = some v := h1
      unfold F48
      rw [h1', Option.bind_some, Option.bind_some, h2]
      simp
  · rw [show decide ((l.List.length : Int) > 12) = true from decide_eq_true (by omega), cond_true, Option.bind_some, cond_true, show decide (l.List.length ≤ 12) = false from decide_eq_false h]
    rfl
theorem F57a_eq {l : List T_api_Rule} {n : Int} (hl : l.length < 1000000) : ∀ (k i : Nat), l.length + 1 ≤ k + i → i ≤ l.length → ∃ v, F57a_L1 l n k i = some v ∧ decide (v ≥ 0) = !(l.drop i).all (fun r => decide (r.Var < n))
  | 0, i, h, h' => by omega
  | k + 1, i, h, h' => by
    rw [F57a_L1]
    by_cases hi : i < l.length
    · have hd : l.drop i = l[i] :: l.drop (i + 1) := List.drop_eq_getElem_cons hi
      have h50 : F50 l[i] n = some (!decide (l[i].Var < n)) := by
        unfold F50
        by_cases hv : l[i].Var < n
        · rw [show decide (l[i].Var ≥ n) = false from decide_eq_false (by omega), show decide (l[i].Var < n) = true from decide_eq_true hv]; rfl
        · rw [show decide (l[i].Var ≥ n) = true from decide_eq_true (by omega), show decide (l[i].Var < n) = false from decide_eq_false hv]; rfl
      rw [show decide ((i : Int) < ((l.map e_T_api_Rule).length : Int)) = true from decide_eq_true (by rw [List.length_map]; omega), cond_true, geti_k, List.getElem?_eq_getElem hi, Option.bind_some, h50, Option.bind_some, hd, List.all_cons]
      cases hb : decide (l[i].Var < n) with
      | true =>
        rw [Bool.not_true, cond_false, wi i (by omega), Bool.true_and]
        exact F57a_eq hl k (i + 1) (by omega) (by omega)
      | false =>
        rw [Bool.not_false, cond_true]
        exact ⟨_, rfl, by simp⟩
    · rw [show decide ((i : Int) < ((l.map e_T_api_Rule).length : Int)) = false from decide_eq_false (by rw [List.length_map]; omega), cond_false, List.drop_eq_nil_of_le (by omega)]
      exact ⟨_, rfl, rfl⟩
theorem F34_eq {fuel : Nat} (hf : 20 ≤ fuel) {l : T_api_Rules} (hl : l.List.length ≤ 12) (n : Int) : F34 fuel l n = some (l.List.all (fun r => decide (r.Var < n))) := by
  obtain ⟨v, h1, h2⟩ := F57a_eq (l := l.List) (n := n) (by omega) fuel 0 (by omega) (by omega)
  have h1' : F57a fuel l.List n = some v := h1
  unfold F34 F48a
  rw [h1', Option.bind_some, Option.bind_some, h2]
  simp
theorem F46_eq {l : T_api_Rules} {row : List Int} (hl : l.List.length < 1000000) (hfair : ∀ r ∈ l.List, Fair row.length r) : ∀ (k i : Nat), l.List.length + 1 ≤ k + i → i ≤ l.List.length → F46_L1 l row k i = some (choice (l.List.drop i) l.Else row)
  | 0, i, h, h' => by omega
  | k + 1, i, h, h' => by
    rw [F46_L1]
    by_cases hi : i < l.List.length
    · have hd : l.List.drop i = l.List[i] :: l.List.drop (i + 1) := List.drop_eq_getElem_cons hi
      rw [show decide ((i : Int) < ((l.List.map e_T_api_Rule).length : Int)) = true from decide_eq_true (by rw [List.length_map]; omega), cond_true, geti_k, List.getElem?_eq_getElem hi, Option.bind_some, F52_eq (hfair _ (List.getElem_mem hi)), Option.bind_some, hd]
      unfold choice
      cases hb : pas l.List[i] row with
      | true => rfl
      | false =>
        rw [cond_false, cond_false, wi i (by omega)]
        exact F46_eq hl hfair k (i + 1) (by omega) (by omega)
    · rw [show decide ((i : Int) < ((l.List.map e_T_api_Rule).length : Int)) = false from decide_eq_false (by rw [List.length_map]; omega), cond_false, List.drop_eq_nil_of_le (by omega)]
      rfl
/-- A valid list whose rules look at values that are there. -/
theorem fair_of {l : T_api_Rules} (hv : validB l = true) {n : Nat} (hf : l.List.all (fun r => decide (r.Var < (n : Int))) = true) : ∀ r ∈ l.List, Fair n r := fun r hr => by
  unfold validB at hv
  rw [Bool.and_eq_true, Bool.and_eq_true] at hv
  have h1 := List.all_eq_true.1 hv.2 r hr
  have h2 := List.all_eq_true.1 hf r hr
  simp [ruleB] at h1 h2
  exact ⟨⟨r.Var.toNat, by omega, by omega⟩, by omega⟩
theorem all_of {L : List T_api_Rule} {n : Nat} (h : ∀ r ∈ L, Fair n r) : L.all (fun r => decide (r.Var < (n : Int))) = true := List.all_eq_true.2 fun r hr => by
  obtain ⟨⟨v, hv, hlt⟩, _⟩ := h r hr
  rw [decide_eq_true_eq]; omega
theorem F24_eq {fuel : Nat} (hf : 20 ≤ fuel) {l : T_api_Rules} {row : List Int} (hv : validB l = true) (hr : rowB row = true) (hfair : ∀ r ∈ l.List, Fair row.length r) : F24 fuel l row = some (choice l.List l.Else row, 0) := by
  have hl : l.List.length ≤ 12 := by unfold validB at hv; rw [Bool.and_eq_true, Bool.and_eq_true] at hv; exact of_decide_eq_true hv.1.1
  unfold F24
  rw [F32_eq hf, Option.bind_some, hv, Bool.not_true, cond_false, F45_eq (by omega), Option.bind_some, hr, Bool.not_true, cond_false, F34_eq hf hl, Option.bind_some, List.length_map, all_of hfair, Bool.not_true, Option.bind_some, cond_false]
  have h46 := F46_eq (l := l) (row := row) (by omega) hfair fuel 0 (by omega) (by omega)
  have h46' : F46 fuel l row = some (choice (l.List.drop 0) l.Else row) := h46
  rw [h46', Option.bind_some]
  rfl
theorem F35_eq {fuel : Nat} (hf : 20 ≤ fuel) {l : T_api_Rules} {t : List (List Int)} {c : List Int} {w : Nat} (hl : l.List.length ≤ 12) (hc : t.length = c.length) (ht : t.length < 1000) (hw : ∀ row ∈ t, row.length = w) (hfair : ∀ r ∈ l.List, Fair w r) : ∀ (k i : Nat), t.length + 1 ≤ k + i → i ≤ t.length → F35_L1 fuel l t c k i = some (((t.zip c).drop i).all fun p => choice l.List l.Else p.1 == p.2)
  | 0, i, h, h' => by omega
  | k + 1, i, h, h' => by
    rw [F35_L1]
    by_cases hi : i < t.length
    · have hz : (t.zip c)[i]? = some (t[i], c[i]) := by rw [List.getElem?_zip_eq_some]; exact ⟨List.getElem?_eq_getElem hi, List.getElem?_eq_getElem (by omega)⟩
      have hzl : (t.zip c).length = t.length := by simp [hc]
      have hd : (t.zip c).drop i = (t[i], c[i]) :: (t.zip c).drop (i + 1) := by
        rw [List.drop_eq_getElem_cons (by omega)]
        rw [List.getElem?_eq_getElem (by omega)] at hz
        rw [Option.some.inj hz]
      have h46 := F46_eq (l := l) (row := t[i]) (by omega) (by rw [hw _ (List.getElem_mem hi)]; exact hfair) fuel 0 (by omega) (by omega)
      have h46' : F46 fuel l t[i] = some (choice (l.List.drop 0) l.Else t[i]) := h46
      rw [show decide ((i : Int) < ((t.map e_li64).length : Int)) = true from decide_eq_true (by rw [List.length_map]; omega), cond_true, geti_k, List.getElem?_eq_getElem hi, Option.bind_some, h46', Option.bind_some, geti_k, List.getElem?_eq_getElem (show i < c.length by omega), Option.bind_some, hd, List.all_cons, List.drop_zero]
      cases hb : (choice l.List l.Else t[i] == c[i]) with
      | true =>
        have : (choice l.List l.Else t[i] != c[i]) = false := by simp only [bne, hb]; rfl
        rw [this, cond_false, wi i (by omega), Bool.true_and]
        exact F35_eq hf hl hc ht hw hfair k (i + 1) (by omega) (by omega)
      | false =>
        have : (choice l.List l.Else t[i] != c[i]) = true := by simp only [bne, hb]; rfl
        rw [this, cond_true, Bool.false_and]
    · rw [show decide ((i : Int) < ((t.map e_li64).length : Int)) = false from decide_eq_false (by rw [List.length_map]; omega), cond_false, List.drop_eq_nil_of_le (by simp; omega)]
      rfl
theorem F17_eq {fuel : Nat} (hf : 1000 ≤ fuel) {l : T_api_Rules} {t : List (List Int)} {c : List Int} {w : Nat} (ht : Tab t c w) (hv : validB l = true) (hfair : ∀ r ∈ l.List, Fair w r) (hr : ∀ p ∈ t.zip c, choice l.List l.Else p.1 = p.2) : F17 fuel l t c = some (true, 0) := by
  have hl : l.List.length ≤ 12 := by unfold validB at hv; rw [Bool.and_eq_true, Bool.and_eq_true] at hv; exact of_decide_eq_true hv.1.1
  have h0 : 0 < t.length := ht.n1
  unfold F17
  rw [F32_eq (by omega), Option.bind_some, hv, Bool.not_true, cond_false, F33_eq hf, Option.bind_some, ht.is, Bool.not_true, cond_false, geti_0, List.getElem?_eq_getElem h0, Option.bind_some, F34_eq (by omega) hl, Option.bind_some, List.length_map, ht.row _ (List.getElem_mem h0), all_of hfair, cond_true]
  have h35 := F35_eq (fuel := fuel) (by omega) hl ht.len (by have := ht.n12; omega) ht.row hfair fuel 0 (by have := ht.n12; omega) (by omega)
  have h35' : F35 fuel l t c = _ := h35
  rw [h35', Option.bind_some, Option.bind_some, List.drop_zero]
  have : (t.zip c).all (fun p => choice l.List l.Else p.1 == p.2) = true := List.all_eq_true.2 fun p hp => by rw [beq_iff_eq]; exact hr p hp
  rw [this]

/-! ### What Shortest finds is valid -/
theorem ch_in {t : List (List Int)} {c : List Int} {w s : Nat} (h : Tab t c w) (hok : ok c s = true) : 0 ≤ ch c s ∧ ch c s ≤ 3 := by
  by_cases hx : ∃ j, j < c.length ∧ s.testBit j = true
  · obtain ⟨j, hj, hb⟩ := hx
    have := ok_ch hok (List.getElem?_eq_getElem hj) hb
    rw [← this]
    exact h.chs _ (List.getElem_mem hj)
  · rw [ch_none hok (fun j hj => by
      cases hb : s.testBit j with
      | false => rfl
      | true => exact absurd ⟨j, hj, hb⟩ hx)]
    omega
theorem Path.valid {t : List (List Int)} {c : List Int} {w : Nat} (h : Tab t c w) {L : List T_api_Rule} {s : Nat} (hp : Path t c w L s) : ∀ r ∈ L, ruleB r = true := by
  induction hp with
  | nil => intro r hr; cases hr
  | @snoc L s s' r hp he ih =>
    intro r' hr'
    rcases List.mem_append.1 hr' with hr' | hr'
    · exact ih r' hr'
    · simp at hr'; subst hr'
      obtain ⟨hc, hok, _, _⟩ := he
      have h1 := ch_in h hok
      obtain ⟨v, hv, row, hrow, x, hx, h3⟩ := hc
      have h4 := h.w4
      have h5 := h.vals row hrow x (List.mem_of_getElem? hx)
      simp only [three, List.mem_cons, List.not_mem_nil, or_false] at h3
      have key : ∀ (k y : Int), (1 ≤ k ∧ k ≤ 3) → (0 ≤ y ∧ y ≤ 3) → ruleB ⟨(v : Int), k, x, y⟩ = true := fun k y hk hy => by
        unfold ruleB
        simp only [Bool.and_eq_true, decide_eq_true_eq]
        omega
      rcases h3 with rfl | rfl | rfl
      · exact key 1 _ (by omega) h1
      · exact key 2 _ (by omega) h1
      · exact key 3 _ (by omega) h1
theorem F19_valid {t : List (List Int)} {c : List Int} {w : Nat} (h : Tab t c w) : ∃ r, F19 10000 t c = some r ∧ Said t c w r ∧ (r.2 = 0 → validB r.1 = true ∧ r.1.List.length ≤ t.length) := by
  obtain ⟨r, h1, h2⟩ := F19_spec h (fuel := 10000) (by omega)
  refine ⟨r, h1, ?_⟩
  rcases h2 with ⟨s, a1, a2, a4, a5, a6, a7, a3⟩ | ⟨rfl, a1⟩
  · refine ⟨.inl ⟨a1, a2, a3⟩, fun _ => ⟨?_, a4⟩⟩
    have := ch_in h a5
    have h12 := h.n12
    unfold validB
    rw [Bool.and_eq_true, Bool.and_eq_true]
    refine ⟨⟨decide_eq_true (by omega), ?_⟩, List.all_eq_true.2 (a7.valid h)⟩
    rw [a6]
    simp [chB, this]
  · exact ⟨.inr ⟨rfl, rfl, a1⟩, fun e => by cases e⟩

/-! ### Wishes -/
def OkW (d : T_croupierref30_Wish) : Prop := 0 ≤ d.Else
theorem wu8 (x : Int) : 0 ≤ IntKind.u8.wrap x ∧ IntKind.u8.wrap x ≤ 255 := by
  have e : (2 ^ IntKind.u8.bits : Int) = 256 := rfl
  unfold IntKind.wrap
  simp only [e, show IntKind.u8.signed = false from rfl, Bool.false_and]
  rw [if_neg (by decide)]
  omega
theorem F13_L_eq {d : T_croupierref30_Wish} (h : OkW d) {n : Nat} (hn : 1 ≤ n) (hn4 : n ≤ 4) : ∀ (k i : Nat) (l : List T_api_Rule), 14 ≤ k + i → i ≤ 12 → l.length = i → (∀ r ∈ l, ruleB r = true ∧ Fair n r) → ∃ L, F13_L1 d n k i l = some L ∧ validB L = true ∧ ∀ r ∈ L.List, Fair n r
  | 0, i, _, h1, h2, _, _ => by omega
  | k + 1, i, l, h1, h2, h3, h4 => by
    rw [F13_L1, List.length_map]
    have hend : ∃ L : T_api_Rules, some (⟨l, IntKind.i64.wrap (Int.tmod d.Else 4)⟩ : T_api_Rules) = some L ∧ validB L = true ∧ ∀ r ∈ L.List, Fair n r := by
      refine ⟨_, rfl, ?_, fun r hr => (h4 r hr).2⟩
      unfold validB
      rw [Bool.and_eq_true, Bool.and_eq_true]
      exact ⟨⟨decide_eq_true (by show l.length ≤ 12; omega), chB_4 h⟩, List.all_eq_true.2 fun r hr => (h4 r hr).1⟩
    by_cases hi : i < d.L.length
    · rw [show decide ((i : Int) < (d.L.length : Int)) = true from decide_eq_true (by omega), cond_true, Option.bind_some]
      by_cases h12 : i < 12
      · rw [show decide ((i : Int) < 12) = true from decide_eq_true (by omega), cond_true, geti_k, List.getElem?_eq_getElem hi, Option.bind_some, ass_t (decide_eq_true (by omega)), app_1 _ _ (by omega), Option.bind_some, wi i (by omega)]
        refine F13_L_eq h hn hn4 k (i + 1) _ (by omega) (by omega) (by simp [h3]) (fun r hr => ?_)
        rcases List.mem_append.1 hr with hr | hr
        · exact h4 r hr
        · simp only [List.mem_cons, List.not_mem_nil, or_false] at hr
          have a0 := wu8 d.L[i].a0
          have a1 := wu8 d.L[i].a1
          have a3 := wu8 d.L[i].a3
          have b0 := tmod_nn a0.1 (show (0 : Int) < n by omega)
          have b1 := tmod_nn a1.1 (show (0 : Int) < 3 by omega)
          have b2 := tmod_in (x := IntKind.i64.wrap d.L[i].a2) (m := 100) (by omega)
          have b3 := tmod_nn a3.1 (show (0 : Int) < 4 by omega)
          rw [w64 (i := IntKind.u8.wrap d.L[i].a0) (by omega) (by omega), w64 (i := Int.tmod (IntKind.u8.wrap d.L[i].a1) 3) (by omega) (by omega), w64 (i := 1 + Int.tmod (IntKind.u8.wrap d.L[i].a1) 3) (by omega) (by omega), w64 (i := Int.tmod (IntKind.u8.wrap d.L[i].a3) 4) (by omega) (by omega)] at hr
          generalize Int.tmod (IntKind.u8.wrap d.L[i].a0) (n : Int) = v0 at hr b0
          generalize Int.tmod (IntKind.u8.wrap d.L[i].a1) 3 = v1 at hr b1
          generalize Int.tmod (IntKind.i64.wrap d.L[i].a2) 100 = v2 at hr b2
          generalize Int.tmod (IntKind.u8.wrap d.L[i].a3) 4 = v3 at hr b3
          subst hr
          refine ⟨?_, ⟨v0.toNat, by show v0 = _; omega, by omega⟩, by show (1 + v1 = 1 ∨ 1 + v1 = 2 ∨ 1 + v1 = 3); omega⟩
          simp [ruleB]
          omega
      · rw [show decide ((i : Int) < 12) = false from decide_eq_false (by omega), cond_false]
        exact hend
    · rw [show decide ((i : Int) < (d.L.length : Int)) = false from decide_eq_false (by omega), cond_false, Option.bind_some, cond_false]
      exact hend
theorem F13_eq {d : T_croupierref30_Wish} (h : OkW d) {n : Nat} (hn : 1 ≤ n) (hn4 : n ≤ 4) {fuel : Nat} (hf : 20 ≤ fuel) : ∃ L, F13 fuel d n = some L ∧ validB L = true ∧ ∀ r ∈ L.List, Fair n r :=
  F13_L_eq h hn hn4 fuel 0 [] (by omega) (by omega) rfl (by simp)

/-! ### RulesMine -/
theorem F5_L_eq {y2 : List (List Int) × List Int} {L : T_api_Rules} {w : Nat} (hlt : y2.1.length < 1000) (hv : validB L = true) (hfair : ∀ r ∈ L.List, Fair w r) (hrow : ∀ row ∈ y2.1, row.length = w ∧ rowB row = true) : ∀ (k i : Nat) (l : List Int), y2.1.length + 1 ≤ k + i → i ≤ y2.1.length → l = (y2.1.take i).map (choice L.List L.Else) → F5_L1 10000 y2 L k i l = F5_L1 10000 y2 L 1 (y2.1.length : Int) (y2.1.map (choice L.List L.Else))
  | 0, i, _, h, h', _ => by omega
  | k + 1, i, l, h, h', hl => by
    by_cases hi : i < y2.1.length
    · obtain ⟨h1, h2⟩ := hrow _ (List.getElem_mem hi)
      rw [F5_L1, List.length_map, show decide ((i : Int) < (y2.1.length : Int)) = true from decide_eq_true (by omega), cond_true, geti_k, List.getElem?_eq_getElem hi, Option.bind_some, F24_eq (by omega) hv h2 (by rw [h1]; exact hfair), Option.bind_some, show ((0 : Int) != 0) = false from rfl, cond_false, app_1 _ _ (by rw [hl]; simp; omega), Option.bind_some, wi i (by omega)]
      exact F5_L_eq hlt hv hfair hrow k (i + 1) _ (by omega) (by omega) (by rw [hl, List.take_succ_eq_append_getElem hi, List.map_append]; rfl)
    · have : i = y2.1.length := by omega
      subst this
      rw [hl, List.take_length]
      rw [F5_L1, F5_L1, List.length_map, show decide ((y2.1.length : Int) < (y2.1.length : Int)) = false from decide_eq_false (by omega), cond_false, cond_false]
theorem F5_true {d0 : T_croupierref30_Wish} {d1 : T_croupierref30_Draft} (h0 : OkW d0) (h1 : OkD d1) : F5 10000 d0 d1 = some true := by
  unfold F5
  rw [F11_true, Option.bind_some, Bool.not_true, cond_false]
  obtain ⟨t, c, e1, ht, h6⟩ := F12_eq h1 (fuel := 10000) (by omega)
  have hn : 0 < t.length := ht.n1
  have hw0 := ht.row _ (List.getElem_mem hn)
  obtain ⟨L, e2, hv, hfair⟩ := F13_eq h0 ht.w1 ht.w4 (fuel := 10000) (by omega)
  rw [e1, Option.bind_some]
  show Option.bind (geti t 0) _ = _
  rw [geti_0, List.getElem?_eq_getElem hn, Option.bind_some, List.length_map, hw0, e2, Option.bind_some]
  have hrow : ∀ row ∈ t, row.length = wide d1 ∧ rowB row = true := fun row hr => ⟨ht.row row hr, rowB_iff.2 ⟨by rw [ht.row row hr]; exact ht.w1, by rw [ht.row row hr]; exact ht.w4, ht.vals row hr⟩⟩
  have hl := F5_L_eq (y2 := (t, c)) (L := L) (by show t.length < 1000; omega) hv hfair hrow 10000 0 [] (by show t.length + 1 ≤ 10000 + 0; omega) (by omega) rfl
  have hl' : F5_L1 10000 (t, c) L 10000 0 [] = _ := hl
  rw [hl', F5_L1, List.length_map]
  show (bif decide ((t.length : Int) < (t.length : Int)) then _ else _) = _
  rw [show decide ((t.length : Int) < (t.length : Int)) = false from decide_eq_false (by omega), cond_false]
  have hchs : ∀ row, 0 ≤ choice L.List L.Else row ∧ choice L.List L.Else row ≤ 3 := fun row => by
    unfold validB at hv
    rw [Bool.and_eq_true, Bool.and_eq_true] at hv
    have he : 0 ≤ L.Else ∧ L.Else ≤ 3 := by have := hv.1.2; simpa [chB] using this
    have hr : ∀ r ∈ L.List, 0 ≤ r.Then ∧ r.Then ≤ 3 := fun r hr => by have := List.all_eq_true.1 hv.2 r hr; simp [ruleB] at this; omega
    have key : ∀ (M : List T_api_Rule) (e : Int), (0 ≤ e ∧ e ≤ 3) → (∀ r ∈ M, 0 ≤ r.Then ∧ r.Then ≤ 3) → 0 ≤ choice M e row ∧ choice M e row ≤ 3 := fun M => by
      induction M with
      | nil => exact fun e he _ => he
      | cons r M ih =>
        intro e he hM
        unfold choice
        cases pas r row with
        | true => exact hM r List.mem_cons_self
        | false => exact ih e he (fun r hr => hM r (List.mem_cons_of_mem _ hr))
    exact key L.List L.Else he hr
  have ht2 : Tab t (t.map (choice L.List L.Else)) (wide d1) := ⟨by simp, ht.n1, ht.n12, ht.row, ht.w1, ht.w4, ht.vals, fun x hx => by obtain ⟨row, _, rfl⟩ := List.mem_map.1 hx; exact hchs row⟩
  have hright : RightL t (t.map (choice L.List L.Else)) (wide d1) L.List L.Else := ⟨hfair, fun i row x hr hx => by
    rw [List.getElem?_map, hr] at hx
    exact Option.some.inj hx⟩
  obtain ⟨r, f1, s1, v1⟩ := F19_valid ht2
  have hr0 : r.2 = 0 := by
    rcases s1 with ⟨a, _⟩ | ⟨_, _, a⟩
    · exact a
    · exact absurd hright (a _ _)
  obtain ⟨hvr, _⟩ := v1 hr0
  obtain ⟨_, hrr, hmin⟩ := s1.resolve_right (fun ⟨a, _⟩ => by rw [hr0] at a; cases a)
  show Option.bind (F17 10000 L t (t.map (choice L.List L.Else))) _ = _
  rw [F17_eq (by omega) ht2 hv hfair (rightL_iff.1 hright).2, Option.bind_some, f1, Option.bind_some, F17_eq (by omega) ht2 hvr hrr.1 (rightL_iff.1 hrr).2, Option.bind_some, hr0, show ((0 : Int) == 0) = true from rfl]
  simp only [cond_true, Option.bind_some, List.length_map]
  rw [show decide ((r.1.List.length : Int) ≤ (L.List.length : Int)) = true from decide_eq_true (by have := hmin _ _ hright; omega)]
end Go.Proofs.Ytljkgnjmigmcgaa
