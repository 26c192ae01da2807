/- Plain law of chapter 31: CodeRuns. -/
import Derived.Test.YtilfjfpemjfalaaGreatDoorC3
import Derived.Test.YtilfjfpemjfalaaGreatDoorFRu
namespace Go.Proofs.YtilfjfpemjfalaaGreatDoor
open Go Go.RowKit Kx
set_option maxRecDepth 100000

theorem in3_eq (n lo hi : Int) : F70 n lo hi = some (inB lo hi n) := by
  unfold F70 inB
  cases decide (n ≥ lo) <;> rfl
theorem in30_eq (n lo hi : Int) : F72 n lo hi = some (inB lo hi n) := by
  unfold F72 inB
  cases decide (n ≥ lo) <;> rfl
theorem test_eq (x : T_api_Instr) : F53 x = some (inB 1 3 x.Op) := by unfold F53; rw [in3_eq]; rfl
theorem op3 (x : T_api_Instr) : inB 1 3 x.Op = (x.Op == 1 || x.Op == 2 || x.Op == 3) := by
  by_cases h1 : x.Op = 1
  · simp [h1, inB]
  · by_cases h2 : x.Op = 2
    · simp [h2, inB]
    · by_cases h3 : x.Op = 3
      · simp [h3, inB]
      · have : inB 1 3 x.Op = false := by
          rw [Bool.eq_false_iff]
          intro h
          rw [inB_iff] at h
          omega
        rw [this]; simp [h1, h2, h3]
theorem inGo {g : Int} {i n : Nat} (hn : n < 1000000) (hi : i < n) : inB (IntKind.i64.wrap ((i : Int) + 1)) (IntKind.i64.wrap ((n : Int) - 1)) g = (decide (g > i) && decide (g < n)) := by
  rw [wi i (by omega), w64 (by omega) (by omega)]
  unfold inB
  by_cases h1 : g > i
  · rw [decide_eq_true h1, decide_eq_true (show g ≥ ((i + 1 : Nat) : Int) by omega)]
    by_cases h2 : g < n
    · rw [decide_eq_true h2, decide_eq_true (show g ≤ (n : Int) - 1 by omega)]
    · rw [decide_eq_false h2, decide_eq_false (show ¬ g ≤ (n : Int) - 1 by omega)]
  · rw [decide_eq_false h1, decide_eq_false (show ¬ g ≥ ((i + 1 : Nat) : Int) by omega)]; simp
theorem rgood_at {x : T_api_Instr} {i n : Nat} (hn : n < 1000000) (hi : i < n) : F71 x i n = some (okI n i x) := by
  unfold F71 okI
  simp only [test_eq, in3_eq, Option.bind_some, op3, inGo hn hi]
  cases (x.Op == 1 || x.Op == 2 || x.Op == 3) with
  | true => cases inB 0 3 x.Var <;> cases inB (-99) 99 x.Val <;> cases decide (x.Go > (i : Int)) <;> cases decide (x.Go < (n : Int)) <;> rfl
  | false =>
    cases (x.Op == 4) with
    | true => cases (x.Var == 0) <;> cases (x.Val == 0) <;> cases decide (x.Go > (i : Int)) <;> cases decide (x.Go < (n : Int)) <;> rfl
    | false =>
      cases (x.Op == 5) with
      | true => cases inB 0 3 x.Val <;> cases (x.Var == 0) <;> cases (x.Go == 0) <;> rfl
      | false => rfl
theorem refgood_L {l : List T_api_Instr} (hl : l.length < 1000000) : ∀ (k i : Nat), l.length + 1 ≤ k + i → i ≤ l.length → F38_L1 l k i = some (goodL l.length i (l.drop i))
  | 0, i, h, h' => by omega
  | k + 1, i, h, h' => by
    rw [F38_L1]
    by_cases hi : i < l.length
    · have hd : l.drop i = l[i] :: l.drop (i + 1) := List.drop_eq_getElem_cons hi
      have hg : geti l (i : Int) = some l[i] := by rw [geti_k]; exact List.getElem?_eq_getElem hi
      rw [dlt hi, cond_true, hg, Option.bind_some, List.length_map, rgood_at hl hi, Option.bind_some, hd, goodL, wi i (by omega), refgood_L hl k (i + 1) (by omega) (by omega)]
      cases okI l.length i l[i] <;> rfl
    · have : i = l.length := by omega
      subst this
      rw [dge (Nat.le_refl _), cond_false, List.drop_length]; rfl
theorem refgood_eq {fuel : Nat} {l : List T_api_Instr} (hl : l.length < 1000000) (hf : l.length + 1 ≤ fuel) : F38 fuel l = some (good l) := by
  unfold F38 good
  rw [in3_eq, Option.bind_some, List.length_map]
  have := refgood_L hl fuel 0 (by omega) (by omega)
  rw [List.drop_zero] at this
  rw [show (F38_L1 l fuel 0) = some (goodL l.length 0 l) from this]
  cases inB 1 40 l.length <;> simp
theorem refrow_L {l : List Int} (hl : l.length < 1000000) : ∀ (k i : Nat), l.length + 1 ≤ k + i → i ≤ l.length → F39_L1 l k i = some ((l.drop i).all (inB (-99) 99) && inB 1 4 l.length)
  | 0, i, h, h' => by omega
  | k + 1, i, h, h' => by
    rw [F39_L1]
    by_cases hi : i < l.length
    · have hd : l.drop i = l[i] :: l.drop (i + 1) := List.drop_eq_getElem_cons hi
      have hg : geti l (i : Int) = some l[i] := by rw [geti_k]; exact List.getElem?_eq_getElem hi
      rw [dlt hi, cond_true, hg, Option.bind_some, in30_eq, Option.bind_some, hd, List.all_cons, wi i (by omega), refrow_L hl k (i + 1) (by omega) (by omega)]
      cases inB (-99) 99 l[i] <;> rfl
    · have : i = l.length := by omega
      subst this
      rw [dge (Nat.le_refl _), cond_false, List.drop_length, in30_eq, List.length_map]; rfl
theorem refrow_eq {fuel : Nat} {l : List Int} (hl : l.length < 1000000) (hf : l.length + 1 ≤ fuel) : F39 fuel l = some (rowB l) := by
  unfold F39 rowB
  have := refrow_L hl fuel 0 (by omega) (by omega)
  rw [List.drop_zero] at this
  rw [Bool.and_comm]; exact this
theorem reffit_L {l : List T_api_Instr} {row : List Int} (hl : l.length < 1000000) (hop : ∀ x ∈ l, 1 ≤ x.Op) : ∀ (k i : Nat), l.length + 1 ≤ k + i → i ≤ l.length → F40_L1 l row.length k i = some (fitB (l.drop i) row)
  | 0, i, h, h' => by omega
  | k + 1, i, h, h' => by
    rw [F40_L1]
    by_cases hi : i < l.length
    · have hd : l.drop i = l[i] :: l.drop (i + 1) := List.drop_eq_getElem_cons hi
      have hg : geti l (i : Int) = some l[i] := by rw [geti_k]; exact List.getElem?_eq_getElem hi
      have hop1 := hop l[i] (List.getElem_mem hi)
      rw [dlt hi, cond_true, hg, Option.bind_some, Option.bind_some, test_eq, Option.bind_some, hd, fitB, List.all_cons, wi i (by omega), reffit_L hl hop k (i + 1) (by omega) (by omega)]
      have e : inB 1 3 (l[i]).Op = decide ((l[i]).Op ≤ 3) := by unfold inB; rw [decide_eq_true hop1]; rfl
      rw [e]
      cases decide ((l[i]).Op ≤ 3) <;> cases decide ((l[i]).Var ≥ (row.length : Int)) <;> rfl
    · have : i = l.length := by omega
      subst this
      rw [dge (Nat.le_refl _), cond_false, List.drop_length]; rfl
theorem reffit_eq {fuel : Nat} {l : List T_api_Instr} {row : List Int} (hg : good l = true) (hf : 50 ≤ fuel) : F40 fuel l row.length = some (fitB l row) := by
  have hl := good_len hg
  have := reffit_L (row := row) (show l.length < 1000000 by omega) (fun x hx => by
    obtain ⟨i, hi⟩ := List.getElem?_of_mem hx
    rcases okI_dest (good_at hg hi) with ⟨h, _⟩ | ⟨h, _⟩ | ⟨h, _⟩ <;> omega) fuel 0 (by omega) (by omega)
  unfold F40
  simpa using this
theorem jumps_eq {x : T_api_Instr} {row : List Int} {v : Int} (hv : geti row x.Var = some v) (hv' : row.getD x.Var.toNat 0 = v) (h : x.Op = 1 ∨ x.Op = 2 ∨ x.Op = 3) : F73 x row = some (jmp x row) := by
  unfold F73 jmp
  rw [hv, Option.bind_some, hv']
  rcases h with h | h | h
  · rw [h]; cases (v == x.Val) <;> rfl
  · rw [h]; cases decide (v ≤ x.Val) <;> rfl
  · rw [h]; rfl
theorem ran_L {l : List T_api_Instr} {row : List Int} (hg : good l = true) (hr : fitsB l row) {i : Nat} {c : Int} {n : Nat} (t : Trip l row i c n) : ∀ (k s : Nat), n ≤ k → s + n < 1000000 → F41_L1 l row k i ((s + 1 : Nat) : Int) = some (c, ((s + n : Nat) : Int)) := by
  induction t with
  | @stop i x h h5 =>
    intro k s hk hs
    obtain ⟨k, rfl⟩ : ∃ j, k = j + 1 := ⟨k - 1, by omega⟩
    rw [F41_L1, geti_k, h, Option.bind_some, Option.bind_some]
    rw [show (x.Op != 5) = false by simp [h5], cond_false, Option.bind_some]
  | @step i n c x h h5 t ih =>
    intro k s hk hs
    obtain ⟨k, rfl⟩ : ∃ j, k = j + 1 := ⟨k - 1, by omega⟩
    have hi : i < l.length := (List.getElem?_eq_some_iff.mp h).1
    have hlen := good_len hg
    have ih := ih k (s + 1) (by omega) (by omega)
    rw [F41_L1, geti_k, h, Option.bind_some, Option.bind_some, show (x.Op != 5) = true by simp [h5], cond_true, wi (s + 1) (by omega), wi i (by omega)]
    have e : (bif x.Op == 4 then some true else Option.bind (F73 x row) fun y15 => some y15) = some (jmp x row) := by
      rcases okI_dest (good_at hg h) with ⟨h1, _, _, hv, _⟩ | ⟨h1, _⟩ | ⟨h1, _⟩
      · rw [show (x.Op == 4) = false by rcases h1 with h1 | h1 | h1 <;> simp [h1], cond_false, jumps_eq (row_get hv.1 (hr x (List.mem_of_getElem? h) (by omega))) rfl h1]; rfl
      · rw [h1]; simp [jmp, h1]
      · exact absurd h1 h5
    rw [e, Option.bind_some]
    have hgo0 : x.Go ≥ 0 := by rcases okI_dest (good_at hg h) with ⟨_, h2, _⟩ | ⟨_, h2, _⟩ | ⟨h1, _⟩ <;> first | omega | exact absurd h1 h5
    unfold nxt at ih
    rw [show s + (n + 1) = s + 1 + n by omega]
    cases hj : jmp x row with
    | true => rw [hj] at ih; simp only [cond_true] at ih ⊢; rwa [Int.toNat_of_nonneg hgo0] at ih
    | false => rw [hj] at ih; simpa only [cond_false] using ih
/-- The program's Run and the reference's are one. -/
theorem run_same {x : List T_api_Instr} {row : List Int} (hx : x.length ≤ 45) (hr : row.length ≤ 10) : ∃ r, F11 100 x row = some r ∧ F12 100 x row = some r := by
  cases hg : good x with
  | false =>
    refine ⟨(0, 0, 310), ?_, ?_⟩
    · unfold F11; rw [valid_eq (by omega) (by omega), hg]; rfl
    · unfold F12; rw [refgood_eq (by omega) (by omega), hg]; rfl
  | true =>
    have hl := good_len hg
    cases h : (rowB row && fitB x row) with
    | false =>
      refine ⟨(0, 0, 2), ?_, ?_⟩
      · rw [run_head hg (by omega) (by omega) (by omega), if_neg (by rw [h]; simp)]
      · unfold F12
        rw [refgood_eq (by omega) (by omega), hg, Option.bind_some, show (!true) = false from rfl, cond_false, refrow_eq (by omega) (by omega), List.length_map, reffit_eq hg (by omega)]
        cases h1 : rowB row with
        | false => rfl
        | true => rw [h1, Bool.true_and] at h; rw [h]; rfl
    | true =>
      obtain ⟨c, n, t, h1, h2⟩ := trip_ex hg row x.length 0 (by omega) (by omega)
      refine ⟨(c, (n : Int), 0), run_ok hg h t (by omega) (by omega), ?_⟩
      rw [Bool.and_eq_true] at h
      unfold F12 F41
      rw [refgood_eq (by omega) (by omega), hg, Option.bind_some, show (!true) = false from rfl, cond_false, refrow_eq (by omega) (by omega), List.length_map, reffit_eq hg (by omega), h.1, h.2]
      have := ran_L hg (fitB_fits h.2) t 100 0 (by omega) (by omega)
      simp only [Option.bind_some, Bool.not_true, cond_false]
      rw [show (F41_L1 x row 100 0 1) = some (c, ((0 + n : Nat) : Int)) from this, Option.bind_some, Nat.zero_add]
/-! ### Bent code -/
theorem slc_n {α : Type} {l : List α} {lo hi : Int} (h0 : 0 ≤ lo) (h1 : lo ≤ hi) (h2 : hi ≤ l.length) : slc l lo hi = some ((l.drop lo.toNat).take (hi - lo).toNat) := by
  unfold slc
  rw [decide_eq_true h0, decide_eq_true h1, decide_eq_true h2]; rfl
theorem bend_L : ∀ (k : Nat) (l : List T_api_Instr), 42 ≤ k + l.length → l.length ≤ 41 → ∃ y, F10_L1 k l = some y ∧ y.length ≤ 41
  | 0, l, h, h' => by omega
  | k + 1, l, h, h' => by
    rw [F10_L1, List.length_map]
    by_cases hl : l.length < 41
    · rw [decide_eq_true (show (l.length : Int) < 41 by omega), cond_true]
      unfold F27
      rw [Option.bind_some, app_n _ _ (by simp; omega), Option.bind_some]
      exact bend_L k _ (by simp; omega) (by simp; omega)
    · rw [decide_eq_false (show ¬ (l.length : Int) < 41 by omega), cond_false]
      exact ⟨_, rfl, h'⟩
theorem bend_ex (b : T_croupierlaw31_Bend) (hb : 0 ≤ b.At ∧ b.At ≤ 255) {l : List T_api_Instr} (hl : l.length ≤ 41) : ∃ y, F10 100 b l = some y ∧ y.length ≤ 41 := by
  unfold F10
  rw [app_n _ _ (by simp; omega), Option.bind_some, List.nil_append]
  simp only [List.length_map]
  by_cases h0 : l.length = 0
  · rw [show ((l.length : Int) == 0) = true by simp [h0]]
    exact ⟨_, rfl, hl⟩
  · rw [show ((l.length : Int) == 0) = false from beq_false_of_ne (by omega), cond_false, ass_t (decide_eq_true (by omega)), w64 (i := b.At) (by omega) (by omega)]
    have ht := tm_nn (x := b.At) hb.1 (m := (l.length : Int)) (by omega)
    obtain ⟨j, hj⟩ : ∃ j : Nat, Int.tmod b.At l.length = (j : Int) := ⟨(Int.tmod b.At l.length).toNat, by omega⟩
    rw [hj, geti_k, List.getElem?_eq_getElem (by omega : j < l.length), Option.bind_some]
    simp only [Option.bind_some]
    have hs : ∀ z, (l.set (0 + Int.toNat (j : Int)) z).length ≤ 41 := fun z => by rw [List.length_set]; exact hl
    cases (Int.tmod b.What 7) == 0 with
    | true => exact ⟨_, rfl, hs _⟩
    | false =>
      cases (Int.tmod b.What 7) == 1 with
      | true => exact ⟨_, rfl, hs _⟩
      | false =>
        cases (Int.tmod b.What 7) == 2 with
        | true => exact ⟨_, rfl, hs _⟩
        | false =>
          cases (Int.tmod b.What 7) == 3 with
          | true => exact ⟨_, rfl, hs _⟩
          | false =>
            cases (Int.tmod b.What 7) == 4 with
            | true =>
              simp only [cond_false, cond_true]
              rw [w64 (i := (l.length : Int) - 1) (by omega) (by omega), slc_n (by omega) (by omega) (by omega)]
              exact ⟨_, rfl, by simp; omega⟩
            | false =>
              cases (Int.tmod b.What 7) == 5 with
              | true => exact bend_L 100 l (by omega) hl
              | false => exact ⟨_, rfl, hl⟩
theorem slc_min {α : Type} {l : List α} {f : α → List Dat} (m : Nat) {e : Int} (he : e = m) : ∃ y, slc l 0 (bif decide (e < ((l.map f).length : Int)) then e else ((l.map f).length : Int)) = some y ∧ y.length ≤ m := by
  subst he
  rw [List.length_map]
  by_cases h : (m : Int) < l.length
  · rw [decide_eq_true h, cond_true, slc_n (by omega) (by omega) (by omega)]
    exact ⟨_, rfl, by simp; omega⟩
  · rw [decide_eq_false h, cond_false, slc_n (by omega) (by omega) (by omega)]
    exact ⟨_, rfl, by simp; omega⟩
theorem runs_L3 {a b : List Int} {v : Int} {x : List T_api_Instr} {rec : List Int → Int → Option Bool} (hx : x.length ≤ 45) (ha : a.length ≤ 10) (hb : b.length ≤ 10) (hrec : rec a (IntKind.i64.wrap (v + 1)) = some true) : ∀ (k i : Nat), 3 ≤ k + i → i ≤ 2 → F3_L3 100 a b v x rec k i = some true
  | 0, i, h, h' => by omega
  | k + 1, i, h, h' => by
    rw [F3_L3]
    by_cases hi : i < 2
    · rw [show decide ((i : Int) < 2) = true from decide_eq_true (by omega), cond_true, geti_k]
      obtain ⟨z, hz, hzl⟩ : ∃ z, [a, b][i]? = some z ∧ z.length ≤ 10 := by
        rcases (by omega : i = 0 ∨ i = 1) with e | e
        · exact ⟨a, by rw [e]; rfl, ha⟩
        · exact ⟨b, by rw [e]; rfl, hb⟩
      obtain ⟨r, h1, h2⟩ := run_same hx hzl
      rw [hz, Option.bind_some, h1, h2, Option.bind_some, Option.bind_some, wi i (by omega), runs_L3 hx ha hb hrec k (i + 1) (by omega) (by omega)]
      simp
    · rw [show decide ((i : Int) < 2) = false from decide_eq_false (by omega), cond_false]
      exact hrec
theorem runs_L2 {d : List Int} {x y : List T_api_Instr} (hx : x.length ≤ 45) (hy : y.length ≤ 45) {a : List Int} (ha : a.length ≤ 10) : ∀ (k i : Nat), 3 ≤ k + i → i ≤ 2 → F3_L2 100 d x y k a i = some true
  | 0, i, h, h' => by omega
  | k + 1, i, h, h' => by
    rw [F3_L2]
    by_cases hi : i < 2
    · rw [show decide ((i : Int) < 2) = true from decide_eq_true (by omega), cond_true, geti_k]
      obtain ⟨z, hz, hzl⟩ : ∃ z, [x, y][i]? = some z ∧ z.length ≤ 45 := by
        rcases (by omega : i = 0 ∨ i = 1) with e | e
        · exact ⟨x, by rw [e]; rfl, hx⟩
        · exact ⟨y, by rw [e]; rfl, hy⟩
      obtain ⟨b, hb, hbl⟩ := slc_min (l := d) (f := e_i64) 6 (e := 6) rfl
      rw [hz, Option.bind_some, hb, Option.bind_some]
      exact runs_L3 hzl ha (by omega) (by rw [wi i (by omega)]; exact runs_L2 hx hy ha k (i + 1) (by omega) (by omega)) 100 0 (by omega) (by omega)
    · rw [show decide ((i : Int) < 2) = false from decide_eq_false (by omega), cond_false]
theorem row_n (d : Int) (h : 0 ≤ d) : ∃ n : Nat, IntKind.i64.wrap (1 + (IntKind.i64.wrap (Int.tmod d 4))) = (n : Int) ∧ 1 ≤ n ∧ n ≤ 4 := by
  have h1 := tm_nn (x := d) h (m := 4) (by omega)
  rw [w64 (i := Int.tmod d 4) (by omega) (by omega), w64 (by omega) (by omega)]
  exact ⟨(1 + Int.tmod d 4).toNat, by omega, by omega, by omega⟩
theorem runs_L1 {b : T_croupierlaw31_Bend} (hb : 0 ≤ b.At ∧ b.At ≤ 255) {d2 : List Int} {d3 : A_a4i8} {d4 : Int} {n : Nat} (hn : IntKind.i64.wrap (1 + (IntKind.i64.wrap (Int.tmod d4 4))) = (n : Int)) (h4 : n ≤ 4) {l : List T_api_Instr} (hl : l.length ≤ 41) : ∀ (k i : Nat) (acc : List Int), 5 ≤ k + i → i ≤ n → acc.length ≤ i → F3_L1 100 b d2 d3 d4 l k i acc = some true
  | 0, i, acc, h, h', _ => by omega
  | k + 1, i, acc, h, h', ha => by
    rw [F3_L1, hn]
    by_cases hi : i < n
    · rw [show decide ((i : Int) < (n : Int)) = true from decide_eq_true (by omega), cond_true, geti_k]
      obtain ⟨z, hz⟩ : ∃ z, [d3.a0, d3.a1, d3.a2, d3.a3][i]? = some z := ⟨_, List.getElem?_eq_getElem (by simp; omega)⟩
      rw [hz, Option.bind_some, app_n _ _ (by simp; omega), Option.bind_some, wi i (by omega)]
      exact runs_L1 hb hn h4 hl k (i + 1) _ (by omega) (by omega) (by simp; omega)
    · rw [show decide ((i : Int) < (n : Int)) = false from decide_eq_false (by omega), cond_false]
      obtain ⟨y, hy, hyl⟩ := bend_ex b hb hl
      rw [hy, Option.bind_some]
      exact runs_L2 (by omega) (by omega) (by omega) 100 0 (by omega) (by omega)
theorem law31Runs (d0 : List A_a4i8) (b : T_croupierlaw31_Bend) (hb : 0 ≤ b.At ∧ b.At ≤ 255) (d2 : List Int) (d3 : A_a4i8) (d4 : Int) (h4 : 0 ≤ d4) : F3 100 d0 b d2 d3 d4 = some true := by
  unfold F3
  obtain ⟨l, hl, hg, _⟩ := of_good (fuel := 100) d0 (by omega)
  have hlen := good_len hg
  obtain ⟨n, hn, _, h4'⟩ := row_n d4 h4
  rw [wakes_true, Option.bind_some, show (!true) = false from rfl, cond_false, hl, Option.bind_some]
  exact runs_L1 hb hn h4' (by omega) 100 0 [] (by omega) (by omega) (by simp)
end Go.Proofs.YtilfjfpemjfalaaGreatDoor
