/- Plain law of chapter 31: drafts of code, runs. -/
import Derived.Test.YtilfjfpemjfalaaGreatDoorC1
import Derived.Test.YtilfjfpemjfalaaGreatDoorFRu
namespace Go.Proofs.YtilfjfpemjfalaaGreatDoor
open Go Go.RowKit Kx
set_option maxRecDepth 100000

theorem tm_lt (x : Int) : -99 ≤ Int.tmod x 100 ∧ Int.tmod x 100 ≤ 99 := by
  rcases Int.le_total 0 x with h | h
  · rw [Int.tmod_eq_emod_of_nonneg h]; omega
  · have e : Int.tmod x 100 = -(Int.tmod (-x) 100) := by rw [Int.neg_tmod, Int.neg_neg]
    rw [e, Int.tmod_eq_emod_of_nonneg (by omega)]; omega
theorem tm_nn {x : Int} {m : Int} (h : 0 ≤ x) (hm : 0 < m) : 0 ≤ Int.tmod x m ∧ Int.tmod x m < m := by
  rw [Int.tmod_eq_emod_of_nonneg h]
  exact ⟨Int.emod_nonneg _ (by omega), Int.emod_lt_of_pos _ hm⟩

/-! ### Drafts -/
theorem okI_mk {n i : Nat} {x : T_api_Instr} (h : ((x.Op = 1 ∨ x.Op = 2 ∨ x.Op = 3) ∧ x.Go > i ∧ x.Go < n ∧ (0 ≤ x.Var ∧ x.Var ≤ 3) ∧ (-99 ≤ x.Val ∧ x.Val ≤ 99)) ∨ (x.Op = 4 ∧ x.Go > i ∧ x.Go < n ∧ x.Var = 0 ∧ x.Val = 0) ∨ (x.Op = 5 ∧ (0 ≤ x.Val ∧ x.Val ≤ 3) ∧ x.Var = 0 ∧ x.Go = 0)) : okI n i x = true := by
  unfold okI
  rcases h with ⟨h1, h2, h3, h4, h5⟩ | ⟨h1, h2, h3, h4, h5⟩ | ⟨h1, h2, h3, h4⟩
  · have e : (x.Op == 1 || x.Op == 2 || x.Op == 3) = true := by rcases h1 with h | h | h <;> simp [h]
    rw [e, cond_true, decide_eq_true h2, decide_eq_true h3, inB_iff.mpr h4, inB_iff.mpr h5]; rfl
  · simp only [h1, h4, h5, decide_eq_true h2, decide_eq_true h3]; rfl
  · simp only [h1, h3, h4, inB_iff.mpr h2]; rfl
theorem okI_dest {n i : Nat} {x : T_api_Instr} (h : okI n i x = true) : ((x.Op = 1 ∨ x.Op = 2 ∨ x.Op = 3) ∧ x.Go > i ∧ x.Go < n ∧ (0 ≤ x.Var ∧ x.Var ≤ 3) ∧ (-99 ≤ x.Val ∧ x.Val ≤ 99)) ∨ (x.Op = 4 ∧ x.Go > i ∧ x.Go < n ∧ x.Var = 0 ∧ x.Val = 0) ∨ (x.Op = 5 ∧ (0 ≤ x.Val ∧ x.Val ≤ 3) ∧ x.Var = 0 ∧ x.Go = 0) := by
  unfold okI at h
  cases e1 : (x.Op == 1 || x.Op == 2 || x.Op == 3) with
  | true =>
    rw [e1, cond_true] at h
    simp only [Bool.and_eq_true, decide_eq_true_eq, inB_iff] at h
    simp only [Bool.or_eq_true, beq_iff_eq] at e1
    exact .inl ⟨by rcases e1 with (e | e) | e <;> simp [e], h.1.1.1, h.1.1.2, h.1.2, h.2⟩
  | false =>
    rw [e1, cond_false] at h
    cases e2 : (x.Op == 4) with
    | true =>
      rw [e2, cond_true] at h
      simp only [Bool.and_eq_true, decide_eq_true_eq, beq_iff_eq] at h
      exact .inr (.inl ⟨by simpa using e2, h.1.1.1, h.1.1.2, h.1.2, h.2⟩)
    | false =>
      rw [e2, cond_false] at h
      cases e3 : (x.Op == 5) with
      | true =>
        rw [e3, cond_true] at h
        simp only [Bool.and_eq_true, inB_iff, beq_iff_eq] at h
        exact .inr (.inr ⟨by simpa using e3, h.1.1, h.1.2, h.2⟩)
      | false => rw [e3, cond_false] at h; cases h
theorem goodL_snoc {n : Nat} : ∀ {l : List T_api_Instr} {i : Nat} {x : T_api_Instr}, goodL n i l = true → okI n (i + l.length) x = true → goodL n i (l ++ [x]) = true
  | [], i, x, _, h => by simp only [List.nil_append, goodL, Bool.and_true]; simpa using h
  | y :: l, i, x, hg, h => by
    simp only [goodL, Bool.and_eq_true, List.cons_append] at hg ⊢
    refine ⟨hg.1, goodL_snoc hg.2 ?_⟩
    rwa [show i + 1 + l.length = i + (y :: l).length by simp; omega]
/-- What the draft's instruction is, at index i of n + 1. -/
theorem draft_go {a : Int} {i n : Nat} (hi : i < n) (hn : n < 1000) : ∃ g : Nat, IntKind.i64.wrap ((IntKind.i64.wrap ((i : Int) + 1)) + (Int.tmod (IntKind.i64.wrap (IntKind.u8.wrap a)) (IntKind.i64.wrap ((n : Int) - i)))) = (g : Int) ∧ i < g ∧ g < n + 1 := by
  have hb := wu8 a
  rw [w64 (i := IntKind.u8.wrap a) (by omega) (by omega), w64 (i := (n : Int) - i) (by omega) (by omega), wi i (by omega)]
  have ht := tm_nn (x := IntKind.u8.wrap a) hb.1 (m := (n : Int) - i) (by omega)
  rw [w64 (by omega) (by omega)]
  exact ⟨((i : Int) + 1 + Int.tmod (IntKind.u8.wrap a) ((n : Int) - i)).toNat, by omega, by omega, by omega⟩
theorem draft_ok0 {a : Int} {i n : Nat} : okI (n + 1) i (⟨5, 0, IntKind.i64.wrap (Int.tmod (IntKind.u8.wrap a) 4), 0⟩ : T_api_Instr) = true := by
  have hb := wu8 a
  have ht := tm_nn (x := IntKind.u8.wrap a) hb.1 (m := 4) (by omega)
  refine okI_mk (.inr (.inr ⟨rfl, ?_, rfl, rfl⟩))
  dsimp only
  rw [w64 (by omega) (by omega)]; omega
theorem draft_ok1 {a : Int} {i n : Nat} (hi : i < n) (hn : n < 1000) : okI (n + 1) i (⟨4, 0, 0, IntKind.i64.wrap ((IntKind.i64.wrap ((i : Int) + 1)) + (Int.tmod (IntKind.i64.wrap (IntKind.u8.wrap a)) (IntKind.i64.wrap ((n : Int) - i))))⟩ : T_api_Instr) = true := by
  obtain ⟨g, e, h1, h2⟩ := draft_go (a := a) hi hn
  rw [e]
  exact okI_mk (.inr (.inl ⟨rfl, by show (g : Int) > i; omega, by show (g : Int) < ((n + 1 : Nat) : Int); omega, rfl, rfl⟩))
theorem draft_ok2 {a b c d : Int} {i n : Nat} (hi : i < n) (hn : n < 1000) : okI (n + 1) i (⟨IntKind.i64.wrap (1 + (IntKind.i64.wrap (Int.tmod (IntKind.u8.wrap b) 3))), IntKind.i64.wrap (Int.tmod (IntKind.u8.wrap c) 4), Int.tmod (IntKind.i64.wrap d) 100, IntKind.i64.wrap ((IntKind.i64.wrap ((i : Int) + 1)) + (Int.tmod (IntKind.i64.wrap (IntKind.u8.wrap a)) (IntKind.i64.wrap ((n : Int) - i))))⟩ : T_api_Instr) = true := by
  obtain ⟨g, e, h1, h2⟩ := draft_go (a := a) hi hn
  rw [e]
  have hb := wu8 b
  have tb := tm_nn (x := IntKind.u8.wrap b) hb.1 (m := 3) (by omega)
  have hc := wu8 c
  have tc := tm_nn (x := IntKind.u8.wrap c) hc.1 (m := 4) (by omega)
  rw [w64 (i := Int.tmod (IntKind.u8.wrap b) 3) (by omega) (by omega), w64 (i := 1 + _) (by omega) (by omega), w64 (i := Int.tmod (IntKind.u8.wrap c) 4) (by omega) (by omega)]
  exact okI_mk (.inl ⟨by show (1 + _ = (1 : Int) ∨ 1 + _ = (2 : Int) ∨ 1 + _ = (3 : Int)); omega, by show (g : Int) > i; omega, by show (g : Int) < ((n + 1 : Nat) : Int); omega, by dsimp only; omega, tm_lt _⟩)
theorem draft_last {n : Nat} {i : Nat} : okI (n + 1) i (⟨5, 0, Int.tmod (n : Int) 4, 0⟩ : T_api_Instr) = true := by
  have ht := tm_nn (x := (n : Int)) (by omega) (m := 4) (by omega)
  exact okI_mk (.inr (.inr ⟨rfl, by dsimp only; omega, rfl, rfl⟩))
theorem of_L1 {d : List A_a4i8} (hd : 29 ≤ d.length) : ∀ (k i : Nat) (acc : List T_api_Instr), 30 ≤ k + i → i ≤ 29 → acc.length = i → goodL 30 0 acc = true → ∃ l, F9_L1 d k i acc = some l ∧ l.length = 30 ∧ goodL 30 0 l = true
  | 0, i, acc, h, h', _, _ => by omega
  | k + 1, i, acc, h, h', ha, hg => by
    rw [F9_L1]
    by_cases hi : i < 29
    · have hgi : geti d (i : Int) = some (d[i]'(by omega)) := by rw [geti_k]; exact List.getElem?_eq_getElem (by omega)
      rw [decide_eq_true (show (i : Int) < 29 by omega), cond_true, hgi, Option.bind_some, ass_t (decide_eq_true (by rw [w64 (by omega) (by omega)]; omega))]
      have step : ∀ x : T_api_Instr, okI 30 i x = true → ∃ l, (Option.bind (app acc [x]) fun l21 => F9_A2 i (F9_L1 d k) l21) = some l ∧ l.length = 30 ∧ goodL 30 0 l = true := fun x hx => by
        rw [app_n _ _ (by simp; omega), Option.bind_some]
        unfold F9_A2
        rw [wi i (by omega)]
        exact of_L1 hd k (i + 1) _ (by omega) (by omega) (by simp [ha]) (goodL_snoc hg (by rw [ha]; simpa using hx))
      generalize (d[i]'(by omega)) = y
      cases (Int.tmod (IntKind.u8.wrap y.a0) 6) == 0 with
      | true => exact step _ draft_ok0
      | false =>
        cases (Int.tmod (IntKind.u8.wrap y.a0) 6) == 1 with
        | true => exact step _ (draft_ok1 (n := 29) hi (by omega))
        | false => exact step _ (draft_ok2 (n := 29) hi (by omega))
    · have : i = 29 := by omega
      subst this
      rw [show decide (((29 : Nat) : Int) < 29) = false from rfl, cond_false, app_n _ _ (by simp; omega)]
      exact ⟨_, rfl, by simp [ha], goodL_snoc hg (draft_last (n := 29))⟩
theorem of_L3 {d : List A_a4i8} (hd : d.length ≤ 29) : ∀ (k i : Nat) (acc : List T_api_Instr), d.length + 1 ≤ k + i → i ≤ d.length → acc.length = i → goodL (d.length + 1) 0 acc = true → ∃ l, F9_L3 d k i acc = some l ∧ l.length = d.length + 1 ∧ goodL (d.length + 1) 0 l = true
  | 0, i, acc, h, h', _, _ => by omega
  | k + 1, i, acc, h, h', ha, hg => by
    rw [F9_L3]
    by_cases hi : i < d.length
    · have hgi : geti d (i : Int) = some d[i] := by rw [geti_k]; exact List.getElem?_eq_getElem hi
      rw [dlt hi, cond_true, hgi, Option.bind_some, List.length_map, ass_t (decide_eq_true (by rw [w64 (by omega) (by omega)]; omega))]
      have step : ∀ x : T_api_Instr, okI (d.length + 1) i x = true → ∃ l, (Option.bind (app acc [x]) fun l21 => F9_A4 i (F9_L3 d k) l21) = some l ∧ l.length = d.length + 1 ∧ goodL (d.length + 1) 0 l = true := fun x hx => by
        rw [app_n _ _ (by simp; omega), Option.bind_some]
        unfold F9_A4
        rw [wi i (by omega)]
        exact of_L3 hd k (i + 1) _ (by omega) (by omega) (by simp [ha]) (goodL_snoc hg (by rw [ha]; simpa using hx))
      generalize d[i] = y
      cases (Int.tmod (IntKind.u8.wrap y.a0) 6) == 0 with
      | true => exact step _ draft_ok0
      | false =>
        cases (Int.tmod (IntKind.u8.wrap y.a0) 6) == 1 with
        | true => exact step _ (draft_ok1 hi (by omega))
        | false => exact step _ (draft_ok2 hi (by omega))
    · have : i = d.length := by omega
      subst this
      rw [dge (Nat.le_refl _), cond_false, List.length_map, app_n _ _ (by simp; omega)]
      exact ⟨_, rfl, by simp [ha], goodL_snoc hg draft_last⟩
theorem of_good {fuel : Nat} (d : List A_a4i8) (hf : 30 ≤ fuel) : ∃ l, F9 fuel d = some l ∧ good l = true ∧ l.length ≤ 30 := by
  unfold F9 good
  rw [List.length_map]
  by_cases h : d.length ≤ 29
  · rw [decide_eq_false (show ¬ ((d.length : Int) > 29) by omega), cond_false]
    obtain ⟨l, e, h1, h2⟩ := of_L3 h fuel 0 [] (by omega) (by omega) rfl rfl
    exact ⟨l, e, by rw [h1, h2, Bool.true_and, inB_iff]; omega, by omega⟩
  · rw [decide_eq_true (show (d.length : Int) > 29 by omega), cond_true]
    obtain ⟨l, e, h1, h2⟩ := of_L1 (d := d) (by omega) fuel 0 [] (by omega) (by omega) rfl rfl
    exact ⟨l, e, by rw [h1, h2]; rfl, by omega⟩

/-! ### Runs -/
def jmp (x : T_api_Instr) (row : List Int) : Bool :=
  bif x.Op == 1 then row.getD x.Var.toNat 0 == x.Val else bif x.Op == 2 then decide (row.getD x.Var.toNat 0 ≤ x.Val) else bif x.Op == 3 then decide (row.getD x.Var.toNat 0 ≥ x.Val) else true
def nxt (x : T_api_Instr) (i : Nat) (row : List Int) : Nat := bif jmp x row then x.Go.toNat else i + 1
inductive Trip (l : List T_api_Instr) (row : List Int) : Nat → Int → Nat → Prop
  | stop {i : Nat} {x : T_api_Instr} (h : l[i]? = some x) (h5 : x.Op = 5) : Trip l row i x.Val 1
  | step {i n : Nat} {c : Int} {x : T_api_Instr} (h : l[i]? = some x) (h5 : x.Op ≠ 5) (t : Trip l row (nxt x i row) c n) : Trip l row i c (n + 1)
theorem good_at {l : List T_api_Instr} (h : good l = true) {i : Nat} {x : T_api_Instr} (hx : l[i]? = some x) : okI l.length i x = true := by
  unfold good at h
  rw [Bool.and_eq_true] at h
  simpa using goodL_get h.1 i x hx
theorem good_len {l : List T_api_Instr} (h : good l = true) : 1 ≤ l.length ∧ l.length ≤ 40 := by
  unfold good at h
  rw [Bool.and_eq_true, inB_iff] at h
  omega
theorem nxt_lt {n i : Nat} {x : T_api_Instr} (h : okI n i x = true) (h5 : x.Op ≠ 5) (row : List Int) : i < nxt x i row ∧ nxt x i row < n := by
  unfold nxt
  rcases okI_dest h with ⟨_, h2, h3, _⟩ | ⟨_, h2, h3, _⟩ | ⟨h1, _⟩
  · cases jmp x row <;> simp only [cond_true, cond_false] <;> omega
  · cases jmp x row <;> simp only [cond_true, cond_false] <;> omega
  · exact absurd h1 h5
theorem trip_ex {l : List T_api_Instr} (hg : good l = true) (row : List Int) : ∀ (k i : Nat), l.length ≤ k + i → i < l.length → ∃ c n, Trip l row i c n ∧ 1 ≤ n ∧ n + i ≤ l.length
  | 0, i, h, h' => by omega
  | k + 1, i, h, h' => by
    have hx : l[i]? = some l[i] := List.getElem?_eq_getElem h'
    by_cases h5 : (l[i]).Op = 5
    · exact ⟨_, 1, .stop hx h5, by omega, by omega⟩
    · have hn := nxt_lt (good_at hg hx) h5 row
      obtain ⟨c, n, t, h1, h2⟩ := trip_ex hg row k (nxt l[i] i row) (by omega) hn.2
      exact ⟨c, n + 1, .step hx h5 t, by omega, by omega⟩
theorem row_get {row : List Int} {v : Int} (h0 : 0 ≤ v) (h : v < row.length) : geti row v = some (row.getD v.toNat 0) := by
  obtain ⟨k, rfl⟩ : ∃ k : Nat, v = k := ⟨v.toNat, by omega⟩
  rw [geti_k]
  have hk : k < row.length := by omega
  simp [List.getElem?_eq_getElem hk]
theorem step_eq {x : T_api_Instr} {n i : Nat} {row : List Int} (hx : okI n i x = true) (h5 : x.Op ≠ 5) (hr : x.Op ≤ 3 → x.Var < row.length) (hn : n < 1000) (hi : i < n) (s : Int) (t : Bool) (m : Int) {β : Type} (f : Int → Option β) (g : Bool × Int → Option β) (z : Option β) :
    (bif decide (x.Op = 1) then Option.bind (F65 x row i t m) f
      else bif decide (x.Op = 2) then Option.bind (F66 x row i t m) f
      else bif decide (x.Op = 3) then Option.bind (F67 x row i t m) f
      else bif decide (x.Op = 4) then Option.bind (F68 x row i t m) f
      else bif decide (x.Op = 5) then Option.bind (F69 x row i t m) g else z) = f (nxt x i row) := by
  have hgo : ∀ b : Bool, (Option.bind (F95 x b row i t m) fun y => some y) = some (((bif b then x.Go.toNat else i + 1 : Nat)) : Int) := fun b => by
    have hgo0 : x.Go ≥ 0 := by rcases okI_dest hx with ⟨_, h2, _⟩ | ⟨_, h2, _⟩ | ⟨h1, _⟩ <;> first | omega | exact absurd h1 h5
    unfold F95
    cases b with
    | true => simp only [cond_true, Option.bind_some]; rw [Int.toNat_of_nonneg hgo0]
    | false => simp only [cond_false, Option.bind_some]; rw [wi i (by omega)]
  rcases okI_dest hx with ⟨h1, h2, h3, hv, _⟩ | ⟨h1, h2, h3, _⟩ | ⟨h1, _⟩
  · have hg : geti row x.Var = some (row.getD x.Var.toNat 0) := row_get hv.1 (hr (by omega))
    rcases h1 with h1 | h1 | h1
    · simp only [h1, decide_true, cond_true, F65, hg, Option.bind_some, hgo, nxt, jmp]; rfl
    · simp only [h1, show decide ((2 : Int) = 1) = false from rfl, cond_false, decide_true, cond_true, F66, hg, Option.bind_some, hgo, nxt, jmp]; rfl
    · simp only [h1, show decide ((3 : Int) = 1) = false from rfl, show decide ((3 : Int) = 2) = false from rfl, cond_false, decide_true, cond_true, F67, hg, Option.bind_some, hgo, nxt, jmp]; rfl
  · simp only [h1, show decide ((4 : Int) = 1) = false from rfl, show decide ((4 : Int) = 2) = false from rfl, show decide ((4 : Int) = 3) = false from rfl, cond_false, decide_true, cond_true, F68, Option.bind_some, hgo, nxt, jmp]; rfl
  · exact absurd h1 h5
def fitsB (l : List T_api_Instr) (row : List Int) : Prop := ∀ x ∈ l, x.Op ≤ 3 → x.Var < row.length
theorem run_L {l : List T_api_Instr} {row : List Int} (hg : good l = true) (hr : fitsB l row) {i : Nat} {c : Int} {n : Nat} (t : Trip l row i c n) : ∀ (k : Nat) (s : Nat) (m : Int), n + 1 ≤ k → s + n < 1000000 → F11_L1 l row k s i false m = some (c, ((s + n : Nat) : Int), 0) := by
  induction t with
  | @stop i x h h5 =>
    intro k s m hk hs
    obtain ⟨k, rfl⟩ : ∃ j, k = j + 2 := ⟨k - 2, by omega⟩
    rw [F11_L1, show (!false) = true from rfl, cond_true, geti_k, h, Option.bind_some]
    simp only [h5, show decide ((5 : Int) = 1) = false from rfl, show decide ((5 : Int) = 2) = false from rfl, show decide ((5 : Int) = 3) = false from rfl, show decide ((5 : Int) = 4) = false from rfl, cond_false, decide_true, cond_true, F69, Option.bind_some]
    rw [F11_L1, show (!true) = false from rfl, cond_false, wi s (by omega)]
  | @step i n c x h h5 t ih =>
    intro k s m hk hs
    obtain ⟨k, rfl⟩ : ∃ j, k = j + 1 := ⟨k - 1, by omega⟩
    have hi : i < l.length := (List.getElem?_eq_some_iff.mp h).1
    have hlen := good_len hg
    rw [F11_L1, show (!false) = true from rfl, cond_true, geti_k, h, Option.bind_some]
    rw [step_eq (good_at hg h) h5 (hr x (List.mem_of_getElem? h)) (by omega) hi s false m, wi s (by omega), ih k (s + 1) m (by omega) (by omega), show s + 1 + n = s + (n + 1) by omega]
/-! ### Rows -/
def rowB (l : List Int) : Bool := inB 1 4 l.length && l.all (inB (-99) 99)
theorem r2_eq (x : Int) : F35 x = some (!inB (-99) 99 x) := by
  unfold F35
  rw [cin_eq]; rfl
theorem rowi_L {l : List Int} (hl : l.length < 1000000) : ∀ (k i : Nat), l.length + 1 ≤ k + i → i ≤ l.length → ∃ n : Int, F63_L1 l k i = some n ∧ decide (n ≥ 0) = !((l.drop i).all (inB (-99) 99))
  | 0, i, h, h' => by omega
  | k + 1, i, h, h' => by
    rw [F63_L1]
    by_cases hi : i < l.length
    · have hg : geti l (i : Int) = some l[i] := by rw [geti_k]; exact List.getElem?_eq_getElem hi
      have hd : l.drop i = l[i] :: l.drop (i + 1) := List.drop_eq_getElem_cons hi
      rw [dlt hi, cond_true, hg, Option.bind_some, r2_eq, Option.bind_some, wi i (by omega), hd, List.all_cons]
      cases inB (-99) 99 l[i]
      · exact ⟨i, rfl, by simp⟩
      · simpa using rowi_L hl k (i + 1) (by omega) (by omega)
    · have : i = l.length := by omega
      subst this
      rw [dge (Nat.le_refl _), cond_false, List.drop_length]
      exact ⟨-1, rfl, by simp⟩
theorem rowc_eq {fuel : Nat} {l : List Int} (hl : l.length < 1000000) (hf : l.length + 1 ≤ fuel) : F34 fuel l = some (!l.all (inB (-99) 99)) := by
  obtain ⟨n, e, h⟩ := rowi_L hl fuel 0 (by omega) (by omega)
  unfold F34 F63
  rw [show (F63_L1 l fuel 0) = some n from e, Option.bind_some, h]
  simp
def fitB (l : List T_api_Instr) (row : List Int) : Bool := l.all fun x => !(decide (x.Op ≤ 3) && decide (x.Var ≥ row.length))
theorem fitB_fits {l : List T_api_Instr} {row : List Int} (h : fitB l row = true) : fitsB l row := fun x hx h3 => by
  have := List.all_eq_true.mp h x hx
  simp [h3] at this
  exact this
theorem r1_eq (x : T_api_Instr) (row : List Int) : F32 x row = some (decide (x.Op ≤ 3) && decide (x.Var ≥ row.length)) := by
  unfold F32
  rw [List.length_map]
  cases decide (x.Op ≤ 3) <;> rfl
theorem fiti_L {l : List T_api_Instr} {row : List Int} (hl : l.length < 1000000) : ∀ (k i : Nat), l.length + 1 ≤ k + i → i ≤ l.length → ∃ n : Int, F64_L1 l row k i = some n ∧ decide (n ≥ 0) = !(fitB (l.drop i) row)
  | 0, i, h, h' => by omega
  | k + 1, i, h, h' => by
    rw [F64_L1]
    by_cases hi : i < l.length
    · have hg : geti l (i : Int) = some l[i] := by rw [geti_k]; exact List.getElem?_eq_getElem hi
      have hd : l.drop i = l[i] :: l.drop (i + 1) := List.drop_eq_getElem_cons hi
      rw [dlt hi, cond_true, hg, Option.bind_some, r1_eq, Option.bind_some, wi i (by omega), hd, fitB, List.all_cons]
      cases (decide ((l[i]).Op ≤ 3) && decide ((l[i]).Var ≥ row.length))
      · simpa [fitB] using fiti_L hl k (i + 1) (by omega) (by omega)
      · exact ⟨i, rfl, by simp⟩
    · have : i = l.length := by omega
      subst this
      rw [dge (Nat.le_refl _), cond_false, List.drop_length]
      exact ⟨-1, rfl, by simp [fitB]⟩
theorem fitc_eq {fuel : Nat} {l : List T_api_Instr} {row : List Int} (hl : l.length < 1000000) (hf : l.length + 1 ≤ fuel) : F36 fuel l row = some (!fitB l row) := by
  obtain ⟨n, e, h⟩ := fiti_L (row := row) hl fuel 0 (by omega) (by omega)
  unfold F36 F64
  rw [show (F64_L1 l row fuel 0) = some n from e, Option.bind_some, h]
  simp
theorem run_head {fuel : Nat} {l : List T_api_Instr} {row : List Int} (hg : good l = true) (hf : 50 ≤ fuel) (hr : row.length + 1 ≤ fuel) (hr' : row.length < 1000000) :
    F11 fuel l row = if (rowB row && fitB l row) = true then F11_L1 l row fuel 0 0 false 0 else some (0, 0, 2) := by
  have hl := good_len hg
  unfold F11 F37 rowB
  rw [valid_eq (by omega) (by omega), hg, Option.bind_some, show (!true) = false from rfl, cond_false, List.length_map, cin_eq, rowc_eq hr' hr, fitc_eq (by omega) (by omega)]
  cases inB 1 4 row.length <;> cases (row.all (inB (-99) 99)) <;> cases fitB l row <;> rfl
theorem run_ok {fuel : Nat} {l : List T_api_Instr} {row : List Int} {c : Int} {n : Nat} (hg : good l = true) (h : (rowB row && fitB l row) = true) (t : Trip l row 0 c n) (hn : n ≤ l.length) (hf : 50 ≤ fuel) : F11 fuel l row = some (c, (n : Int), 0) := by
  have hl := good_len hg
  have h2 := h
  rw [Bool.and_eq_true] at h2
  have hr : row.length ≤ 4 := by
    have := h2.1
    unfold rowB at this
    rw [Bool.and_eq_true, inB_iff] at this
    omega
  rw [run_head hg hf (by omega) (by omega), if_pos h]
  have := run_L hg (fitB_fits h2.2) t fuel 0 0 (by omega) (by omega)
  simpa using this
/-! ### CodeWay -/
theorem trip_pos {l : List T_api_Instr} {row : List Int} {i : Nat} {c : Int} {n : Nat} (t : Trip l row i c n) : 1 ≤ n := by cases t <;> omega
/-- The row of the laws. -/
def row4 (d : A_a4i8) : List Int := [Int.tmod (IntKind.i64.wrap d.a0) 100, Int.tmod (IntKind.i64.wrap d.a1) 100, Int.tmod (IntKind.i64.wrap d.a2) 100, Int.tmod (IntKind.i64.wrap d.a3) 100]
theorem row4_ok (d : A_a4i8) : rowB (row4 d) = true := by
  have h : ∀ x : Int, inB (-99) 99 (Int.tmod x 100) = true := fun x => inB_iff.mpr (tm_lt x)
  simp only [rowB, row4, List.all_cons, List.all_nil, h, List.length_cons, List.length_nil]; rfl
theorem fit4 {l : List T_api_Instr} (hg : good l = true) {row : List Int} (hr : row.length = 4) : fitB l row = true := by
  refine List.all_eq_true.mpr fun x hx => ?_
  obtain ⟨i, hi⟩ := List.getElem?_of_mem hx
  rcases okI_dest (good_at hg hi) with ⟨_, _, _, h, _⟩ | ⟨h, _⟩ | ⟨h, _⟩
  · rw [decide_eq_false (show ¬ x.Var ≥ (row.length : Int) by omega)]; simp
  · simp [h]
  · simp [h]
end Go.Proofs.YtilfjfpemjfalaaGreatDoor
