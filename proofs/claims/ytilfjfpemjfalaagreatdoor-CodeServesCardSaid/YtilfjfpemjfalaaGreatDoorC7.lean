/- Plain law of chapter 31: CodeServes. -/
import Derived.Test.YtilfjfpemjfalaaGreatDoorC2
import Derived.Test.YtilfjfpemjfalaaGreatDoorC5
import Derived.Test.YtilfjfpemjfalaaGreatDoorFSe
namespace Go.Proofs.YtilfjfpemjfalaaGreatDoor
open Go Go.RowKit Kx
set_option maxRecDepth 100000

/-! ### The wished rules are valid -/
theorem wish2 {w : T_croupierref30_Wish} (hE : 0 ≤ w.Else) {d : Nat} (h1 : 1 ≤ d) (h4 : d ≤ 4) : ∀ (k i : Nat) (acc : List T_api_Rule), 13 ≤ k + i → i ≤ 12 → acc.length ≤ i → (∀ r ∈ acc, ruleB r = true ∧ r.Var < d) → ∃ y, F24_L1 w d k i acc = some y ∧ vR y = true ∧ (∀ r ∈ y.List, r.Var < d)
  | 0, i, acc, h, h', _, _ => by omega
  | k + 1, i, acc, h, h', ha, hr => by
    have fin : ∃ y, (some (⟨acc, IntKind.i64.wrap (Int.tmod w.Else 4)⟩ : T_api_Rules)) = some y ∧ vR y = true ∧ (∀ r ∈ y.List, r.Var < d) := by
      refine ⟨_, rfl, ?_, fun r hr' => (hr r hr').2⟩
      have ht := tm_nn (x := w.Else) hE (m := 4) (by omega)
      unfold vR
      rw [Bool.and_eq_true, Bool.and_eq_true, decide_eq_true_eq, inB_iff, List.all_eq_true]
      refine ⟨⟨by dsimp only; omega, ?_⟩, fun r hr' => (hr r hr').1⟩
      dsimp only
      rw [w64 (by omega) (by omega)]; omega
    rw [F24_L1]
    by_cases hi : i < w.L.length
    · rw [dlt hi, cond_true, Option.bind_some]
      by_cases hi2 : i < 12
      · have hg : geti w.L (i : Int) = some w.L[i] := by rw [geti_k]; exact List.getElem?_eq_getElem hi
        rw [show decide ((i : Int) < 12) = true from decide_eq_true (by omega), cond_true, hg, Option.bind_some, ass_t (decide_eq_true (by omega)), app_n _ _ (by simp; omega), Option.bind_some, wi i (by omega)]
        refine wish2 hE h1 h4 k (i + 1) _ (by omega) (by omega) (by simp; omega) (fun r hr' => ?_)
        rw [List.mem_append, List.mem_singleton] at hr'
        rcases hr' with hr' | rfl
        · exact hr r hr'
        · generalize w.L[i] = y
          have b0 := wu8 y.a0
          have b1 := wu8 y.a1
          have b3 := wu8 y.a3
          have t0 := tm_nn (x := IntKind.u8.wrap y.a0) b0.1 (m := (d : Int)) (by omega)
          have t1 := tm_nn (x := IntKind.u8.wrap y.a1) b1.1 (m := 3) (by omega)
          have t3 := tm_nn (x := IntKind.u8.wrap y.a3) b3.1 (m := 4) (by omega)
          rw [w64 (i := IntKind.u8.wrap y.a0) (by omega) (by omega), w64 (i := Int.tmod (IntKind.u8.wrap y.a1) 3) (by omega) (by omega), w64 (i := 1 + _) (by omega) (by omega), w64 (i := Int.tmod (IntKind.u8.wrap y.a3) 4) (by omega) (by omega)]
          refine ⟨?_, t0.2⟩
          unfold ruleB
          simp only [Bool.and_eq_true, inB_iff]
          have t2 := tm_lt (IntKind.i64.wrap y.a2)
          refine ⟨⟨⟨⟨t0.1, ?_⟩, ?_⟩, t2⟩, ?_⟩
          · have := t0.2; omega
          · omega
          · omega
      · rw [show decide ((i : Int) < 12) = false from decide_eq_false (by omega), cond_false]
        exact fin
    · rw [dge (by omega), cond_false, Option.bind_some, cond_false]
      exact fin
/-! ### The code of a list: good, reached, its trips -/
theorem comp_get : ∀ (l : List T_api_Rule) (b k : Nat) (r : T_api_Rule) (z : List T_api_Instr), l[k]? = some r → (comp b l ++ z)[3 * k]? = some (⟨r.Test, r.Var, r.Val, ((3 * (b + k) + 2 : Nat) : Int)⟩ : T_api_Instr) ∧ (comp b l ++ z)[3 * k + 1]? = some (⟨4, 0, 0, ((3 * (b + k) + 3 : Nat) : Int)⟩ : T_api_Instr) ∧ (comp b l ++ z)[3 * k + 2]? = some (act r.Then)
  | [], b, k, r, z, h => by simp at h
  | y :: l, b, 0, r, z, h => by
    simp only [List.getElem?_cons_zero, Option.some.injEq] at h
    subst h
    simp [comp]
  | y :: l, b, k + 1, r, z, h => by
    have ih := comp_get l (b + 1) k r z (by simpa using h)
    rw [show b + 1 + k = b + (k + 1) by omega] at ih
    simp only [comp, List.cons_append]
    rw [show 3 * (k + 1) = (3 * k) + 1 + 1 + 1 by omega, show 3 * k + 1 + 1 + 1 + 1 = (3 * k + 1) + 1 + 1 + 1 by omega, show 3 * k + 1 + 1 + 1 + 2 = (3 * k + 2) + 1 + 1 + 1 by omega]
    simp only [List.getElem?_cons_succ]
    exact ih
theorem cd_get {l : T_api_Rules} {k : Nat} {r : T_api_Rule} (h : l.List[k]? = some r) : (cd l)[3 * k]? = some (⟨r.Test, r.Var, r.Val, ((3 * k + 2 : Nat) : Int)⟩ : T_api_Instr) ∧ (cd l)[3 * k + 1]? = some (⟨4, 0, 0, ((3 * k + 3 : Nat) : Int)⟩ : T_api_Instr) ∧ (cd l)[3 * k + 2]? = some (act r.Then) := by
  have := comp_get l.List 0 k r [act l.Else] h
  rwa [Nat.zero_add] at this
theorem cd_last (l : T_api_Rules) : (cd l)[3 * l.List.length]? = some (act l.Else) := by
  unfold cd
  rw [List.getElem?_append_right (by rw [comp_len]; omega), comp_len, Nat.sub_self]; rfl
theorem rule_ok {l : T_api_Rules} (hv : vR l = true) {k : Nat} {r : T_api_Rule} (h : l.List[k]? = some r) : (0 ≤ r.Var ∧ r.Var ≤ 3) ∧ (1 ≤ r.Test ∧ r.Test ≤ 3) ∧ (-99 ≤ r.Val ∧ r.Val ≤ 99) ∧ (0 ≤ r.Then ∧ r.Then ≤ 3) := by
  simp only [vR, Bool.and_eq_true, List.all_eq_true] at hv
  have := hv.2 r (List.mem_of_getElem? h)
  simp only [ruleB, Bool.and_eq_true, inB_iff] at this
  exact ⟨this.1.1.1, this.1.1.2, this.1.2, this.2⟩
theorem vR_len {l : T_api_Rules} (hv : vR l = true) : l.List.length ≤ 12 ∧ 0 ≤ l.Else ∧ l.Else ≤ 3 := by
  simp only [vR, Bool.and_eq_true, decide_eq_true_eq, inB_iff] at hv
  exact ⟨hv.1.1, hv.1.2⟩
theorem cd_good {l : T_api_Rules} (hv : vR l = true) : good (cd l) = true := by
  have hl := vR_len hv
  unfold good
  rw [Bool.and_eq_true, inB_iff, cd_len]
  refine ⟨goodL_of fun j x hx => ?_, by omega, by omega⟩
  have hj : j < 3 * l.List.length + 1 := by rw [← cd_len]; exact (List.getElem?_eq_some_iff.mp hx).1
  rw [Nat.zero_add]
  by_cases hlast : j = 3 * l.List.length
  · rw [hlast, cd_last] at hx
    obtain rfl := Option.some.inj hx
    exact okI_mk (.inr (.inr ⟨rfl, hl.2, rfl, rfl⟩))
  · have hk : j / 3 < l.List.length := by omega
    have hg := List.getElem?_eq_getElem hk
    have hr := rule_ok hv hg
    have hc := cd_get hg
    rcases (by omega : j = 3 * (j / 3) ∨ j = 3 * (j / 3) + 1 ∨ j = 3 * (j / 3) + 2) with e | e | e
    · rw [e, hc.1] at hx
      obtain rfl := Option.some.inj hx
      exact okI_mk (.inl ⟨by dsimp only; omega, by dsimp only; omega, by dsimp only; omega, hr.1, hr.2.2.1⟩)
    · rw [e, hc.2.1] at hx
      obtain rfl := Option.some.inj hx
      exact okI_mk (.inr (.inl ⟨rfl, by dsimp only; omega, by dsimp only; omega, rfl, rfl⟩))
    · rw [e, hc.2.2] at hx
      obtain rfl := Option.some.inj hx
      exact okI_mk (.inr (.inr ⟨rfl, hr.2.2.2, rfl, rfl⟩))
theorem cd_on {l : T_api_Rules} (hv : vR l = true) : ∀ k, k ≤ l.List.length → onF (cd l) (3 * k) = true
  | 0, _ => on_zero (cd_good hv)
  | k + 1, h => by
    have hg := List.getElem?_eq_getElem (show k < l.List.length by omega)
    have hr := rule_ok hv hg
    have hc := cd_get hg
    have h1 := on_clo (cd_good hv) hc.1 (cd_on hv k (by omega)) (leads_next (by dsimp only; omega) (by dsimp only; omega))
    have h2 := on_clo (cd_good hv) hc.2.1 h1 (leads_go (by dsimp only; omega))
    rwa [Int.toNat_natCast] at h2
theorem cd_all {l : T_api_Rules} (hv : vR l = true) {j : Nat} (hj : j < (cd l).length) : onF (cd l) j = true := by
  rw [cd_len] at hj
  by_cases hlast : j = 3 * l.List.length
  · rw [hlast]; exact cd_on hv _ (Nat.le_refl _)
  · have hk : j / 3 < l.List.length := by omega
    have hg := List.getElem?_eq_getElem hk
    have hr := rule_ok hv hg
    have hc := cd_get hg
    have h0 := cd_on hv (j / 3) (by omega)
    rcases (by omega : j = 3 * (j / 3) ∨ j = 3 * (j / 3) + 1 ∨ j = 3 * (j / 3) + 2) with e | e | e
    · rw [e]; exact h0
    · rw [e]; exact on_clo (cd_good hv) hc.1 h0 (leads_next (by dsimp only; omega) (by dsimp only; omega))
    · rw [e]
      have h2 := on_clo (cd_good hv) hc.1 h0 (leads_go (by dsimp only; omega))
      rwa [Int.toNat_natCast] at h2
theorem trim_self {d : List T_api_Instr} (hg : good d = true) (hall : ∀ k, k < d.length → onF d k = true) : trimS d = d := by
  unfold trimS
  refine tl_all _ 0 (fun k hk => by rw [Nat.zero_add]; exact hall k hk) (fun x hx => ?_)
  obtain ⟨k, hk⟩ := List.getElem?_of_mem hx
  by_cases h5 : x.Op = 5
  · unfold tr; rw [h5]; rfl
  · have hok := good_at hg hk
    have hgo : 0 ≤ x.Go ∧ x.Go < d.length := by
      rcases okI_dest hok with ⟨_, h2, h3, _⟩ | ⟨_, h2, h3, _⟩ | ⟨h1, _⟩
      · omega
      · omega
      · exact absurd h1 h5
    have e : (pl (onF d) x.Go.toNat : Nat) = x.Go.toNat := pl_all fun i hi => hall i (by omega)
    unfold tr
    rw [show (x.Op != 5) = true by simp [h5], cond_true]
    show (⟨x.Op, x.Var, x.Val, ((pl (onF d) x.Go.toNat : Nat) : Int)⟩ : T_api_Instr) = x
    rw [e, Int.toNat_of_nonneg hgo.1]
def pass (r : T_api_Rule) (row : List Int) : Bool := jmp ⟨r.Test, r.Var, r.Val, 0⟩ row
def chs (row : List Int) (els : Int) : List T_api_Rule → Int
  | [] => els
  | r :: l => bif pass r row then r.Then else chs row els l
theorem cd_trip {l : T_api_Rules} (hv : vR l = true) (row : List Int) : ∀ (k i : Nat), i + k = l.List.length → ∃ m, Trip (cd l) row (3 * i) (chs row l.Else (l.List.drop i)) m ∧ m ≤ 2 * k + 1
  | 0, i, h => by
    obtain rfl : i = l.List.length := (by omega)
    rw [List.drop_length]
    exact ⟨1, .stop (cd_last l) rfl, by omega⟩
  | k + 1, i, h => by
    have hg := List.getElem?_eq_getElem (show i < l.List.length by omega)
    have hd : l.List.drop i = l.List[i] :: l.List.drop (i + 1) := List.drop_eq_getElem_cons (by omega)
    have hr := rule_ok hv hg
    have hc := cd_get hg
    rw [hd, chs]
    cases hp : pass l.List[i] row with
    | true =>
      refine ⟨2, .step hc.1 (by dsimp only; omega) ?_, by omega⟩
      unfold nxt
      rw [show jmp (⟨(l.List[i]).Test, (l.List[i]).Var, (l.List[i]).Val, ((3 * i + 2 : Nat) : Int)⟩ : T_api_Instr) row = true from hp, cond_true, cond_true]
      dsimp only
      rw [Int.toNat_natCast]
      exact .stop hc.2.2 rfl
    | false =>
      obtain ⟨m, t, hm⟩ := cd_trip hv row k (i + 1) (by omega)
      refine ⟨m + 1 + 1, .step hc.1 (by dsimp only; omega) ?_, by omega⟩
      unfold nxt
      rw [show jmp (⟨(l.List[i]).Test, (l.List[i]).Var, (l.List[i]).Val, ((3 * i + 2 : Nat) : Int)⟩ : T_api_Instr) row = false from hp, cond_false, cond_false]
      refine .step hc.2.1 (by dsimp only; omega) ?_
      unfold nxt
      rw [show jmp (⟨4, 0, 0, ((3 * i + 3 : Nat) : Int)⟩ : T_api_Instr) row = true from rfl, cond_true]
      dsimp only
      rw [Int.toNat_natCast]
      exact t
/-! ### Apply -/
theorem rr_eq (x : Int) : F88 x = some (!inB (-99) 99 x) := by
  unfold F88
  rw [rin_eq]; rfl
theorem rri_L {l : List Int} (hl : l.length < 1000000) : ∀ (k i : Nat), l.length + 1 ≤ k + i → i ≤ l.length → ∃ n : Int, F63a_L1 l k i = some n ∧ decide (n ≥ 0) = !((l.drop i).all (inB (-99) 99))
  | 0, i, h, h' => by omega
  | k + 1, i, h, h' => by
    rw [F63a_L1]
    by_cases hi : i < l.length
    · have hg : geti l (i : Int) = some l[i] := by rw [geti_k]; exact List.getElem?_eq_getElem hi
      have hd : l.drop i = l[i] :: l.drop (i + 1) := List.drop_eq_getElem_cons hi
      rw [dlt hi, cond_true, hg, Option.bind_some, rr_eq, Option.bind_some, wi i (by omega), hd, List.all_cons]
      cases inB (-99) 99 l[i]
      · exact ⟨i, rfl, by simp⟩
      · simpa using rri_L hl k (i + 1) (by omega) (by omega)
    · have : i = l.length := by omega
      subst this
      rw [dge (Nat.le_refl _), cond_false, List.drop_length]
      exact ⟨-1, rfl, by simp⟩
theorem rrow_eq {fuel : Nat} {l : List Int} (hl : l.length < 1000000) (hf : l.length + 1 ≤ fuel) : F56 fuel l = some (rowB l) := by
  obtain ⟨n, e, h⟩ := rri_L hl fuel 0 (by omega) (by omega)
  unfold F56 F34a F63a rowB
  rw [rin_eq, Option.bind_some, List.length_map, show (F63a_L1 l fuel 0) = some n from e, Option.bind_some, h, List.drop_zero]
  cases inB 1 4 l.length <;> cases l.all (inB (-99) 99) <;> rfl
theorem rfit_L {l : List T_api_Rule} {n : Int} (hl : l.length < 1000000) (hall : ∀ r ∈ l, r.Var < n) : ∀ (k i : Nat), l.length + 1 ≤ k + i → i ≤ l.length → F103a_L1 l n k i = some (-1)
  | 0, i, h, h' => by omega
  | k + 1, i, h, h' => by
    rw [F103a_L1]
    by_cases hi : i < l.length
    · have hg : geti l (i : Int) = some l[i] := by rw [geti_k]; exact List.getElem?_eq_getElem hi
      have hv := hall l[i] (List.getElem_mem hi)
      unfold F89
      rw [dlt hi, cond_true, hg, Option.bind_some, Option.bind_some, decide_eq_false (show ¬ (l[i]).Var ≥ n by omega), cond_false, wi i (by omega)]
      exact rfit_L hl hall k (i + 1) (by omega) (by omega)
    · rw [dge (by omega), cond_false]
theorem rfits_eq {fuel : Nat} {l : T_api_Rules} {n : Int} (hl : l.List.length < 1000000) (hf : l.List.length + 1 ≤ fuel) (hall : ∀ r ∈ l.List, r.Var < n) : F57 fuel l n = some true := by
  unfold F57 F86a F103a
  rw [show (F103a_L1 l.List n fuel 0) = some (-1) from rfit_L hl hall fuel 0 (by omega) (by omega)]; rfl
theorem pass_eq {r : T_api_Rule} {row : List Int} (h0 : 0 ≤ r.Var) (h1 : r.Var < row.length) (ht : 1 ≤ r.Test ∧ r.Test ≤ 3) : F90 r row = some (pass r row) := by
  unfold F90 F104 pass jmp F119 F120 F121
  rw [row_get h0 h1]
  rcases (by omega : r.Test = 1 ∨ r.Test = 2 ∨ r.Test = 3) with e | e | e <;> (rw [e]; rfl)
theorem choice_L {l : T_api_Rules} {row : List Int} (hl : l.List.length < 1000000) (hall : ∀ r ∈ l.List, (0 ≤ r.Var ∧ r.Var < row.length) ∧ (1 ≤ r.Test ∧ r.Test ≤ 3)) : ∀ (k i : Nat), l.List.length + 1 ≤ k + i → i ≤ l.List.length → F58_L1 l row k i = some (chs row l.Else (l.List.drop i))
  | 0, i, h, h' => by omega
  | k + 1, i, h, h' => by
    rw [F58_L1]
    by_cases hi : i < l.List.length
    · have hg : geti l.List (i : Int) = some l.List[i] := by rw [geti_k]; exact List.getElem?_eq_getElem hi
      have hd : l.List.drop i = l.List[i] :: l.List.drop (i + 1) := List.drop_eq_getElem_cons hi
      have hv := hall l.List[i] (List.getElem_mem hi)
      rw [dlt hi, cond_true, hg, Option.bind_some, pass_eq hv.1.1 hv.1.2 hv.2, Option.bind_some, hd, chs, wi i (by omega), choice_L hl hall k (i + 1) (by omega) (by omega)]
      cases pass l.List[i] row <;> rfl
    · have : i = l.List.length := by omega
      subst this
      rw [dge (Nat.le_refl _), cond_false, List.drop_length]; rfl
/-! ### CodeServes -/
theorem serves_end {y : T_api_Rules} {row : List Int} {n : Nat} (hv : vR y = true) (hvar : ∀ r ∈ y.List, r.Var < n) (hrow : rowB row = true) (hlen : row.length = n) (h4 : n ≤ 4) : ∃ m : Nat, F25 100 y = some (cd y, 0) ∧ F26 100 y row = some (chs row y.Else y.List, 0) ∧ F11 100 (cd y) row = some (chs row y.Else y.List, (m : Int), 0) ∧ F20 100 (cd y) = some (cd y, 0) ∧ 1 ≤ m ∧ m ≤ 2 * y.List.length + 1 := by
  have hl := vR_len hv
  have hg := cd_good hv
  have hgl := good_len hg
  obtain ⟨m, t, hm⟩ := cd_trip hv row y.List.length 0 (by omega)
  rw [Nat.mul_zero, List.drop_zero] at t
  have hmp := trip_pos t
  have hml := trip_len hg t
  have hfit : fitB (cd y) row = true := by
    refine List.all_eq_true.mpr fun x hx => ?_
    obtain ⟨j, hj⟩ := List.getElem?_of_mem hx
    have hjl : j < 3 * y.List.length + 1 := by rw [← cd_len]; exact (List.getElem?_eq_some_iff.mp hj).1
    by_cases h3 : x.Op ≤ 3
    · have hvx : x.Var < row.length := by
        by_cases hlast : j = 3 * y.List.length
        · rw [hlast, cd_last] at hj
          obtain rfl := Option.some.inj hj
          exact absurd h3 (by unfold act; dsimp only; omega)
        · have hk : j / 3 < y.List.length := by omega
          have hgk := List.getElem?_eq_getElem hk
          have hc := cd_get hgk
          rcases (by omega : j = 3 * (j / 3) ∨ j = 3 * (j / 3) + 1 ∨ j = 3 * (j / 3) + 2) with e | e | e
          · rw [e, hc.1] at hj
            obtain rfl := Option.some.inj hj
            have := hvar _ (List.getElem_mem hk)
            rw [hlen]; exact this
          · rw [e, hc.2.1] at hj
            obtain rfl := Option.some.inj hj
            exact absurd h3 (by dsimp only; omega)
          · rw [e, hc.2.2] at hj
            obtain rfl := Option.some.inj hj
            exact absurd h3 (by unfold act; dsimp only; omega)
      rw [decide_eq_false (show ¬ x.Var ≥ (row.length : Int) by omega), Bool.and_false]; rfl
    · rw [decide_eq_false h3]; rfl
  refine ⟨m, ?_, ?_, run_ok hg (by rw [hrow, hfit]; rfl) t (by omega) (by omega), ?_, hmp, hm⟩
  · rw [compile_eq (by omega), if_pos hv]
  · unfold F26 F58
    have hch := choice_L (l := y) (row := row) (by omega) (fun r hr => by
      obtain ⟨k, hk⟩ := List.getElem?_of_mem hr
      have := rule_ok hv hk
      have h2 := hvar r hr
      exact ⟨⟨this.1.1, by omega⟩, this.2.1⟩) 100 0 (by omega) (by omega)
    rw [rval_eq (by omega), hv, Option.bind_some, rrow_eq (by omega) (by omega), hrow, List.length_map, rfits_eq (n := (row.length : Int)) (by omega) (by omega) (fun r hr => by rw [hlen]; exact hvar r hr)]
    simp only [Option.bind_some, Bool.not_true, cond_false]
    rw [show (F58_L1 y row 100 0) = _ from hch, List.drop_zero]; rfl
  · rw [trim_eq hg (by omega), trim_self hg (fun k hk => cd_all hv hk)]
theorem serves_L {w : T_croupierref30_Wish} (hE : 0 ≤ w.Else) {d1 : Int} {d2 : A_a4i8} {n : Nat} (hn : IntKind.i64.wrap (1 + (IntKind.i64.wrap (Int.tmod d1 4))) = (n : Int)) (h1 : 1 ≤ n) (h4 : n ≤ 4) : ∀ (k i : Nat) (acc : List Int), 5 ≤ k + i → i ≤ n → acc.length = i → acc.all (inB (-99) 99) = true → F6_L1 100 w d1 d2 k i acc = some true
  | 0, i, acc, h, h', _, _ => by omega
  | k + 1, i, acc, h, h', ha, hr => by
    rw [F6_L1, hn]
    by_cases hi : i < n
    · rw [show decide ((i : Int) < (n : Int)) = true from decide_eq_true (by omega), cond_true, geti_k]
      obtain ⟨z, hz⟩ : ∃ z, [d2.a0, d2.a1, d2.a2, d2.a3][i]? = some z := ⟨_, List.getElem?_eq_getElem (by simp; omega)⟩
      rw [hz, Option.bind_some, app_n _ _ (by simp; omega), Option.bind_some, wi i (by omega)]
      exact serves_L hE hn h1 h4 k (i + 1) _ (by omega) (by omega) (by simp [ha]) (by rw [List.all_append, hr]; simp [inB_iff.mpr (tm_lt _)])
    · rw [show decide ((i : Int) < (n : Int)) = false from decide_eq_false (by omega), cond_false]
      obtain ⟨y, hy, hv, hvar⟩ := wish2 hE h1 h4 100 0 [] (by omega) (by omega) (by simp) (fun r hr => by cases hr)
      have hin : i = n := by omega
      obtain ⟨m, e1, e2, e3, e4, h5, h6⟩ := serves_end (row := acc) hv hvar (by unfold rowB; rw [hr, ha, hin, inB_iff.mpr (show 1 ≤ (n : Int) ∧ (n : Int) ≤ 4 by omega)]; rfl) (by omega) h4
      have hl := vR_len hv
      have hcl := cd_len y
      unfold F24 F22
      rw [show (F24_L1 w (n : Int) 100 0 []) = some y from hy]
      simp only [Option.bind_some, e1, e2, e3, e4, List.length_map]
      rw [valid_eq (by omega) (by omega), cd_good hv, same_refl (by omega) (by omega), hcl, w64 (i := 2 * (y.List.length : Int)) (by omega) (by omega), w64 (i := 3 * (y.List.length : Int)) (by omega) (by omega), w64 (by omega) (by omega), w64 (by omega) (by omega)]
      rw [decide_eq_false (show ¬ (m : Int) < 1 by omega), decide_eq_false (show ¬ (m : Int) > 2 * (y.List.length : Int) + 1 by omega)]
      simp
theorem row_n' (d : Int) (h : 0 ≤ d) : ∃ n : Nat, IntKind.i64.wrap (1 + (IntKind.i64.wrap (Int.tmod d 4))) = (n : Int) ∧ 1 ≤ n ∧ n ≤ 4 := by
  have h1 := tm_nn (x := d) h (m := 4) (by omega)
  rw [w64 (i := Int.tmod d 4) (by omega) (by omega), w64 (by omega) (by omega)]
  exact ⟨(1 + Int.tmod d 4).toNat, by omega, by omega, by omega⟩
theorem law31Serves (w : T_croupierref30_Wish) (hE : 0 ≤ w.Else) (d1 : Int) (h1 : 0 ≤ d1) (d2 : A_a4i8) : F6 100 w d1 d2 = some true := by
  unfold F6
  obtain ⟨n, hn, h1, h4⟩ := row_n' d1 h1
  rw [wakes_true, Option.bind_some, show (!true) = false from rfl, cond_false]
  exact serves_L hE hn h1 h4 100 0 [] (by omega) (by omega) rfl rfl
end Go.Proofs.YtilfjfpemjfalaaGreatDoor
