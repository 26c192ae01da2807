/- Plain law of chapter 31: Trim. -/
import Derived.Test.YtilfjfpemjfalaaGreatDoorC4
namespace Go.Proofs.YtilfjfpemjfalaaGreatDoor
open Go Go.RowKit Kx
set_option maxRecDepth 100000

/-- How many of the first are on. -/
def pl (R : Nat → Bool) : Nat → Nat
  | 0 => 0
  | i + 1 => pl R i + if R i = true then 1 else 0
theorem pl_le {R : Nat → Bool} : ∀ {i j : Nat}, i ≤ j → pl R i ≤ pl R j
  | i, 0, h => by
    obtain rfl : i = 0 := (by omega)
    exact Nat.le_refl _
  | i, j + 1, h => by
    by_cases e : i = j + 1
    · subst e; exact Nat.le_refl _
    · have := pl_le (R := R) (show i ≤ j by omega)
      rw [pl]; omega
theorem pl_self {R : Nat → Bool} : ∀ i : Nat, pl R i ≤ i
  | 0 => Nat.le_refl _
  | i + 1 => by have := pl_self (R := R) i; rw [pl]; split <;> omega
theorem pl_on {R : Nat → Bool} {i : Nat} (h : R i = true) : pl R (i + 1) = pl R i + 1 := by rw [pl, if_pos h]
theorem pl_off {R : Nat → Bool} {i : Nat} (h : R i = false) : pl R (i + 1) = pl R i := by rw [pl, if_neg (by simp [h])]; omega
theorem pl_lt {R : Nat → Bool} {i j : Nat} (h : R i = true) (hij : i < j) : pl R i < pl R j := by
  have := pl_le (R := R) (show i + 1 ≤ j by omega)
  rw [pl_on h] at this; omega
theorem pl_sur {R : Nat → Bool} : ∀ {n k : Nat}, k < pl R n → ∃ i, i < n ∧ R i = true ∧ pl R i = k
  | 0, k, h => by simp [pl] at h
  | n + 1, k, h => by
    by_cases hk : k < pl R n
    · obtain ⟨i, h1, h2⟩ := pl_sur hk
      exact ⟨i, by omega, h2⟩
    · cases hr : R n with
      | true => rw [pl_on hr] at h; exact ⟨n, by omega, hr, by omega⟩
      | false => rw [pl_off hr] at h; omega
theorem pl_all {R : Nat → Bool} : ∀ {n : Nat}, (∀ i, i < n → R i = true) → pl R n = n
  | 0, _ => rfl
  | n + 1, h => by rw [pl_on (h n (by omega)), pl_all (fun i hi => h i (by omega))]
/-- An instruction with its Go moved. -/
def tr (R : Nat → Bool) (x : T_api_Instr) : T_api_Instr := bif x.Op != 5 then ⟨x.Op, x.Var, x.Val, (pl R x.Go.toNat : Nat)⟩ else x
theorem tr_op (R : Nat → Bool) (x : T_api_Instr) : (tr R x).Op = x.Op := by unfold tr; cases x.Op != 5 <;> rfl
theorem tr_var (R : Nat → Bool) (x : T_api_Instr) : (tr R x).Var = x.Var := by unfold tr; cases x.Op != 5 <;> rfl
theorem tr_val (R : Nat → Bool) (x : T_api_Instr) : (tr R x).Val = x.Val := by unfold tr; cases x.Op != 5 <;> rfl
theorem tr_go {R : Nat → Bool} {x : T_api_Instr} (h : x.Op ≠ 5) : (tr R x).Go = (pl R x.Go.toNat : Nat) := by
  unfold tr
  rw [show (x.Op != 5) = true by simp [h]]; rfl
def tl (R : Nat → Bool) : List T_api_Instr → Nat → List T_api_Instr
  | [], _ => []
  | x :: xs, i => bif R i then tr R x :: tl R xs (i + 1) else tl R xs (i + 1)
theorem tl_len (R : Nat → Bool) : ∀ (xs : List T_api_Instr) (i : Nat), (tl R xs i).length + pl R i = pl R (i + xs.length)
  | [], i => by simp [tl]
  | x :: xs, i => by
    have ih := tl_len R xs (i + 1)
    rw [show i + (x :: xs).length = i + 1 + xs.length by simp; omega, ← ih, tl]
    cases h : R i with
    | true => rw [pl_on h]; simp only [cond_true, List.length_cons]; omega
    | false => rw [pl_off h]; simp only [cond_false]
theorem tl_get (R : Nat → Bool) : ∀ (xs : List T_api_Instr) (i k : Nat) (x : T_api_Instr), xs[k]? = some x → R (i + k) = true → (tl R xs i)[pl R (i + k) - pl R i]? = some (tr R x)
  | [], i, k, x, h, _ => by simp at h
  | y :: xs, i, 0, x, h, hr => by
    simp only [List.getElem?_cons_zero, Option.some.injEq] at h
    subst h
    rw [Nat.add_zero] at hr ⊢
    rw [tl, hr, cond_true, Nat.sub_self]; rfl
  | y :: xs, i, k + 1, x, h, hr => by
    have ih := tl_get R xs (i + 1) k x (by simpa using h) (by rw [show i + 1 + k = i + (k + 1) by omega]; exact hr)
    rw [show i + 1 + k = i + (k + 1) by omega] at ih
    have hle := pl_le (R := R) (show i + 1 ≤ i + (k + 1) by omega)
    rw [tl]
    cases hi : R i with
    | true =>
      rw [pl_on hi] at ih hle
      rw [cond_true, show pl R (i + (k + 1)) - pl R i = (pl R (i + (k + 1)) - (pl R i + 1)) + 1 by omega, List.getElem?_cons_succ]
      exact ih
    | false =>
      rw [pl_off hi] at ih
      rw [cond_false]; exact ih
theorem tl_all {R : Nat → Bool} : ∀ (xs : List T_api_Instr) (i : Nat), (∀ k, k < xs.length → R (i + k) = true) → (∀ x ∈ xs, tr R x = x) → tl R xs i = xs
  | [], _, _, _ => rfl
  | x :: xs, i, h, ht => by
    have h0 := h 0 (by simp)
    rw [Nat.add_zero] at h0
    rw [tl, h0, cond_true, ht x (by simp), tl_all xs (i + 1) (fun k hk => by have := h (k + 1) (by simpa using hk); rwa [show i + (k + 1) = i + 1 + k by omega] at this) (fun y hy => ht y (by simp [hy]))]
def onF (l : List T_api_Instr) (i : Nat) : Bool := at_ (reach l) i
def trimS (l : List T_api_Instr) : List T_api_Instr := tl (onF l) l 0

/-! ### The code's Trim -/
def plL (R : Nat → Bool) (n : Nat) : List Int := (List.range n).map fun i => ((pl R i : Nat) : Int)
theorem plL_get {R : Nat → Bool} {n j : Nat} (h : j < n) : geti (plL R n) (j : Int) = some ((pl R j : Nat) : Int) := by
  rw [geti_k]; unfold plL; simp [List.getElem?_range h]
theorem reach_len (l : List T_api_Instr) : (reach l).length = l.length + 1 := by unfold reach; rw [rl_len]; simp
theorem trim_L3 {d : List T_api_Instr} (hg : good d = true) : ∀ (k i : Nat) (acc : List T_api_Instr), d.length + 1 ≤ k + i → i ≤ d.length → acc.length ≤ i → F20_L3 d (plL (onF d) d.length) (reach d) k i acc = some (acc ++ tl (onF d) (d.drop i) i, 0)
  | 0, i, acc, h, h', _ => by omega
  | k + 1, i, acc, h, h', ha => by
    have hl := good_len hg
    rw [F20_L3]
    by_cases hi : i < d.length
    · have hgi : geti d (i : Int) = some d[i] := by rw [geti_k]; exact List.getElem?_eq_getElem hi
      have hdr : d.drop i = d[i] :: d.drop (i + 1) := List.drop_eq_getElem_cons hi
      have hx := good_at hg (List.getElem?_eq_getElem hi)
      rw [dlt hi, cond_true, hgi, Option.bind_some, at_get (by rw [reach_len]; omega), Option.bind_some, hdr, tl]
      have ih := fun acc' (ha' : List.length acc' ≤ i + 1) => trim_L3 hg k (i + 1) acc' (by omega) (by omega) ha'
      generalize d[i] = x at hx ih ⊢
      unfold F20_A4
      rw [wi i (by omega)]
      show (bif !onF d i then _ else _) = _
      cases h1 : onF d i with
      | false => simp only [Bool.not_false, cond_true, cond_false]; exact ih acc (by omega)
      | true =>
        simp only [Bool.not_true, cond_true, cond_false]
        unfold tr
        by_cases h5 : x.Op = 5
        · rw [show (x.Op != 5) = false by simp [h5], cond_false, cond_false, app_n _ _ (by simp; omega), Option.bind_some, ih _ (by simp; omega)]
          simp
        · have hgo : 0 ≤ x.Go ∧ x.Go < d.length := by
            rcases okI_dest hx with ⟨_, h2, h3, _⟩ | ⟨_, h2, h3, _⟩ | ⟨h1, _⟩
            · omega
            · omega
            · exact absurd h1 h5
          obtain ⟨g, hgo'⟩ : ∃ g : Nat, x.Go = (g : Int) := ⟨x.Go.toNat, by omega⟩
          rw [show (x.Op != 5) = true by simp [h5], cond_true, cond_true, hgo', plL_get (by omega), Option.bind_some, app_n _ _ (by simp; omega), Option.bind_some, ih _ (by simp; omega), Int.toNat_natCast]
          simp
    · have : i = d.length := by omega
      subst this
      rw [dge (Nat.le_refl _), cond_false, List.drop_length, tl, List.append_nil]
theorem trim_L1 {fuel : Nat} {d : List T_api_Instr} (hg : good d = true) (hf : 50 ≤ fuel) : ∀ (k i : Nat) (l9 : List Int), d.length + 1 ≤ k + i → i ≤ d.length → l9.length = d.length → (∀ j, j < i → l9[j]? = some ((pl (onF d) j : Nat) : Int)) → F20_L1 fuel d (reach d) k ((pl (onF d) i : Nat) : Int) i l9 = some (trimS d, 0)
  | 0, i, l9, h, h', _, _ => by omega
  | k + 1, i, l9, h, h', hl9, hj => by
    have hl := good_len hg
    rw [F20_L1]
    by_cases hi : i < d.length
    · have hps := pl_self (R := onF d) i
      rw [dlt hi, cond_true, geti_k, List.getElem?_eq_getElem (by omega : i < l9.length), Option.bind_some, Option.bind_some, at_get (by rw [reach_len]; omega), Option.bind_some, Int.toNat_natCast, Nat.zero_add]
      unfold F20_A2
      have hj' : ∀ j, j < i + 1 → (l9.set i ((pl (onF d) i : Nat) : Int))[j]? = some ((pl (onF d) j : Nat) : Int) := fun j hj1 => by
        by_cases e : j = i
        · subst e; simp [List.getElem?_set, hl9, hi]
        · rw [List.getElem?_set_ne (fun e' => e e'.symm)]; exact hj j (by omega)
      have ih := trim_L1 hg hf k (i + 1) _ (by omega) (by omega) (by rw [List.length_set, hl9]) hj'
      rw [wi i (by omega), wi (pl (onF d) i) (by omega)]
      show (bif onF d i then _ else _) = _
      cases h1 : onF d i with
      | true => rw [pl_on h1] at ih; exact ih
      | false => rw [pl_off h1] at ih; exact ih
    · have : i = d.length := by omega
      subst this
      rw [dge (Nat.le_refl _), cond_false]
      have e : l9 = plL (onF d) d.length := by
        refine List.ext_getElem? fun j => ?_
        by_cases hjl : j < d.length
        · rw [hj j hjl]; unfold plL; simp [List.getElem?_range hjl]
        · rw [List.getElem?_eq_none (by omega), List.getElem?_eq_none (by unfold plL; simp; omega)]
      rw [e]
      have := trim_L3 hg fuel 0 [] (by omega) (by omega) (by simp)
      simpa [trimS] using this
theorem trim_eq {fuel : Nat} {d : List T_api_Instr} (hg : good d = true) (hf : 50 ≤ fuel) : F20 fuel d = some (trimS d, 0) := by
  have hl := good_len hg
  unfold F20
  rw [valid_eq (by omega) (by omega), hg, Option.bind_some, show (!true) = false from rfl, cond_false, reached_eq hg hf, Option.bind_some, List.length_map, mkL_n _ _ (by omega), Option.bind_some]
  exact trim_L1 hg hf fuel 0 _ (by omega) (by omega) (by simp) (fun j hj => by omega)
theorem trim_bad {fuel : Nat} {d : List T_api_Instr} (hg : good d = false) (hl : d.length < 1000000) (hf : d.length + 1 ≤ fuel) : F20 fuel d = some ([], 310) := by
  unfold F20
  rw [valid_eq hl hf, hg]; rfl

/-! ### What Trim keeps -/
theorem good_L {d : List T_api_Instr} (hg : good d = true) : goodL d.length 0 d = true := by unfold good at hg; rw [Bool.and_eq_true] at hg; exact hg.1
theorem on_zero {d : List T_api_Instr} (hg : good d = true) : onF d 0 = true := by
  unfold onF reach
  rw [rl_low d 0 _ (good_L hg) (by omega) (by simp) 0 (Nat.le_refl _), at_set (by simp)]; rfl
theorem on_clo {d : List T_api_Instr} (hg : good d = true) {i j : Nat} {x : T_api_Instr} (hx : d[i]? = some x) (hi : onF d i = true) (hj : leads x i j = true) : onF d j = true := by
  have := rl_clo d 0 ((List.replicate (d.length + 1) false).set 0 true) (good_L hg) (by omega) (by simp) i x hx (by rw [Nat.zero_add]; exact hi) j (by rw [Nat.zero_add]; exact hj)
  exact this
theorem on_min {d : List T_api_Instr} (hg : good d = true) {j : Nat} (h : onF d j = true) : j = 0 ∨ ∃ i x, d[i]? = some x ∧ i < j ∧ onF d i = true ∧ leads x i j = true := by
  rcases rl_min d 0 ((List.replicate (d.length + 1) false).set 0 true) (good_L hg) (by omega) (by simp) j h with h1 | ⟨k, x, h1, h2, h3, h4⟩
  · left
    rw [at_set (by simp)] at h1
    have : at_ (List.replicate (d.length + 1) false) j = false := by
      unfold at_
      by_cases hj : j < d.length + 1
      · simp [List.getD, hj]
      · simp [List.getD, hj]
    rw [this, Bool.or_false, decide_eq_true_eq] at h1
    exact h1
  · rw [Nat.zero_add] at h2 h3 h4
    exact .inr ⟨k, x, h1, h2, h3, h4⟩
theorem trimS_len (d : List T_api_Instr) : (trimS d).length = pl (onF d) d.length := by
  have := tl_len (onF d) d 0
  simpa [trimS, pl] using this
theorem trimS_get {d : List T_api_Instr} {i : Nat} {x : T_api_Instr} (hx : d[i]? = some x) (hi : onF d i = true) : (trimS d)[pl (onF d) i]? = some (tr (onF d) x) := by
  have := tl_get (onF d) d 0 i x hx (by rw [Nat.zero_add]; exact hi)
  simpa [trimS, pl] using this
theorem trimS_sur {d : List T_api_Instr} {k : Nat} {y : T_api_Instr} (h : (trimS d)[k]? = some y) : ∃ i x, d[i]? = some x ∧ onF d i = true ∧ pl (onF d) i = k ∧ y = tr (onF d) x := by
  have hk : k < pl (onF d) d.length := by rw [← trimS_len]; exact (List.getElem?_eq_some_iff.mp h).1
  obtain ⟨i, h1, h2, h3⟩ := pl_sur hk
  have hx : d[i]? = some d[i] := List.getElem?_eq_getElem h1
  refine ⟨i, _, hx, h2, h3, ?_⟩
  have := trimS_get hx h2
  rw [h3] at this
  exact Option.some.inj (h.symm.trans this)
theorem leads_go {x : T_api_Instr} {i : Nat} (h5 : x.Op ≠ 5) : leads x i x.Go.toNat = true := by unfold leads; simp [h5]
theorem leads_next {x : T_api_Instr} {i : Nat} (h5 : x.Op ≠ 5) (h4 : x.Op ≠ 4) : leads x i (i + 1) = true := by unfold leads; simp [h5, h4]
theorem trimS_good {d : List T_api_Instr} (hg : good d = true) : good (trimS d) = true := by
  have hl := good_len hg
  have h0 := on_zero hg
  have hlen := trimS_len d
  have hpos : 0 < pl (onF d) d.length := by
    have := pl_lt h0 (show 0 < d.length by omega)
    simpa [pl] using this
  have hps := pl_self (R := onF d) d.length
  unfold good
  rw [Bool.and_eq_true, inB_iff]
  refine ⟨goodL_of fun k y hy => ?_, by omega, by omega⟩
  obtain ⟨i, x, hx, hi, hk, rfl⟩ := trimS_sur hy
  have hok := good_at hg hx
  rw [Nat.zero_add]
  have key : x.Op ≠ 5 → x.Go > i ∧ x.Go < d.length → (tr (onF d) x).Go > (k : Int) ∧ (tr (onF d) x).Go < ((trimS d).length : Int) := fun h5 hgo => by
    rw [tr_go h5, hlen]
    have h1 := pl_lt hi (show i < x.Go.toNat by omega)
    have h2 := pl_lt (on_clo hg hx hi (leads_go h5)) (show x.Go.toNat < d.length by omega)
    omega
  rcases okI_dest hok with ⟨h1, h2, h3, h4, h5⟩ | ⟨h1, h2, h3, h4, h5⟩ | ⟨h1, h2, h3, h4⟩
  · have := key (by omega) ⟨h2, h3⟩
    refine okI_mk (.inl ⟨by rw [tr_op]; exact h1, this.1, this.2, by rw [tr_var]; exact h4, by rw [tr_val]; exact h5⟩)
  · have := key (by omega) ⟨h2, h3⟩
    refine okI_mk (.inr (.inl ⟨by rw [tr_op]; exact h1, this.1, this.2, by rw [tr_var]; exact h4, by rw [tr_val]; exact h5⟩))
  · have e : tr (onF d) x = x := by unfold tr; rw [h1]; rfl
    rw [e]
    exact okI_mk (.inr (.inr ⟨h1, h2, h3, h4⟩))
theorem trimS_trip {d : List T_api_Instr} (hg : good d = true) {row : List Int} {i : Nat} {c : Int} {n : Nat} (t : Trip d row i c n) (hi : onF d i = true) : Trip (trimS d) row (pl (onF d) i) c n := by
  induction t with
  | @stop i x h h5 =>
    have := Trip.stop (row := row) (trimS_get h hi) (by rw [tr_op]; exact h5)
    rwa [tr_val] at this
  | @step i n c x h h5 t ih =>
    refine .step (trimS_get h hi) (by rw [tr_op]; exact h5) ?_
    have hj : jmp (tr (onF d) x) row = jmp x row := by unfold jmp; rw [tr_op, tr_var, tr_val]
    unfold nxt at ih ⊢
    rw [hj, tr_go h5, Int.toNat_natCast]
    cases h1 : jmp x row with
    | true =>
      rw [h1] at ih
      exact ih (on_clo hg h hi (leads_go h5))
    | false =>
      rw [h1] at ih
      have h4 : x.Op ≠ 4 := fun e => by unfold jmp at h1; rw [e] at h1; simp at h1
      have := ih (on_clo hg h hi (leads_next h5 h4))
      rw [cond_false, pl_on hi] at this
      exact this
theorem trip_len {l : List T_api_Instr} {row : List Int} (hg : good l = true) {i : Nat} {c : Int} {n : Nat} (t : Trip l row i c n) : n + i ≤ l.length := by
  induction t with
  | @stop i x h h5 => have := (List.getElem?_eq_some_iff.mp h).1; omega
  | @step i n c x h h5 t ih => have := nxt_lt (good_at hg h) h5 row; omega
/-- All of trimmed code is reached. -/
theorem trimS_on {d : List T_api_Instr} (hg : good d = true) : ∀ (m i : Nat), i < m → i < d.length → onF d i = true → onF (trimS d) (pl (onF d) i) = true
  | 0, i, h, _, _ => by omega
  | m + 1, i, h, hid, hi => by
    rcases on_min hg hi with rfl | ⟨j, x, hx, hj, hoj, hle⟩
    · exact on_zero (trimS_good hg)
    · have ih := trimS_on hg m j (by omega) (by omega) hoj
      refine on_clo (trimS_good hg) (trimS_get hx hoj) ih ?_
      unfold leads at hle ⊢
      rw [Bool.and_eq_true, Bool.or_eq_true, Bool.and_eq_true, decide_eq_true_eq, decide_eq_true_eq] at hle
      have h5 : x.Op ≠ 5 := by simpa using hle.1
      rw [tr_op, tr_go h5, Int.toNat_natCast, hle.1, Bool.true_and]
      rcases hle.2 with e | ⟨e4, e⟩
      · rw [e, decide_eq_true rfl, Bool.true_or]
      · rw [e, pl_on hoj, e4, decide_eq_true rfl, Bool.and_self, Bool.or_true]
theorem trimS_idem {d : List T_api_Instr} (hg : good d = true) : trimS (trimS d) = trimS d := by
  have hgt := trimS_good hg
  have hall : ∀ k, k < (trimS d).length → onF (trimS d) k = true := fun k hk => by
    rw [trimS_len] at hk
    obtain ⟨i, h1, h2, rfl⟩ := pl_sur hk
    exact trimS_on hg (i + 1) i (by omega) h1 h2
  unfold trimS
  refine tl_all _ 0 (fun k hk => by rw [Nat.zero_add]; exact hall k hk) (fun x hx => ?_)
  obtain ⟨k, hk⟩ := List.getElem?_of_mem hx
  by_cases h5 : x.Op = 5
  · unfold tr; rw [h5]; rfl
  · have hok := good_at hgt hk
    have hgo : 0 ≤ x.Go ∧ x.Go < (trimS d).length := by
      rcases okI_dest hok with ⟨_, h2, h3, _⟩ | ⟨_, h2, h3, _⟩ | ⟨h1, _⟩
      · omega
      · omega
      · exact absurd h1 h5
    have e : (pl (onF (trimS d)) x.Go.toNat : Nat) = x.Go.toNat := pl_all fun i hi => hall i (by omega)
    unfold tr
    rw [show (x.Op != 5) = true by simp [h5], cond_true]
    show (⟨x.Op, x.Var, x.Val, ((pl (onF (trimS d)) x.Go.toNat : Nat) : Int)⟩ : T_api_Instr) = x
    rw [e, Int.toNat_of_nonneg hgo.1]
end Go.Proofs.YtilfjfpemjfalaaGreatDoor
