/- Plain law of chapter 31: trimmed code. -/
import Derived.Test.YtilfjfpemjfalaaGreatDoorC3
import Derived.Test.YtilfjfpemjfalaaGreatDoorFRu
namespace Go.Proofs.YtilfjfpemjfalaaGreatDoor
open Go Go.RowKit Kx
set_option maxRecDepth 100000

/-! ### What is reached -/
def at_ (on : List Bool) (j : Nat) : Bool := on.getD j false
theorem at_set {on : List Bool} {a : Nat} (ha : a < on.length) (j : Nat) : at_ (on.set a true) j = (decide (j = a) || at_ on j) := by
  unfold at_
  by_cases h : j = a
  · subst h; simp [List.getD, List.getElem?_set, ha]
  · have : a ≠ j := fun e => h e.symm
    simp [List.getD, List.getElem?_set, this, h]
theorem at_get {on : List Bool} {j : Nat} (h : j < on.length) : geti on (j : Int) = some (at_ on j) := by
  rw [geti_k]; unfold at_
  simp [List.getD, List.getElem?_eq_getElem h]
def rstep (x : T_api_Instr) (i : Nat) (on : List Bool) : List Bool :=
  bif at_ on i && !(x.Op == 5) then (bif x.Op != 4 then (on.set x.Go.toNat true).set (i + 1) true else on.set x.Go.toNat true) else on
def rl : List T_api_Instr → Nat → List Bool → List Bool
  | [], _, on => on
  | x :: xs, i, on => rl xs (i + 1) (rstep x i on)
theorem rstep_len (x : T_api_Instr) (i : Nat) (on : List Bool) : (rstep x i on).length = on.length := by
  unfold rstep
  cases at_ on i && !(x.Op == 5) <;> cases x.Op != 4 <;> simp
theorem rl_len : ∀ (xs : List T_api_Instr) (i : Nat) (on : List Bool), (rl xs i on).length = on.length
  | [], _, _ => rfl
  | x :: xs, i, on => by rw [rl, rl_len xs, rstep_len]
/-- One step: what it turns. -/
theorem rstep_at {x : T_api_Instr} {n i : Nat} {on : List Bool} (hx : okI n i x = true) (hi : i < n) (hn : n ≤ on.length) (j : Nat) :
    at_ (rstep x i on) j = (at_ on j || ((at_ on i && !(x.Op == 5)) && (decide (j = x.Go.toNat) || ((x.Op != 4) && decide (j = i + 1))))) := by
  unfold rstep
  cases h : at_ on i && !(x.Op == 5) with
  | false => simp
  | true =>
    have hgo : x.Go.toNat < on.length ∧ i + 1 ≤ x.Go.toNat := by
      rcases okI_dest hx with ⟨_, h2, h3, _⟩ | ⟨_, h2, h3, _⟩ | ⟨h1, _⟩
      · omega
      · omega
      · rw [h1] at h; simp at h
    cases h4 : x.Op != 4 with
    | true =>
      simp only [cond_true, Bool.true_and]
      rw [at_set (by rw [List.length_set]; omega), at_set hgo.1]
      cases decide (j = i + 1) <;> cases decide (j = x.Go.toNat) <;> cases at_ on j <;> rfl
    | false =>
      simp only [cond_true, cond_false, Bool.true_and, Bool.false_and, Bool.or_false]
      rw [at_set hgo.1]
      cases decide (j = x.Go.toNat) <;> cases at_ on j <;> rfl
theorem rstep_low {x : T_api_Instr} {n i : Nat} {on : List Bool} (hx : okI n i x = true) (hi : i < n) (hn : n ≤ on.length) {j : Nat} (hj : j ≤ i) : at_ (rstep x i on) j = at_ on j := by
  rw [rstep_at hx hi hn]
  cases h : at_ on i && !(x.Op == 5) with
  | false => simp
  | true =>
    have hgo : x.Go > i := by
      rcases okI_dest hx with ⟨_, h2, _⟩ | ⟨_, h2, _⟩ | ⟨h1, _⟩
      · omega
      · omega
      · rw [h1] at h; simp at h
    rw [decide_eq_false (show ¬ j = x.Go.toNat by omega), decide_eq_false (show ¬ j = i + 1 by omega)]
    simp
theorem rl_low {n : Nat} : ∀ (xs : List T_api_Instr) (i : Nat) (on : List Bool), goodL n i xs = true → i + xs.length ≤ n → n ≤ on.length → ∀ j, j ≤ i → at_ (rl xs i on) j = at_ on j
  | [], _, _, _, _, _, _, _ => rfl
  | x :: xs, i, on, hg, hl, hn, j, hj => by
    simp only [goodL, Bool.and_eq_true, List.length_cons] at hg hl
    rw [rl, rl_low xs (i + 1) _ hg.2 (by omega) (by rw [rstep_len]; exact hn) j (by omega), rstep_low hg.1 (by omega) hn hj]
theorem rl_mono {n : Nat} : ∀ (xs : List T_api_Instr) (i : Nat) (on : List Bool), goodL n i xs = true → i + xs.length ≤ n → n ≤ on.length → ∀ j, at_ on j = true → at_ (rl xs i on) j = true
  | [], _, _, _, _, _, _, h => h
  | x :: xs, i, on, hg, hl, hn, j, h => by
    simp only [goodL, Bool.and_eq_true, List.length_cons] at hg hl
    rw [rl]
    exact rl_mono xs (i + 1) _ hg.2 (by omega) (by rw [rstep_len]; exact hn) j (by rw [rstep_at hg.1 (by omega) hn, h]; rfl)
/-- A step leads from index i to index j. -/
def leads (x : T_api_Instr) (i j : Nat) : Bool := !(x.Op == 5) && (decide (j = x.Go.toNat) || ((x.Op != 4) && decide (j = i + 1)))
theorem rl_clo {n : Nat} : ∀ (xs : List T_api_Instr) (i : Nat) (on : List Bool), goodL n i xs = true → i + xs.length ≤ n → n ≤ on.length → ∀ (k : Nat) (x : T_api_Instr), xs[k]? = some x → at_ (rl xs i on) (i + k) = true → ∀ j, leads x (i + k) j = true → at_ (rl xs i on) j = true
  | [], _, _, _, _, _, k, x, h, _, _, _ => by simp at h
  | y :: xs, i, on, hg, hl, hn, 0, x, h, ho, j, hj => by
    simp only [List.getElem?_cons_zero, Option.some.injEq] at h
    subst h
    have hg' := hg
    simp only [goodL, Bool.and_eq_true, List.length_cons] at hg hl
    rw [Nat.add_zero, rl_low (y :: xs) i on hg' (by simp; omega) hn i (Nat.le_refl _)] at ho
    rw [rl]
    refine rl_mono xs (i + 1) _ hg.2 (by omega) (by rw [rstep_len]; exact hn) j ?_
    rw [rstep_at hg.1 (by omega) hn, ho]
    unfold leads at hj
    rw [Nat.add_zero] at hj
    rw [Bool.true_and, hj, Bool.or_true]
  | y :: xs, i, on, hg, hl, hn, k + 1, x, h, ho, j, hj => by
    simp only [goodL, Bool.and_eq_true, List.length_cons] at hg hl
    rw [rl] at ho ⊢
    rw [show i + (k + 1) = i + 1 + k by omega] at ho hj
    exact rl_clo xs (i + 1) _ hg.2 (by omega) (by rw [rstep_len]; exact hn) k x (by simpa using h) ho j hj
/-- Whatever is on in the end was on, or a step leads to it. -/
theorem rl_min {n : Nat} : ∀ (xs : List T_api_Instr) (i : Nat) (on : List Bool), goodL n i xs = true → i + xs.length ≤ n → n ≤ on.length → ∀ j, at_ (rl xs i on) j = true → at_ on j = true ∨ ∃ k x, xs[k]? = some x ∧ i + k < j ∧ at_ (rl xs i on) (i + k) = true ∧ leads x (i + k) j = true
  | [], _, _, _, _, _, _, h => .inl h
  | y :: xs, i, on, hg, hl, hn, j, h => by
    have hg' := hg
    simp only [goodL, Bool.and_eq_true, List.length_cons] at hg hl
    have hlow := rl_low (y :: xs) i on hg' (by simp; omega) hn i (Nat.le_refl _)
    rw [rl] at h
    rcases rl_min xs (i + 1) _ hg.2 (by omega) (by rw [rstep_len]; exact hn) j h with h1 | ⟨k, x, h1, h2, h3, h4⟩
    · rw [rstep_at hg.1 (by omega) hn, Bool.or_eq_true] at h1
      rcases h1 with h1 | h1
      · exact .inl h1
      · refine .inr ⟨0, y, rfl, ?_, ?_, ?_⟩
        · rw [Bool.and_eq_true, Bool.and_eq_true] at h1
          rcases okI_dest hg.1 with ⟨_, h2, _⟩ | ⟨_, h2, _⟩ | ⟨h5, _⟩
          · have := h1.2; simp only [Bool.or_eq_true, Bool.and_eq_true, decide_eq_true_eq] at this; rcases this with e | ⟨_, e⟩ <;> omega
          · have := h1.2; simp only [Bool.or_eq_true, Bool.and_eq_true, decide_eq_true_eq] at this; rcases this with e | ⟨_, e⟩ <;> omega
          · have := h1.1.2; rw [h5] at this; simp at this
        · rw [Nat.add_zero, hlow]
          rw [Bool.and_eq_true, Bool.and_eq_true] at h1
          exact h1.1.1
        · unfold leads
          rw [Bool.and_eq_true, Bool.and_eq_true] at h1
          rw [Nat.add_zero, h1.1.2, h1.2]; rfl
    · refine .inr ⟨k + 1, x, by simpa using h1, by omega, ?_, ?_⟩
      · rw [rl, show i + (k + 1) = i + 1 + k by omega]; exact h3
      · rw [show i + (k + 1) = i + 1 + k by omega]; exact h4
def reach (l : List T_api_Instr) : List Bool := rl l 0 ((List.replicate (l.length + 1) false).set 0 true)
theorem reach_L {d : List T_api_Instr} (hg : goodL d.length 0 d = true) (hd : d.length < 1000000) : ∀ (k i : Nat) (on : List Bool), d.length + 1 ≤ k + i → i ≤ d.length → on.length = d.length + 1 → F52_L1 d k i on = some (rl (d.drop i) i on)
  | 0, i, on, h, h', _ => by omega
  | k + 1, i, on, h, h', hon => by
    rw [F52_L1]
    by_cases hi : i < d.length
    · have hgi : geti d (i : Int) = some d[i] := by rw [geti_k]; exact List.getElem?_eq_getElem hi
      have hdr : d.drop i = d[i] :: d.drop (i + 1) := List.drop_eq_getElem_cons hi
      have hx : okI d.length i d[i] = true := by simpa using goodL_get hg i d[i] (List.getElem?_eq_getElem hi)
      rw [dlt hi, cond_true, hgi, Option.bind_some, at_get (by omega), Option.bind_some, hdr, rl]
      have ih := reach_L hg hd k (i + 1) (rstep d[i] i on) (by omega) (by omega) (by rw [rstep_len, hon])
      generalize d[i] = x at hx ih ⊢
      unfold F52_A2
      rw [wi i (by omega)]
      unfold rstep at ih ⊢
      cases h1 : at_ on i with
      | false =>
        rw [h1] at ih
        simpa using ih
      | true =>
        rw [h1] at ih
        by_cases h5 : x.Op = 5
        · rw [h5] at ih ⊢
          simpa using ih
        · have hgo : 0 ≤ x.Go ∧ x.Go < on.length := by
            rcases okI_dest hx with ⟨_, h2, h3, _⟩ | ⟨_, h2, h3, _⟩ | ⟨h1, _⟩
            · omega
            · omega
            · exact absurd h1 h5
          have e5 : (x.Op == 5) = false := by simp [h5]
          rw [e5] at ih ⊢
          obtain ⟨g, hgo'⟩ : ∃ g : Nat, x.Go = (g : Int) := ⟨x.Go.toNat, by omega⟩
          rw [hgo'] at ih ⊢
          have hgl : g < on.length := by omega
          simp only [Bool.not_true, cond_false, cond_true, Option.bind_some, Bool.not_false, Bool.and_true, Int.toNat_natCast, Nat.zero_add] at ih ⊢
          rw [at_get hgl, Option.bind_some]
          cases h4 : x.Op != 4 with
          | true =>
            rw [h4] at ih
            simp only [cond_true] at ih ⊢
            rw [at_get (by rw [List.length_set]; omega), Option.bind_some]
            exact ih
          | false =>
            rw [h4] at ih
            simp only [cond_false] at ih ⊢
            exact ih
    · have : i = d.length := by omega
      subst this
      rw [dge (Nat.le_refl _), cond_false, List.drop_length]; rfl
theorem mkL_n {α : Type} (n : Nat) (x : α) (h : n < 1000000) : mkL (n : Int) (n : Int) x = some (List.replicate n x) := by
  unfold mkL
  refine (ass_t ?_).trans ?_
  · simp; omega
  · simp
theorem reached_eq {fuel : Nat} {d : List T_api_Instr} (hg : good d = true) (hf : 50 ≤ fuel) : F52 fuel d = some (reach d) := by
  have hl := good_len hg
  have hg0 : goodL d.length 0 d = true := by unfold good at hg; rw [Bool.and_eq_true] at hg; exact hg.1
  unfold F52 reach
  rw [List.length_map, wi d.length (by omega), mkL_n _ _ (by omega), Option.bind_some, geti_0]
  rw [show (List.replicate (d.length + 1) false)[0]? = some false by simp, Option.bind_some, Option.bind_some]
  have := reach_L hg0 (by omega) fuel 0 ((List.replicate (d.length + 1) false).set 0 true) (by omega) (by omega) (by simp)
  simpa using this
end Go.Proofs.YtilfjfpemjfalaaGreatDoor
