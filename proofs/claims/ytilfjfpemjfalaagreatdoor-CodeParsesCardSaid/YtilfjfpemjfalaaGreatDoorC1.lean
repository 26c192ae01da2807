/- Plain law of chapter 31: numbers, lists; valid code. -/
import Derived.Test.YtilfjfpemjfalaaGreatDoorFA
namespace Go.Proofs.YtilfjfpemjfalaaGreatDoor
open Go Go.RowKit Kx
set_option maxRecDepth 100000

theorem wakes_true : F8 100 = some true := by kernel_rfl

theorem w64 {i : Int} (h0 : -4611686018427387904 ≤ i) (h1 : i < 4611686018427387904) : IntKind.i64.wrap i = i := by
  have e64 : (2 ^ IntKind.i64.bits : Int) = 18446744073709551616 := rfl
  have e63 : (2 ^ (IntKind.i64.bits - 1) : Int) = 9223372036854775808 := rfl
  unfold IntKind.wrap
  simp only [e64, e63, show IntKind.i64.signed = true from rfl, Bool.true_and, decide_eq_true_eq]
  split <;> omega
theorem wi (i : Nat) (h : i < 4000000000000000000) : IntKind.i64.wrap ((i : Int) + 1) = ((i + 1 : Nat) : Int) := by
  rw [w64 (i := (i : Int) + 1) (by omega) (by omega)]; omega
theorem wu8 (x : Int) : 0 ≤ IntKind.u8.wrap x ∧ IntKind.u8.wrap x ≤ 255 := by
  have e8 : (2 ^ IntKind.u8.bits : Int) = 256 := rfl
  unfold IntKind.wrap
  simp only [e8, show IntKind.u8.signed = false from rfl, Bool.false_and]
  rw [if_neg (by decide)]
  omega
theorem geti_k {α : Type} (l : List α) (k : Nat) : geti l (k : Int) = l[k]? := by simp [geti]
theorem geti_0 {α : Type} (l : List α) : geti l 0 = l[0]? := by simp [geti]
theorem ass_t {α : Type} {b : Bool} {x : Option α} (h : b = true) : ass b x = x := by subst h; rfl
theorem app_n {α : Type} (l m : List α) (h : l.length + m.length ≤ 2147483648) : app l m = some (l ++ m) := by
  unfold app; rw [show decide (l.length + m.length ≤ 2147483648) = true from decide_eq_true h]; rfl
theorem dlt {α β : Type} {l : List α} {f : α → β} {i : Nat} (h : i < l.length) : decide ((i : Int) < ((l.map f).length : Int)) = true := decide_eq_true (by rw [List.length_map]; omega)
theorem dge {α β : Type} {l : List α} {f : α → β} {i : Nat} (h : l.length ≤ i) : decide ((i : Int) < ((l.map f).length : Int)) = false := decide_eq_false (by rw [List.length_map]; omega)

/-! ### Valid code -/
def inB (lo hi n : Int) : Bool := decide (n ≥ lo) && decide (n ≤ hi)
theorem inB_iff {lo hi n : Int} : inB lo hi n = true ↔ lo ≤ n ∧ n ≤ hi := by simp [inB]
theorem cin_eq (n lo hi : Int) : F33 n lo hi = some (inB lo hi n) := by
  unfold F33 inB
  cases decide (n ≥ lo) <;> rfl
/-- The instruction x is valid at index i of n. -/
def okI (n i : Nat) (x : T_api_Instr) : Bool :=
  bif x.Op == 1 || x.Op == 2 || x.Op == 3 then decide (x.Go > i) && decide (x.Go < n) && inB 0 3 x.Var && inB (-99) 99 x.Val
  else bif x.Op == 4 then decide (x.Go > i) && decide (x.Go < n) && x.Var == 0 && x.Val == 0
  else bif x.Op == 5 then inB 0 3 x.Val && x.Var == 0 && x.Go == 0 else false
def goodL (n : Nat) : Nat → List T_api_Instr → Bool
  | _, [] => true
  | i, x :: l => okI n i x && goodL n (i + 1) l
def good (l : List T_api_Instr) : Bool := goodL l.length 0 l && inB 1 40 l.length
theorem valid_L {l : List T_api_Instr} (hl : l.length < 1000000) : ∀ (k i : Nat), l.length + 1 ≤ k + i → i ≤ l.length → F31_L1 l k i = some (goodL l.length i (l.drop i) && inB 1 40 l.length)
  | 0, i, h, h' => by omega
  | k + 1, i, h, h' => by
    rw [F31_L1]
    by_cases hi : i < l.length
    · have hd : l.drop i = l[i] :: l.drop (i + 1) := List.drop_eq_getElem_cons hi
      have hg : geti l (i : Int) = some l[i] := by rw [geti_k]; exact List.getElem?_eq_getElem hi
      have ih := valid_L hl k (i + 1) (by omega) (by omega)
      rw [dlt hi, cond_true, hg, Option.bind_some, hd, goodL, wi i (by omega), ih]
      generalize l[i] = x
      generalize goodL l.length (i + 1) (l.drop (i + 1)) = g
      generalize inB 1 40 (l.length : Int) = g2
      have e : ∀ b : Bool, (bif b then some (decide (x.Go < ((l.map e_T_api_Instr).length : Int))) else some false) = some (b && decide (x.Go < (l.length : Int))) := fun b => by cases b <;> simp
      simp only [e, Option.bind_some, cin_eq]
      unfold okI
      by_cases h1 : x.Op = 1
      · simp only [h1]
        cases decide (x.Go > (i : Int)) <;> cases decide (x.Go < (l.length : Int)) <;> cases inB 0 3 x.Var <;> cases inB (-99) 99 x.Val <;> simp
      · by_cases h2 : x.Op = 2
        · simp only [h2]
          cases decide (x.Go > (i : Int)) <;> cases decide (x.Go < (l.length : Int)) <;> cases inB 0 3 x.Var <;> cases inB (-99) 99 x.Val <;> simp
        · by_cases h3 : x.Op = 3
          · simp only [h3]
            cases decide (x.Go > (i : Int)) <;> cases decide (x.Go < (l.length : Int)) <;> cases inB 0 3 x.Var <;> cases inB (-99) 99 x.Val <;> simp
          · by_cases h4 : x.Op = 4
            · simp only [h4]
              cases decide (x.Go > (i : Int)) <;> cases decide (x.Go < (l.length : Int)) <;> cases h5 : (x.Var == 0) <;> cases h6 : (x.Val == 0) <;> simp
            · by_cases h5 : x.Op = 5
              · simp only [h5]
                cases inB 0 3 x.Val <;> cases h5 : (x.Var == 0) <;> cases h6 : (x.Go == 0) <;> simp
              · have e1 : (x.Op == 1) = false := by simp [h1]
                have e2 : (x.Op == 2) = false := by simp [h2]
                have e3 : (x.Op == 3) = false := by simp [h3]
                have e4 : (x.Op == 4) = false := by simp [h4]
                have e5 : (x.Op == 5) = false := by simp [h5]
                simp only [e1, e2, e3, e4, e5, cond_false, Bool.or_false, Bool.false_and]
    · have : i = l.length := by omega
      subst this
      rw [dge (Nat.le_refl _), cond_false, List.drop_length, goodL, cin_eq]
      simp
theorem valid_eq {fuel : Nat} {l : List T_api_Instr} (hl : l.length < 1000000) (hf : l.length + 1 ≤ fuel) : F31 fuel l = some (good l) := by
  unfold F31 good
  have := valid_L hl fuel 0 (by omega) (by omega)
  simpa using this
theorem goodL_get {n : Nat} : ∀ {l : List T_api_Instr} {i : Nat}, goodL n i l = true → ∀ (j : Nat) (x : T_api_Instr), l[j]? = some x → okI n (i + j) x = true
  | [], _, _, j, x, h => by simp at h
  | y :: l, i, hg, j, x, h => by
    simp only [goodL, Bool.and_eq_true] at hg
    cases j with
    | zero => simp at h; subst h; exact hg.1
    | succ j =>
      have := goodL_get hg.2 j x (by simpa using h)
      rwa [show i + 1 + j = i + (j + 1) by omega] at this
theorem goodL_of {n : Nat} : ∀ {l : List T_api_Instr} {i : Nat}, (∀ (j : Nat) (x : T_api_Instr), l[j]? = some x → okI n (i + j) x = true) → goodL n i l = true
  | [], _, _ => rfl
  | y :: l, i, h => by
    simp only [goodL, Bool.and_eq_true]
    refine ⟨h 0 y rfl, goodL_of fun j x hx => ?_⟩
    have := h (j + 1) x (by simpa using hx)
    rwa [show i + (j + 1) = i + 1 + j by omega] at this
/-! ### Same -/
theorem same_L {l : List T_api_Instr} (hl : l.length < 1000000) : ∀ (k i : Nat), l.length + 1 ≤ k + i → i ≤ l.length → F17_L1 l l k i = some true
  | 0, i, h, h' => by omega
  | k + 1, i, h, h' => by
    rw [F17_L1]
    by_cases hi : i < l.length
    · have hg : geti l (i : Int) = some l[i] := by rw [geti_k]; exact List.getElem?_eq_getElem hi
      rw [dlt hi, cond_true, hg, Option.bind_some, Option.bind_some, wi i (by omega), same_L hl k (i + 1) (by omega) (by omega)]
      simp
    · rw [dge (by omega), cond_false]
theorem same_refl {fuel : Nat} {l : List T_api_Instr} (hl : l.length < 1000000) (hf : l.length + 1 ≤ fuel) : F17 fuel l l = some true := by
  unfold F17
  rw [show ((((l.map e_T_api_Instr).length : Int) != ((l.map e_T_api_Instr).length : Int))) = false by simp, cond_false]
  simpa using same_L hl fuel 0 (by omega) (by omega)
end Go.Proofs.YtilfjfpemjfalaaGreatDoor
