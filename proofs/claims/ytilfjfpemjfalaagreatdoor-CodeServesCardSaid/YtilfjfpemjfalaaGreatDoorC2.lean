/- Plain law of chapter 31: lists of rules, and their code. -/
import Derived.Test.YtilfjfpemjfalaaGreatDoorC1
import Derived.Test.YtilfjfpemjfalaaGreatDoorFRu
namespace Go.Proofs.YtilfjfpemjfalaaGreatDoor
open Go Go.RowKit Kx
set_option maxRecDepth 100000

theorem rin_eq (n lo hi : Int) : F85 n lo hi = some (inB lo hi n) := by
  unfold F85 inB
  cases decide (n ≥ lo) <;> rfl
theorem rin2_eq (n lo hi : Int) : F72 n lo hi = some (inB lo hi n) := by
  unfold F72 inB
  cases decide (n ≥ lo) <;> rfl
def ruleB (r : T_api_Rule) : Bool := inB 0 3 r.Var && inB 1 3 r.Test && inB (-99) 99 r.Val && inB 0 3 r.Then
def vR (l : T_api_Rules) : Bool := decide (l.List.length ≤ 12) && inB 0 3 l.Else && l.List.all ruleB
theorem rule_eq (r : T_api_Rule) : F87 r = some (!ruleB r) := by
  unfold F87 ruleB
  simp only [rin_eq, Option.bind_some]
  cases inB 0 3 r.Var <;> cases inB 1 3 r.Test <;> cases inB (-99) 99 r.Val <;> cases inB 0 3 r.Then <;> rfl
theorem ridx_L {l : List T_api_Rule} (hl : l.length < 1000000) : ∀ (k i : Nat), l.length + 1 ≤ k + i → i ≤ l.length → ∃ n : Int, F103_L1 l k i = some n ∧ decide (n ≥ 0) = !((l.drop i).all ruleB)
  | 0, i, h, h' => by omega
  | k + 1, i, h, h' => by
    rw [F103_L1]
    by_cases hi : i < l.length
    · have hg : geti l (i : Int) = some l[i] := by rw [geti_k]; exact List.getElem?_eq_getElem hi
      have hd : l.drop i = l[i] :: l.drop (i + 1) := List.drop_eq_getElem_cons hi
      rw [dlt hi, cond_true, hg, Option.bind_some, rule_eq, Option.bind_some, wi i (by omega), hd, List.all_cons]
      cases ruleB l[i]
      · exact ⟨i, rfl, by simp⟩
      · simpa using ridx_L hl k (i + 1) (by omega) (by omega)
    · have : i = l.length := by omega
      subst this
      rw [dge (Nat.le_refl _), cond_false, List.drop_length]
      exact ⟨-1, rfl, by simp⟩
theorem rcon_eq {fuel : Nat} {l : List T_api_Rule} (hl : l.length < 1000000) (hf : l.length + 1 ≤ fuel) : F86 fuel l = some (!l.all ruleB) := by
  obtain ⟨n, e, h⟩ := ridx_L hl fuel 0 (by omega) (by omega)
  unfold F86 F103
  rw [show (F103_L1 l fuel 0) = some n from e, Option.bind_some, h]
  simp
theorem rval_eq {fuel : Nat} {l : T_api_Rules} (hf : 13 ≤ fuel) : F55 fuel l = some (vR l) := by
  unfold F55 vR
  simp only [rin_eq, Option.bind_some, List.length_map]
  by_cases h : l.List.length ≤ 12
  · rw [show decide ((l.List.length : Int) > 12) = false from decide_eq_false (by omega), show decide (l.List.length ≤ 12) = true from decide_eq_true h, cond_false, Option.bind_some]
    cases inB 0 3 l.Else
    · rfl
    · rw [show (!true) = false from rfl, cond_false, rcon_eq (by omega) (by omega), Option.bind_some]
      simp
  · rw [show decide ((l.List.length : Int) > 12) = true from decide_eq_true (by omega), show decide (l.List.length ≤ 12) = false from decide_eq_false h]
    rfl
/-! ### The code of a list -/
def act (n : Int) : T_api_Instr := ⟨5, 0, n, 0⟩
def comp : Nat → List T_api_Rule → List T_api_Instr
  | _, [] => []
  | i, r :: l => (⟨r.Test, r.Var, r.Val, ((3 * i + 2 : Nat) : Int)⟩ : T_api_Instr) :: (⟨4, 0, 0, ((3 * i + 3 : Nat) : Int)⟩ : T_api_Instr) :: act r.Then :: comp (i + 1) l
def cd (l : T_api_Rules) : List T_api_Instr := comp 0 l.List ++ [act l.Else]
theorem comp_len : ∀ (i : Nat) (l : List T_api_Rule), (comp i l).length = 3 * l.length
  | _, [] => rfl
  | i, r :: l => by simp only [comp, List.length_cons, comp_len (i + 1) l]; omega
theorem cd_len (l : T_api_Rules) : (cd l).length = 3 * l.List.length + 1 := by simp [cd, comp_len]
theorem w32 (i : Nat) (h : i < 1000000) : IntKind.i64.wrap ((IntKind.i64.wrap (3 * (i : Int))) + 2) = ((3 * i + 2 : Nat) : Int) := by
  rw [w64 (i := 3 * (i : Int)) (by omega) (by omega), w64 (by omega) (by omega)]; omega
theorem w33 (i : Nat) (h : i < 1000000) : IntKind.i64.wrap ((IntKind.i64.wrap (3 * (i : Int))) + 3) = ((3 * i + 3 : Nat) : Int) := by
  rw [w64 (i := 3 * (i : Int)) (by omega) (by omega), w64 (by omega) (by omega)]; omega
theorem comp_L {l : T_api_Rules} (hl : l.List.length < 1000) : ∀ (k i : Nat) (acc : List T_api_Instr), l.List.length + 1 ≤ k + i → i ≤ l.List.length → acc.length + 3 * (l.List.length - i) < 1000000 → F25_L1 l k i acc = some (acc ++ (comp i (l.List.drop i) ++ [act l.Else]), 0)
  | 0, i, acc, h, h', _ => by omega
  | k + 1, i, acc, h, h', ha => by
    rw [F25_L1]
    by_cases hi : i < l.List.length
    · have hg : geti l.List (i : Int) = some l.List[i] := by rw [geti_k]; exact List.getElem?_eq_getElem hi
      have hd : l.List.drop i = l.List[i] :: l.List.drop (i + 1) := List.drop_eq_getElem_cons hi
      rw [dlt hi, cond_true, hg, Option.bind_some, app_n _ _ (by simp; omega), Option.bind_some, wi i (by omega),
        comp_L hl k (i + 1) _ (by omega) (by omega) (by simp; omega), hd, comp, w32 i (by omega), w33 i (by omega)]
      simp [act]
    · have : i = l.List.length := by omega
      subst this
      rw [dge (Nat.le_refl _), cond_false, List.drop_length, app_n _ _ (by simp; omega)]
      simp [comp, act]
theorem compile_eq {fuel : Nat} {l : T_api_Rules} (hf : 13 ≤ fuel) : F25 fuel l = some (if vR l = true then (cd l, 0) else ([], 300)) := by
  unfold F25 F54
  rw [rval_eq hf, Option.bind_some]
  by_cases hv : vR l = true
  · have h12 : l.List.length ≤ 12 := by simp [vR] at hv; exact hv.1.1
    rw [if_pos hv, hv]
    have := comp_L (l := l) (by omega) fuel 0 [] (by omega) (by omega) (by simp; omega)
    simpa [cd] using this
  · rw [if_neg hv, Bool.eq_false_iff.mpr hv]; rfl
/-! ### The wished rules -/
theorem wish_L {w : T_croupierref30_Wish} {d : Int} (hd : 1 ≤ d) : ∀ (k i : Nat) (acc : List T_api_Rule), 13 ≤ k + i → i ≤ 12 → acc.length ≤ i → ∃ y, F24_L1 w d k i acc = some y
  | 0, i, acc, h, h', _ => by omega
  | k + 1, i, acc, h, h', ha => by
    rw [F24_L1]
    by_cases hi : i < w.L.length
    · rw [dlt hi, cond_true, Option.bind_some]
      by_cases hi2 : i < 12
      · have hg : geti w.L (i : Int) = some w.L[i] := by rw [geti_k]; exact List.getElem?_eq_getElem hi
        rw [show decide ((i : Int) < 12) = true from decide_eq_true (by omega), cond_true, hg, Option.bind_some, ass_t (decide_eq_true (by omega)), app_n _ _ (by simp; omega), Option.bind_some, wi i (by omega)]
        exact wish_L hd k (i + 1) _ (by omega) (by omega) (by simp; omega)
      · rw [show decide ((i : Int) < 12) = false from decide_eq_false (by omega), cond_false]
        exact ⟨_, rfl⟩
    · rw [dge (by omega), cond_false, Option.bind_some, cond_false]
      exact ⟨_, rfl⟩
/-! ### CodeCompiles -/
theorem wrap14 (d : Int) : ∃ n : Int, IntKind.i64.wrap (1 + (IntKind.i64.wrap (Int.tmod d 4))) = n ∧ (0 ≤ d → 1 ≤ n ∧ n ≤ 4) := by
  refine ⟨_, rfl, fun h => ?_⟩
  have h1 : Int.tmod d 4 = d % 4 := Int.tmod_eq_emod_of_nonneg h
  rw [h1, w64 (i := d % 4) (by omega) (by omega), w64 (by omega) (by omega)]; omega
end Go.Proofs.YtilfjfpemjfalaaGreatDoor
