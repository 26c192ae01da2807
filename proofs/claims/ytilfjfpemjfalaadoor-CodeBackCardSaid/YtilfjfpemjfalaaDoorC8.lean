/- Plain law of chapter 31: texts. -/
import Derived.Test.YtilfjfpemjfalaaDoorC3
import Derived.Test.YtilfjfpemjfalaaDoorFBa
namespace Go.Proofs.YtilfjfpemjfalaaDoor
open Go Go.RowKit Kx
set_option maxRecDepth 100000

/-! ### Numbers as texts -/
def D (n : Int) : List UInt8 := (itoaF n).getD []
theorem D_all : ((List.range 199).all fun i => match itoaF ((i : Int) - 99) with | some r => decide (1 ≤ r.length) && decide (r.length ≤ 3) | none => false) = true := by kernel_rfl
theorem D_eq {n : Int} (h0 : -99 ≤ n) (h1 : n ≤ 99) : itoaF n = some (D n) ∧ 1 ≤ (D n).length ∧ (D n).length ≤ 3 := by
  have h := List.all_eq_true.mp D_all (n + 99).toNat (List.mem_range.mpr (by omega))
  have e : (((n + 99).toNat : Nat) : Int) - 99 = n := by omega
  rw [e] at h
  unfold D
  cases hi : itoaF n with
  | none => rw [hi] at h; cases h
  | some r =>
    rw [hi] at h
    simp only [Bool.and_eq_true, decide_eq_true_eq] at h
    exact ⟨rfl, h⟩
def wordS (op : Int) : List UInt8 := ((geti [[], [101, 113], [108, 101], [103, 101], [103, 111], [97, 99, 116]] op).getD [])
def fieldsL (x : T_api_Instr) : List Int := bif x.Op == 4 then [x.Go] else bif x.Op == 5 then [x.Val] else [x.Var, x.Val, x.Go]
def flS : List Int → List UInt8
  | [] => []
  | f :: l => 32 :: (D f ++ flS l)
def lineS (x : T_api_Instr) : List UInt8 := wordS x.Op ++ (flS (fieldsL x) ++ [10])
def textS : List T_api_Instr → List UInt8
  | [] => []
  | x :: l => lineS x ++ textS l
/-- What a valid instruction's fields are. -/
theorem fields_ok {n i : Nat} {x : T_api_Instr} (hx : okI n i x = true) (hn : n ≤ 40) : (∀ f ∈ fieldsL x, -99 ≤ f ∧ f ≤ 99) ∧ 1 ≤ (fieldsL x).length ∧ (fieldsL x).length ≤ 3 := by
  unfold fieldsL
  rcases okI_dest hx with ⟨h1, h2, h3, h4, h5⟩ | ⟨h1, h2, h3, h4, h5⟩ | ⟨h1, h2, h3, h4⟩
  · rw [show (x.Op == 4) = false from beq_false_of_ne (by omega), show (x.Op == 5) = false from beq_false_of_ne (by omega), cond_false, cond_false]
    refine ⟨fun f hf => ?_, by simp, by simp⟩
    simp only [List.mem_cons, List.mem_nil_iff, or_false] at hf
    rcases hf with rfl | rfl | rfl <;> omega
  · rw [show (x.Op == 4) = true by rw [h1]; rfl, cond_true]
    refine ⟨fun f hf => ?_, by simp, by simp⟩
    simp only [List.mem_cons, List.mem_nil_iff, or_false] at hf
    subst hf; omega
  · rw [show (x.Op == 4) = false by rw [h1]; rfl, show (x.Op == 5) = true by rw [h1]; rfl, cond_false, cond_true]
    refine ⟨fun f hf => ?_, by simp, by simp⟩
    simp only [List.mem_cons, List.mem_nil_iff, or_false] at hf
    subst hf; omega
theorem flS_len : ∀ (l : List Int), (∀ f ∈ l, -99 ≤ f ∧ f ≤ 99) → (flS l).length ≤ 4 * l.length
  | [], _ => Nat.le_refl _
  | f :: l, h => by
    have h1 := D_eq (h f List.mem_cons_self).1 (h f List.mem_cons_self).2
    have ih := flS_len l (fun g hg => h g (List.mem_cons_of_mem _ hg))
    simp only [flS, List.length_cons, List.length_append]
    omega
theorem word_op {n i : Nat} {x : T_api_Instr} (hx : okI n i x = true) : geti [[], [101, 113], [108, 101], [103, 101], [103, 111], [97, 99, 116]] x.Op = some (wordS x.Op) ∧ 2 ≤ (wordS x.Op).length ∧ (wordS x.Op).length ≤ 3 := by
  have : x.Op = 1 ∨ x.Op = 2 ∨ x.Op = 3 ∨ x.Op = 4 ∨ x.Op = 5 := by
    rcases okI_dest hx with ⟨h1, _⟩ | ⟨h1, _⟩ | ⟨h1, _⟩ <;> omega
  rcases this with h | h | h | h | h <;> (rw [h]; exact ⟨rfl, by decide, by decide⟩)
theorem lineS_len {n i : Nat} {x : T_api_Instr} (hx : okI n i x = true) (hn : n ≤ 40) : (lineS x).length ≤ 20 := by
  have h1 := fields_ok hx hn
  have h2 := flS_len _ h1.1
  have h3 := (word_op hx).2
  unfold lineS
  simp only [List.length_append, List.length_cons, List.length_nil]
  omega
/-! ### The code's Print -/
theorem toI_app (s t : List UInt8) : (s.map toI) ++ (t.map toI) = (s ++ t).map toI := by rw [List.map_append]
theorem wr_eq (s t : List UInt8) (h : s.length + t.length ≤ 2147483648) : F25a t (s.map toI) = some ((t.length : Int), false, (s ++ t).map toI) := by
  unfold F25a F42a
  rw [Option.bind_some, app_n _ _ (by simpa using h), Option.bind_some, toI_app]
theorem wb_eq (s : List UInt8) (h : s.length + 1 ≤ 2147483648) : F28 10 (s.map toI) = some (false, (s ++ [10]).map toI) := by
  unfold F28 F42a
  rw [Option.bind_some, app_n _ _ (by simpa using h), Option.bind_some, List.map_append]; rfl
theorem str_eq (s : List UInt8) (h0 : 1 ≤ s.length) (h : s.length ≤ 2147483648) : F29 (s.map toI) = some s := by
  unfold F29
  rw [List.length_map, List.length_map, ass_t (decide_eq_true (by omega))]
  unfold ustr
  rw [List.length_map, decide_eq_true (show (0 : Int) < (s.length : Int) by omega), decide_eq_true (show 0 + (s.length : Int).toNat ≤ s.length by omega), decide_eq_true (show (s.length : Int) ≤ 2147483648 by omega)]
  simp only [Bool.and_self, cond_true, Option.bind_some, List.drop_zero, Int.toNat_natCast]
  congr 1
  rw [List.take_of_length_le (by simp), List.map_map]
  have : ∀ b : UInt8, (Function.comp (fun x : Int => x.toNat.toUInt8) toI) b = b := fun b => by
    show ((b.toNat : Int).toNat).toUInt8 = b
    rw [Int.toNat_natCast]
    simp
  rw [List.map_congr_left (fun b _ => this b), List.map_id']
theorem fld_eq (x : T_api_Instr) : F26 x = some (fieldsL x) := by
  unfold F26 fieldsL
  cases x.Op == 4 with
  | true => rfl
  | false => cases x.Op == 5 <;> rfl
theorem pr_L3 {v : Int} {fl : List Int} {rec : Int → List Int → Option (List UInt8 × Int)} (hf : ∀ f ∈ fl, -99 ≤ f ∧ f ≤ 99) (hfl : fl.length ≤ 3) : ∀ (k j : Nat) (s : List UInt8), fl.length + 1 ≤ k + j → j ≤ fl.length → s.length ≤ 1000000 + 10 * j → F13_L3 v fl rec k j (s.map toI) = rec (IntKind.i64.wrap (v + 1)) ((s ++ (flS (fl.drop j) ++ [10])).map toI)
  | 0, j, s, h, h', _ => by omega
  | k + 1, j, s, h, h', hs => by
    rw [F13_L3]
    by_cases hj : j < fl.length
    · have hd : fl.drop j = fl[j] :: fl.drop (j + 1) := List.drop_eq_getElem_cons hj
      have hg : geti fl (j : Int) = some fl[j] := by rw [geti_k]; exact List.getElem?_eq_getElem hj
      have hb := hf fl[j] (List.getElem_mem hj)
      obtain ⟨e1, e2, e3⟩ := D_eq hb.1 hb.2
      unfold F27
      rw [dlt hj, cond_true, hg, Option.bind_some, e1, Option.bind_some, ass_t (decide_eq_true (by simp; omega)), wr_eq _ _ (by simp; omega), Option.bind_some, wi j (by omega)]
      rw [pr_L3 hf hfl k (j + 1) _ (by omega) (by omega) (by simp; omega), hd, flS]
      simp
    · have : j = fl.length := by omega
      subst this
      rw [dge (Nat.le_refl _), cond_false, wb_eq _ (by omega), Option.bind_some, List.drop_length, flS]; rfl
theorem pr_L2 {fuel : Nat} (hfu : 5 ≤ fuel) {l : List T_api_Instr} (hg : good l = true) : ∀ (k i : Nat) (s : List UInt8), l.length + 1 ≤ k + i → i ≤ l.length → 1 ≤ i → i ≤ s.length → s.length ≤ 20 * i → F13_L2 fuel l k i (s.map toI) = some (s ++ textS (l.drop i), 0)
  | 0, i, s, h, h', _, _, _ => by omega
  | k + 1, i, s, h, h', h1, h2, h3 => by
    have hl := good_len hg
    rw [F13_L2]
    by_cases hi : i < l.length
    · have hd : l.drop i = l[i] :: l.drop (i + 1) := List.drop_eq_getElem_cons hi
      have hgi : geti l (i : Int) = some l[i] := by rw [geti_k]; exact List.getElem?_eq_getElem hi
      have hx := good_at hg (List.getElem?_eq_getElem hi)
      have hw := word_op hx
      have hf := fields_ok hx hl.2
      have hfl := flS_len _ hf.1
      have hll := lineS_len hx hl.2
      rw [dlt hi, cond_true, hgi, Option.bind_some, hw.1, Option.bind_some, wr_eq _ _ (by omega), Option.bind_some, fld_eq, Option.bind_some]
      have := pr_L3 (v := (i : Int)) (rec := F13_L2 fuel l k) hf.1 hf.2.2 fuel 0 (s ++ wordS (l[i]).Op) (by omega) (by omega) (by simp; omega)
      rw [List.drop_zero] at this
      refine Eq.trans this ?_
      rw [wi i (by omega), List.append_assoc]
      show F13_L2 fuel l k ((i + 1 : Nat) : Int) ((s ++ lineS l[i]).map toI) = _
      rw [pr_L2 hfu hg k (i + 1) _ (by omega) (by omega) (by omega) (by rw [List.length_append]; unfold lineS; simp; omega) (by rw [List.length_append]; omega), hd, textS, List.append_assoc]
    · have : i = l.length := by omega
      subst this
      rw [dge (Nat.le_refl _), cond_false, str_eq _ (by omega) (by omega), Option.bind_some, List.drop_length, textS, List.append_nil]
theorem pr_L1 {fuel : Nat} {l : List T_api_Instr} {fl : List Int} (hf : ∀ f ∈ fl, -99 ≤ f ∧ f ≤ 99) (hfl : fl.length ≤ 3) : ∀ (k j : Nat) (s : List UInt8), fl.length + 1 ≤ k + j → j ≤ fl.length → s.length ≤ 1000000 + 10 * j → F13_L1 fuel l fl k j (s.map toI) = F13_L2 fuel l fuel 1 ((s ++ (flS (fl.drop j) ++ [10])).map toI)
  | 0, j, s, h, h', _ => by omega
  | k + 1, j, s, h, h', hs => by
    rw [F13_L1]
    by_cases hj : j < fl.length
    · have hd : fl.drop j = fl[j] :: fl.drop (j + 1) := List.drop_eq_getElem_cons hj
      have hg : geti fl (j : Int) = some fl[j] := by rw [geti_k]; exact List.getElem?_eq_getElem hj
      have hb := hf fl[j] (List.getElem_mem hj)
      obtain ⟨e1, e2, e3⟩ := D_eq hb.1 hb.2
      unfold F27
      rw [dlt hj, cond_true, hg, Option.bind_some, e1, Option.bind_some, ass_t (decide_eq_true (by simp; omega)), wr_eq _ _ (by simp; omega), Option.bind_some, wi j (by omega)]
      rw [pr_L1 hf hfl k (j + 1) _ (by omega) (by omega) (by simp; omega), hd, flS]
      simp
    · have : j = fl.length := by omega
      subst this
      rw [dge (Nat.le_refl _), cond_false, wb_eq _ (by omega), Option.bind_some, List.drop_length, flS]; rfl
theorem print_eq {fuel : Nat} {l : List T_api_Instr} (hg : good l = true) (hf : 50 ≤ fuel) : F13 fuel l = some (textS l, 0) := by
  have hl := good_len hg
  have h0 : 0 < l.length := by omega
  have hd : l = l[0] :: l.drop 1 := by
    have := List.drop_eq_getElem_cons h0
    simpa using this
  have hx := good_at hg (List.getElem?_eq_getElem h0)
  have hw := word_op hx
  have hfo := fields_ok hx hl.2
  have hll := lineS_len hx hl.2
  unfold F13 F25 F42
  rw [valid_eq (by omega) (by omega), hg, Option.bind_some, show (!true) = false from rfl, cond_false, List.length_map, decide_eq_true (show (0 : Int) < (l.length : Int) by omega), cond_true, geti_0, List.getElem?_eq_getElem h0, Option.bind_some, hw.1, Option.bind_some, Option.bind_some, app_n _ _ (by simp; omega), Option.bind_some, Option.bind_some, fld_eq, Option.bind_some, List.nil_append]
  have := pr_L1 (fuel := fuel) (l := l) hfo.1 hfo.2.2 fuel 0 (wordS (l[0]).Op) (by omega) (by omega) (by omega)
  rw [List.drop_zero] at this
  refine Eq.trans this ?_
  show F13_L2 fuel l fuel ((1 : Nat) : Int) ((lineS l[0]).map toI) = _
  rw [pr_L2 (by omega) hg fuel 1 _ (by omega) (by omega) (by omega) (by unfold lineS; simp; omega) (by omega)]
  conv => rhs; rw [hd]
  rfl
theorem print_bad {fuel : Nat} {l : List T_api_Instr} (hg : good l = false) (hl : l.length < 1000000) (hf : l.length + 1 ≤ fuel) : F13 fuel l = some ([], 310) := by
  unfold F13
  rw [valid_eq hl hf, hg]; rfl
/-! ### The reference's text -/
theorem ass_s {α : Type} {m : Nat} {x : Option α} (h : m ≤ 1000000) : ass (decide (m ≤ 4611686018427387904)) x = x := ass_t (decide_eq_true (by omega))
end Go.Proofs.YtilfjfpemjfalaaDoor
